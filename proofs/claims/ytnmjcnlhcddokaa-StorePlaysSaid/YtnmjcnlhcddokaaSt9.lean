/- slices.Insert of one item at its end. -/
import Derived.Test.YtnmjcnlhcddokaaSt8
namespace Go.Proofs.Ytnmjcnlhcddokaa.St
open Go.RowKit
set_option linter.unusedVariables false
set_option linter.unusedSimpArgs false

/-- One item in a block. -/
def One (w : World) (gx : Nat) (x : Im) : Prop := ∀ j u, (vals [x])[j]? = some u → w.cell? ((⟨gx, 0, none⟩ : Addr).add j) = some u

theorem grown_setRow {w : World} {g : Nat} {cur cs : Array Value} {t : TypeId} (hg : w.heap[g]? = some (.cells cur t (0, 0))) : w.grownBy (w.setRow g cs) (some g) :=
  ⟨rfl, rfl, rfl, by simp [World.setRow], fun k _ hk => setRow_other w g k _ (fun e => hk (by rw [e]))⟩

/-- What an insertion comes to. -/
def Inserted (w : World) (base : Nat) (v : Value) (L : List Im) (e : Ending) (w' : World) : Prop :=
  ∃ v', e = .returned v' ∧ Row w' base v' L ∧ w.grownBy w' v.ownBlock ∧ NewRow w v v'

theorem take_of_items {w : World} {g : Nat} {L : List Im} {cur : Array Value} {t : TypeId} (hI : ItemsAt w g L) (hg : w.heap[g]? = some (.cells cur t (0, 0))) : cur.toList.take (L.length * 2) = vals L := by
  apply List.ext_getElem?
  intro j
  by_cases hj : j < L.length * 2
  · have hlt : j < (vals L).length := by rw [vals_length]; exact hj
    have h1 := itemsAt_iff.1 hI j _ (List.getElem?_eq_getElem hlt)
    rw [cell_of_row w g j cur t (0, 0) hg] at h1
    rw [List.getElem?_take_of_lt hj, List.getElem?_eq_getElem hlt, ← h1]
    simp
  · rw [List.getElem?_eq_none (by rw [List.length_take]; omega), List.getElem?_eq_none (by rw [vals_length]; omega)]
/-- A block that begins with the items. -/
theorem items_of_block {w : World} {g : Nat} {L : List Im} {R : List Value} {t : TypeId} (hg : w.heap[g]? = some (.cells (vals L ++ R).toArray t (0, 0))) : ItemsAt w g L := by
  refine itemsAt_iff.2 (fun j u hu => ?_)
  rw [cell_of_row w g j _ t (0, 0) hg]
  have hlt : j < (vals L).length := (List.getElem?_eq_some_iff.1 hu).1
  simp [List.getElem?_append_left hlt, hu]

theorem insert_nil (base gx : Nat) (x : Im) (w : World) (hx : One w gx x) (hx1 : x.2.oneCell' = true) (hb : base ≤ w.heap.size) :
    Calls Try.prog 20 #[.slice none 0 0, .int .i64 0, .slice (some ⟨gx, 0, none⟩) 1 1] w (Inserted w base (.slice none 0 0) [x]) := by
  obtain ⟨i0, hi, hz0, hz1, hz2⟩ := info_parts info54
  have H := Lib.hid hx
  have H1 := Lib.hid (vals_one (L := [x]) (by simpa using hx1))
  have HO := Lib.hid (World.ownsRow_nil w w.heap.size 54 2)
  clear hx
  go_enter Try.func20, Try.ntmps20
  go_wp2_with (at_builtin; refine wpList_append_own _ rfl _ _ 47 rfl w.heap.size 54 i0 _ 2 32 Try.underlying47 hi hz0 hz1 hz2 rfl (by decide) _ 0 [] rfl HO.out ⟨gx, 0, none⟩ 1 1 (vals [x]) rfl rfl H.out H1.out (by unfold maxLen; omega) (by omega) (Nat.le_refl _) ?_; intro v' w1 hown' hgrow _; have HO' := Lib.hid hown'; have HG := Lib.hid hgrow; clear hown' hgrow)
  go_ret
  have ho := HO'.out
  exact ⟨_, rfl, (row_of_owns ho).lower hb, HG.out, fun k hk => .inr (row_block (row_of_owns ho) k hk).1⟩

theorem insert_end_grow (base g cap gx : Nat) (x : Im) (L : List Im) (cur : Array Value) (w : World) (hI : ItemsAt w g L) (hg : w.heap[g]? = some (.cells cur 54 (0, 0)))
    (hx : One w gx x) (hx1 : x.2.oneCell' = true) (hb : base ≤ w.heap.size) (hn : L.length ≤ 100000) (hc : L.length ≤ cap) (hcap : cap < L.length + 1) :
    Calls Try.prog 20 #[.slice (some ⟨g, 0, none⟩) L.length cap, .int .i64 L.length, .slice (some ⟨gx, 0, none⟩) 1 1] w (Inserted w base (.slice (some ⟨g, 0, none⟩) L.length cap) (L ++ [x])) := by
  obtain ⟨i0, hi, hz0, hz1, hz2⟩ := info_parts info54
  obtain ⟨v', w1, hrun, hown, hgrow⟩ := run_append_arg_grows (P := Try.prog) w 47 47 54 i0 _ 2 32 Try.underlying47 hi hz0 hz1 hz2 rfl (by decide) ⟨g, 0, none⟩ L.length cap (vals L) (vals_length L)
    (fun j u hj => by rw [add_lit]; exact itemsAt_iff.1 hI j u hj) ⟨gx, 0, none⟩ 1 1 (vals [x]) rfl hx hcap (by unfold maxLen; omega) (by omega)
  have HR := Lib.hid hrun
  have HO := Lib.hid hown
  have HG := Lib.hid hgrow
  clear hrun hown hgrow hI hx hg
  go_enter Try.func20, Try.ntmps20
  go_wp2_with (at_builtin; refine Lib.wpList_append_run _ rfl _ _ _ _ rfl _ _ rfl rfl _ _ HR.out ?_)
  go_ret
  have ho := HO.out
  rw [← vals_append] at ho
  have hl : L.length + 1 = (L ++ [x]).length := by simp
  rw [hl] at ho
  refine ⟨_, rfl, ?_, ⟨HG.out.os, HG.out.tape, HG.out.output, HG.out.size, fun k hk _ => HG.out.block k hk (by simp)⟩, fun k hk => .inr (row_block (row_of_owns ho) k hk).1⟩
  rcases row_of_owns ho with h | ⟨gn, capn, curn, hv, hbn, rest⟩
  · exact .inl h
  · exact .inr ⟨gn, capn, curn, hv, by omega, rest⟩

theorem insert_end_room (base g cap gx : Nat) (x : Im) (L : List Im) (cur : Array Value) (w : World) (hI : ItemsAt w g L) (hg : w.heap[g]? = some (.cells cur 54 (0, 0))) (hbg : base ≤ g) (hcs : cap * 2 ≤ cur.size)
    (hx : One w gx x) (hx1 : x.2.oneCell' = true) (hb : base ≤ w.heap.size) (hn : L.length ≤ 100000) (hc : L.length ≤ cap) (hcm : cap ≤ 9223372036854775807) (hcap : L.length + 1 ≤ cap) :
    Calls Try.prog 20 #[.slice (some ⟨g, 0, none⟩) L.length cap, .int .i64 L.length, .slice (some ⟨gx, 0, none⟩) 1 1] w (Inserted w base (.slice (some ⟨g, 0, none⟩) L.length cap) (L ++ [x])) := by
  obtain ⟨i0, hi, hz0, hz1, hz2⟩ := info_parts info54
  have hrun := run_append_room (P := Try.prog) w 47 47 54 i0 Try.underlying47 hi g L.length cap cur hg ⟨gx, 0, none⟩ 1 1 (vals [x]) (by rw [hz1]; rfl) hx (vals_one (by simpa using hx1)) hcap (by rw [hz1]; simp [vals]; omega)
  rw [hz1, take_of_items hI hg] at hrun
  have hblk := setRow_new hg (cs := (vals L ++ vals [x] ++ cur.toList.drop (L.length * 2 + (vals [x]).length)).toArray)
  have hgr := grown_setRow hg (cs := (vals L ++ vals [x] ++ cur.toList.drop (L.length * 2 + (vals [x]).length)).toArray)
  generalize w.setRow g _ = W1 at hrun hblk hgr
  rw [← vals_append] at hblk
  have fin : Row W1 base (.slice (some ⟨g, 0, none⟩) (L.length + 1) cap) (L ++ [x]) :=
    .inr ⟨g, cap, _, by simp, hbg, hblk, by simpa using hcap, hcm, by simp [vals, vals_length]; omega, items_of_block hblk⟩
  have HR := Lib.hid hrun
  have FIN := Lib.hid fin
  have HG := Lib.hid hgr
  clear hrun fin hgr hblk hI hx hg
  go_enter Try.func20, Try.ntmps20
  go_wp2_with (at_builtin; refine Lib.wpList_append_run _ rfl _ _ _ _ rfl _ _ rfl rfl _ _ HR.out ?_)
  go_ret
  exact ⟨_, rfl, FIN.out, HG.out, fun k hk => .inl hk⟩

end Go.Proofs.Ytnmjcnlhcddokaa.St
