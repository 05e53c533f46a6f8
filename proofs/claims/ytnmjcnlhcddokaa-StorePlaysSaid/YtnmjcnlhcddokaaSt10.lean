/- slices.Insert of one item ahead of others. -/
import Derived.Test.YtnmjcnlhcddokaaSt9
namespace Go.Proofs.Ytnmjcnlhcddokaa.St
open Go.RowKit
set_option linter.unusedVariables false
set_option linter.unusedSimpArgs false

theorem size54 (w : World) : (Go.sizeOf 54).run Try.prog w = .ok 2 w := by kernel_rfl

/-- The shift: what lies from i on goes one further, the item comes into the gap. -/
theorem splice_insert (L : List Im) (x : Im) (i : Nat) (R : List Value) (hi : i ≤ L.length) (hR : 2 ≤ R.length) :
    splice (splice (vals L ++ R) ((i + 1) * 2) (vals (L.drop i))) (i * 2) (vals [x]) = vals (L.take i ++ x :: L.drop i) ++ R.drop 2 := by
  have hA : (vals (L.take i)).length = i * 2 := by rw [vals_length, List.length_take]; omega
  have hV : vals L = vals (L.take i) ++ vals (L.drop i) := by rw [← vals_append, List.take_append_drop]
  have hX : (vals [x]).length = 2 := rfl
  rw [vals_append, show vals (x :: L.drop i) = vals [x] ++ vals (L.drop i) from rfl, hV]
  generalize vals (L.take i) = A at hA
  generalize vals (L.drop i) = B
  generalize vals [x] = X at hX
  unfold splice
  have e1 : (i + 1) * 2 = i * 2 + 2 := by omega
  rw [e1, hX]
  have hlen : i * 2 + 2 ≤ (A ++ B ++ R).length := by simp only [List.length_append]; omega
  have hT : ((A ++ B ++ R).take (i * 2 + 2)).length = i * 2 + 2 := by rw [List.length_take]; omega
  have e2 : ((A ++ B ++ R).take (i * 2 + 2) ++ (B ++ (A ++ B ++ R).drop (i * 2 + 2 + B.length))).take (i * 2) = A := by
    rw [List.take_append_of_le_length (by omega), List.take_take, Nat.min_eq_left (by omega), List.append_assoc, ← hA, List.take_left]
  rw [e2]
  have e3 : (A ++ B ++ R).drop (i * 2 + 2 + B.length) = R.drop 2 := by
    have : i * 2 + 2 + B.length = (A ++ B).length + 2 := by rw [List.length_append]; omega
    rw [this, ← List.drop_drop, List.drop_left]
  rw [e3]
  have e4 : ((A ++ B ++ R).take (i * 2 + 2) ++ (B ++ R.drop 2)).drop (i * 2 + 2) = B ++ R.drop 2 := by
    rw [List.drop_append_of_le_length (by omega), List.drop_of_length_le (by omega), List.nil_append]
  rw [e4]
  simp [List.append_assoc]

set_option maxHeartbeats 2000000 in
theorem insert_mid_room (base g cap gx i : Nat) (x : Im) (L : List Im) (cur : Array Value) (cx : Array Value) (w : World) (hI : ItemsAt w g L) (hO : OneAll L) (hg : w.heap[g]? = some (.cells cur 54 (0, 0))) (hbg : base ≤ g) (hcs : cap * 2 ≤ cur.size) (hcm : cap ≤ 9223372036854775807)
    (hx : One w gx x) (hgx : w.heap[gx]? = some (.cells cx 54 (0, 0))) (hne : gx ≠ g) (hx1 : x.2.oneCell' = true) (hn : L.length ≤ 100000) (hcap : L.length + 1 ≤ cap) (hi1 : i < L.length) :
    Calls Try.prog 20 #[.slice (some ⟨g, 0, none⟩) L.length cap, .int .i64 i, .slice (some ⟨gx, 0, none⟩) 1 1] w (Inserted w base (.slice (some ⟨g, 0, none⟩) L.length cap) (L.take i ++ x :: L.drop i)) := by
  obtain ⟨i0, hi, hz0, hz1, hz2⟩ := info_parts info54
  have hlx : L.length * 2 + 2 ≤ cur.size := by omega
  have hcl : cur.toList = vals L ++ cur.toList.drop (L.length * 2) := by rw [← take_of_items hI hg, List.take_append_drop]
  have hRl : 2 ≤ (cur.toList.drop (L.length * 2)).length := by rw [List.length_drop, Array.length_toList]; omega
  generalize cur.toList.drop (L.length * 2) = R at hcl hRl
  have hgL : w.heap[g]? = some (.cells (vals L ++ R).toArray 54 (0, 0)) := by rw [hg, ← hcl]
  have hcsz : cur.size = L.length * 2 + R.length := by rw [← Array.length_toList, hcl, List.length_append, vals_length]
  have hov : ∀ lb cb, (callFunc 27 #[.slice (some ⟨gx, 0, none⟩) 1 1, .slice (some ⟨g, (i + 1) * 2, none⟩) lb cb]).run Try.prog w = .ok (.value (.bool false)) w := fun lb cb => by
    rw [run_callFunc_extern Try.func27 (by kernel_rfl) (by kernel_rfl) (by kernel_rfl) (e := Extern.SlicesOverlaps.overlaps #[47, 47] #[4]) (by kernel_rfl),
      Lib.run_overlaps_apart w 47 4 54 Try.underlying47 2 size54 ⟨gx, 0, none⟩ ⟨g, (i + 1) * 2, none⟩ 1 1 lb cb hne 54 54 cx.size cur.size (by simp [World.shape?, hgx]) (by simp [World.shape?, hg]) (by omega) (by simp [World.frozen?, hgx]) (by simp [World.frozen?, hgx])]
    rfl
  have hdl : (vals (L.drop i)).length = (L.length - i) * 2 := by rw [vals_length, List.length_drop]
  have hsp := splice_insert L x i R (by omega) hRl
  have hsl : (splice (vals L ++ R) ((i + 1) * 2) (vals (L.drop i))).length = (vals L ++ R).length := length_splice _ _ _ (by rw [hdl, List.length_append, vals_length]; omega)
  obtain ⟨W1, hW1⟩ : ∃ W1, W1 = w.drew.setRow g (splice (vals L ++ R) ((i + 1) * 2) (vals (L.drop i))).toArray := ⟨_, rfl⟩
  have g1 : W1.heap[g]? = some (.cells (splice (vals L ++ R) ((i + 1) * 2) (vals (L.drop i))).toArray 54 (0, 0)) := by rw [hW1]; exact setRow_new (w := w.drew) hgL
  have gr1 : w.drew.grownBy W1 (some g) := by rw [hW1]; exact grown_setRow (w := w.drew) hgL
  have x1 : One W1 gx x := fun j u hu => gr1.cell (hx j u hu) (by rw [add_lit]; simpa using hne)
  obtain ⟨W2, hW2⟩ : ∃ W2, W2 = W1.setRow g (splice (splice (vals L ++ R) ((i + 1) * 2) (vals (L.drop i))) (i * 2) (vals [x])).toArray := ⟨_, rfl⟩
  have g2 : W2.heap[g]? = some (.cells (vals (L.take i ++ x :: L.drop i) ++ R.drop 2).toArray 54 (0, 0)) := by rw [hW2, ← hsp]; exact setRow_new g1
  have gr2 : W1.grownBy W2 (some g) := by rw [hW2]; exact grown_setRow g1
  have fin : Row W2 base (.slice (some ⟨g, 0, none⟩) (L.length + 1) cap) (L.take i ++ x :: L.drop i) := by
    have hl : (L.take i ++ x :: L.drop i).length = L.length + 1 := by simp only [List.length_append, List.length_cons, List.length_take, List.length_drop]; omega
    exact .inr ⟨g, cap, _, by rw [hl], hbg, g2, by omega, hcm, by simp only [List.size_toArray, List.length_append, vals_length, hl, List.length_drop]; omega, items_of_block g2⟩
  have gfin : w.grownBy W2 (some g) :=
    ⟨gr2.os.trans gr1.os, gr2.tape.trans gr1.tape, gr2.output.trans gr1.output, Nat.le_trans gr1.size gr2.size, fun k hk hkg => (gr2.block k (Nat.lt_of_lt_of_le hk gr1.size) hkg).trans (gr1.block k hk hkg)⟩
  have hD : ∀ j v, (vals (L.drop i))[j]? = some v → w.drew.cell? ((⟨g, i * 2, none⟩ : Addr).add j) = some v := hI.dropped i
  have H1 := Lib.hid (vals_one (L := L.drop i) fun y hy => hO y (List.mem_of_mem_drop hy))
  have H2 := Lib.hid (vals_one (L := [x]) (by simpa using hx1))
  have HD := Lib.hid hD
  have HGL := Lib.hid (show w.drew.heap[g]? = some (.cells (vals L ++ R).toArray 54 (0, 0)) from hgL)
  have G1 := Lib.hid g1
  have X1 := Lib.hid x1
  have FIN := Lib.hid fin
  have GF := Lib.hid gfin
  have HW1 := Lib.hid hW1
  have HW2 := Lib.hid hW2
  have HDL := Lib.hid hdl
  have HSL := Lib.hid hsl
  have HOV := Lib.hid hov
  have HFT := Lib.hid (show (i + 1) * 2 + (vals (L.drop i)).length ≤ (vals L ++ R).length by rw [hdl, List.length_append, vals_length]; omega)
  have HFT2 := Lib.hid (show i * 2 + (vals [x]).length ≤ (splice (vals L ++ R) ((i + 1) * 2) (vals (L.drop i))).length by rw [hsl, List.length_append, vals_length, vals_length]; simp only [List.length_cons, List.length_nil]; omega)
  have hb1 : (0 : Int) ≤ (i : Int) + 1 := by omega
  have hb2 : ¬ (cap = i + 1) := by omega
  have hb3 : (i : Int) ≤ (L.length : Int) + 1 := by omega
  have hb4 : ¬ (cap = i) := by omega
  have hb5 : (i : Int) + 1 ≤ (L.length : Int) + 1 := by omega
  have hw1 : IntKind.i64.wrap ((i : Int) + 1) = (i : Int) + 1 := IntWalk.i64_in _ (by omega)
  clear hI hO hg hx hgx hx1 hgL hcl hov hdl hsp hsl hW1 g1 gr1 x1 hW2 g2 gr2 fin gfin hD
  go_enter Try.func20, Try.ntmps20
  go_wp2_with (simp only [HOV.out])
  go_region_law (refine step_copy_rows rfl (.tmp 73) (.tmp 76) 47 47 rfl 54 i0 Try.underlying47 hi g ((i + 1) * 2) (L.length - i) (cap - (i + 1)) ⟨g, i * 2, none⟩ (L.length + 1 - i) (cap - i) (L.length - i) (by simp [Act.eval, Act.put]) (by simp [Act.eval, Act.put]) (vals L ++ R) 54 HGL.out (vals (L.drop i)) (by simp only [Nat.min_def]; split <;> omega) (by rw [HDL.out, hz1]) HD.out HFT.out H1.out ?_; rw [← HW1.out])
  go_wp2_with (refine wpList_copy_rows rfl (.tmp 80) (.tmp 81) 47 47 rfl 54 i0 Try.underlying47 hi g (i * 2) (L.length + 1 - i) (cap - i) ⟨gx, 0, none⟩ 1 1 1 rfl rfl (splice (vals L ++ R) ((i + 1) * 2) (vals (L.drop i))) 54 G1.out (vals [x]) (by simp only [Nat.min_def]; split <;> omega) (by rw [hz1]; rfl) X1.out HFT2.out H2.out ?_; rw [← HW2.out])
  go_ret
  exact ⟨_, rfl, FIN.out, GF.out, fun k hk => .inl hk⟩

end Go.Proofs.Ytnmjcnlhcddokaa.St
