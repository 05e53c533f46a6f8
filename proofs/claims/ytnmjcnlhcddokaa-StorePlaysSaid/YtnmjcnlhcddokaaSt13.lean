/- Floor: the bytes at the greatest position that is not above one. -/
import Derived.Test.YtnmjcnlhcddokaaSt12
import Derived.Deep.RegionHeld3
namespace Go.Proofs.Ytnmjcnlhcddokaa.St
open Go.RowKit
set_option linter.unusedVariables false
set_option linter.unusedSimpArgs false

abbrev It := Int × List UInt8
/-- The items' values hold the bytes. -/
def Items (w : World) (base : Nat) (L : List Im) (l : List It) : Prop :=
  L.length = l.length ∧ ∀ t, t < L.length → pos L t = (l.getD t (0, [])).1 ∧ BytesAt w base (vat L t) (l.getD t (0, [])).2

def FloorPost (w : World) (L : List Im) (l : List It) (p : Int) (e : Ending) (w' : World) : Prop :=
  Below w.heap.size w w' ∧
  ((e = .returned (.tuple #[.int .i64 0, .slice none 0 0, .bool false]) ∧ ∀ t, t < L.length → p < pos L t) ∨
   ∃ j A n c, j < L.length ∧ pos L j ≤ p ∧ (∀ t, j < t → t < L.length → p < pos L t) ∧ e = .returned (.tuple #[.int .i64 (pos L j), .slice A n c, .bool true]) ∧ n = (l.getD j (0, [])).2.length ∧ BytesAt w' w.heap.size (.slice A n c) (l.getD j (0, [])).2)

set_option maxHeartbeats 2000000 in
theorem floor_any (base s : Nat) (most p : Int) (v : Value) (L : List Im) (l : List It) (w : World) (hs : w.heap[s]? = some (.cells #[.int .i64 most, v] 49 (0, 0))) (hm : 0 < most) (hr : Row w base v L) (hso : Sorted L) (hn : L.length ≤ 100) (hit : Items w base L l) :
    Calls Try.prog 10 #[.pointer (some ⟨s, 0, none⟩), .int .i64 p] w (FloorPost w L l p) := by
  have HS := Lib.hid hs
  have HR := Lib.hid hr
  have HSO := Lib.hid hso
  have HIT := Lib.hid hit
  clear hs hr hso hit
  go_enter Try.func10, Try.ntmps10
  go_wp2_with (go_at_call 17; refine (made_some s most _ _ HS.out hm).mono ?_; rintro e w' ⟨rfl, rfl⟩)
  refine (find_any base s most p v L _ HS.out HR.out (by omega) HSO.out).mono ?_
  rintro e w1 ⟨i, hi, hl, rfl, hb1⟩
  have HL := Lib.hid hl
  have HB1 := Lib.hid hb1
  clear hl hb1
  have hc : (i < L.length ∧ pos L i = p) ∨ (¬ (i < L.length ∧ pos L i = p) ∧ i = 0) ∨ ∃ j, ¬ (i < L.length ∧ pos L i = p) ∧ i = j + 1 := by
    by_cases h : i < L.length ∧ pos L i = p
    · exact .inl h
    · rcases i with _ | j
      · exact .inr (.inl ⟨h, rfl⟩)
      · exact .inr (.inr ⟨j, h, rfl⟩)
  rcases hc with ⟨hth1, hth2⟩ | ⟨hth, rfl⟩ | ⟨j, hth, rfl⟩
  · have hd : (decide (i < L.length) && decide (pos L i = p)) = true := by simp [hth1, hth2]
    rw [hd]
    clear hd
    have HJ : Hid (pos L i ≤ p ∧ ∀ t, i < t → t < L.length → p < pos L t) := ⟨Int.le_of_eq hth2, fun t h1 h2 => by rw [← hth2]; exact HSO.out i t h1 h2⟩
    rcases HR.out.below HB1.out with ⟨rfl, rfl⟩ | ⟨g, cap, cur, rfl, hbg, hg, hc, hcm, hcs, hI⟩
    · simp at hth1
    clear hth2
    have hit := (HIT.out.2 i hth1).2.below HB1.out
    generalize hbs : (l.getD i (0, [])).2 = bs at hit
    have HBS := Lib.hid hbs
    obtain ⟨A, c, hv⟩ := owns_form hit.1
    have c1 := cell_of_row w1 s 1 _ _ _ (heap_below HB1.out HS.out)
    obtain ⟨c2, c3⟩ := hI i hth1
    rw [hv] at c3 hit
    have HV := Lib.hid (show BytesAt w1.drew base (.slice A bs.length c) bs from hit)
    clear hit hI hg hv hbs
    go_wp2_with fail
    go_region_held3 (fun w' => w'.cell? ⟨s, 1, none⟩ = some (.slice (some ⟨g, 0, none⟩) L.length cap) ∧ w'.cell? ⟨g, i * 2, none⟩ = some (.int .i64 (pos L i)) ∧ w'.cell? ⟨g, i * 2 + 1, none⟩ = some (.slice A bs.length c)) (first | exact ⟨q1, q2, q3⟩ | go_keep) (first | (go_at_call 18; refine (clone_slice _ _ _ (bytesIn_owns HV.out.1) HV.out.2).mono ?_; rintro e w2 ⟨A2, n2, rfl, ho, hb'⟩; have q1 : w2.cell? ⟨s, 1, none⟩ = some (.slice (some ⟨g, 0, none⟩) L.length cap) := (hb'.cell (World.block_lt_of_cell? w1 _ c1)).trans c1; have q2 : w2.cell? ⟨g, i * 2, none⟩ = some (.int .i64 (pos L i)) := (hb'.cell (World.block_lt_of_cell? w1 _ c2)).trans c2; have q3 : w2.cell? ⟨g, i * 2 + 1, none⟩ = some (.slice A bs.length c) := (hb'.cell (World.block_lt_of_cell? w1 _ c3)).trans c3; have HO2 := Lib.hid ho; have HB2 := Lib.hid hb'; clear ho hb'))
    have fin : FloorPost w L l p (.returned (.tuple #[.int .i64 (pos L i), .slice A2 bs.length n2, .bool true])) w2 :=
      ⟨HB1.out.drew.trans (HB2.out.mono HB1.out.size), .inr ⟨i, A2, bs.length, n2, hth1, HJ.out.1, HJ.out.2, rfl, by rw [HBS.out], by rw [HBS.out]; exact HO2.out.lower HB1.out.size⟩⟩
    have FIN := Lib.hid fin
    clear fin q1 q2 q3
    go_wp2
    go_ret3
    exact FIN.out
  · have hd : (decide (0 < L.length) && decide (pos L 0 = p)) = false := by
      rcases Classical.not_and_iff_not_or_not.1 hth with h | h <;> simp [h]
    rw [hd]
    clear hd
    have fin : FloorPost w L l p (.returned (.tuple #[.int .i64 0, .slice none 0 0, .bool false])) w1 := by
      refine ⟨HB1.out, .inl ⟨rfl, fun t ht => ?_⟩⟩
      have h0 := HL.out.2 0 (Nat.zero_le _) (by omega)
      have hne : pos L 0 ≠ p := fun e => hth ⟨by omega, e⟩
      have := HSO.out.le 0 t (Nat.zero_le _) ht
      omega
    have FIN := Lib.hid fin
    clear fin hth
    go_wp2
    go_ret3
    exact FIN.out
  · have hd : (decide (j + 1 < L.length) && decide (pos L (j + 1) = p)) = false := by
      rcases Classical.not_and_iff_not_or_not.1 hth with h | h <;> simp [h]
    rw [hd]
    clear hd
    have hjl : j < L.length := by omega
    have HJ : Hid (pos L j ≤ p ∧ ∀ t, j < t → t < L.length → p < pos L t) := by
      refine ⟨Int.le_of_lt (HL.out.1 j (by omega)), fun t h1 h2 => ?_⟩
      have h3 := HL.out.2 (j + 1) (Nat.le_refl _) (by omega)
      have hne : pos L (j + 1) ≠ p := fun e => hth ⟨by omega, e⟩
      have := HSO.out.le (j + 1) t (by omega) h2
      omega
    rcases HR.out.below HB1.out with ⟨rfl, rfl⟩ | ⟨g, cap, cur, rfl, hbg, hg, hc, hcm, hcs, hI⟩
    · simp at hjl
    clear hth
    have hjj : ((j + 1 : Nat) : Int) = (j : Int) + 1 := by omega
    rw [hjj]
    clear hjj
    have hit := (HIT.out.2 j hjl).2.below HB1.out
    generalize hbs : (l.getD j (0, [])).2 = bs at hit
    have HBS := Lib.hid hbs
    obtain ⟨A, c, hv⟩ := owns_form hit.1
    have c1 := cell_of_row w1 s 1 _ _ _ (heap_below HB1.out HS.out)
    obtain ⟨c2, c3⟩ := hI j hjl
    rw [hv] at c3 hit
    have HV := Lib.hid (show BytesAt w1.drew base (.slice A bs.length c) bs from hit)
    clear hit hI hg hv hbs
    go_wp2_with fail
    go_region_held3 (fun w' => w'.cell? ⟨s, 1, none⟩ = some (.slice (some ⟨g, 0, none⟩) L.length cap) ∧ w'.cell? ⟨g, j * 2, none⟩ = some (.int .i64 (pos L j)) ∧ w'.cell? ⟨g, j * 2 + 1, none⟩ = some (.slice A bs.length c)) (first | exact ⟨q1, q2, q3⟩ | go_keep) (first | (go_at_call 18; refine (clone_slice _ _ _ (bytesIn_owns HV.out.1) HV.out.2).mono ?_; rintro e w2 ⟨A2, n2, rfl, ho, hb'⟩; have q1 : w2.cell? ⟨s, 1, none⟩ = some (.slice (some ⟨g, 0, none⟩) L.length cap) := (hb'.cell (World.block_lt_of_cell? w1 _ c1)).trans c1; have q2 : w2.cell? ⟨g, j * 2, none⟩ = some (.int .i64 (pos L j)) := (hb'.cell (World.block_lt_of_cell? w1 _ c2)).trans c2; have q3 : w2.cell? ⟨g, j * 2 + 1, none⟩ = some (.slice A bs.length c) := (hb'.cell (World.block_lt_of_cell? w1 _ c3)).trans c3; have HO2 := Lib.hid ho; have HB2 := Lib.hid hb'; clear ho hb'))
    have fin : FloorPost w L l p (.returned (.tuple #[.int .i64 (pos L j), .slice A2 bs.length n2, .bool true])) w2 :=
      ⟨HB1.out.drew.trans (HB2.out.mono HB1.out.size), .inr ⟨j, A2, bs.length, n2, hjl, HJ.out.1, HJ.out.2, rfl, by rw [HBS.out], by rw [HBS.out]; exact HO2.out.lower HB1.out.size⟩⟩
    have FIN := Lib.hid fin
    clear fin q1 q2 q3
    go_wp2
    go_ret3
    exact FIN.out

end Go.Proofs.Ytnmjcnlhcddokaa.St
