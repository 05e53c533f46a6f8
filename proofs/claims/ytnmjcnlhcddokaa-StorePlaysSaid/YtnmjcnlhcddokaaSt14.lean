/- All: the positions; New. -/
import Derived.Test.YtnmjcnlhcddokaaSt13
namespace Go.Proofs.Ytnmjcnlhcddokaa.St
open Go.RowKit
set_option linter.unusedVariables false
set_option linter.unusedSimpArgs false

theorem info3 : (Try.prog.info? 3).map (fun i => (i.zero, i.size, i.bytes)) = some (some (.int .i64 0), 1, 8) := by kernel_rfl
def posns (L : List Im) : List Int := L.map (·.1)
def ints (xs : List Int) : List Value := xs.map (Value.int .i64)
theorem ints_snoc (L : List Im) (k : Nat) (h : k < L.length) : ints (posns (L.take k)) ++ [.int .i64 (pos L k)] = ints (posns (L.take (k + 1))) := by
  have hp : pos L k = (L[k]).1 := by simp [pos, List.getD_eq_getElem?_getD, h]
  rw [List.take_succ_eq_append_getElem h, hp]
  simp only [ints, posns, List.map_append, List.map_cons, List.map_nil]

set_option maxHeartbeats 1000000 in
theorem all_any (base s : Nat) (most : Int) (v : Value) (L : List Im) (w : World) (hs : w.heap[s]? = some (.cells #[.int .i64 most, v] 49 (0, 0))) (hm : 0 < most) (hr : Row w base v L) (hn : L.length ≤ 100) (hO : ∀ t, t < L.length → ∃ A n c, vat L t = .slice A n c) :
    Calls Try.prog 13 #[.pointer (some ⟨s, 0, none⟩)] w fun e w' => ∃ v', e = .returned v' ∧ w'.ownsRow w.heap.size 3 1 v' L.length (ints (posns L)) ∧ Below w.heap.size w w' := by
  obtain ⟨i0, hi, hz0, hz1, hz2⟩ := info_parts info3
  obtain ⟨av, cv, rfl⟩ := row_form hr
  have h1 := cell_of_row w s 1 _ _ _ hs
  have HS := Lib.hid hs
  have HR := Lib.hid hr
  have HON := Lib.hid (World.ownsRow_nil w w.heap.size 3 1)
  have HOA := Lib.hid hO
  clear hs hr hO
  go_enter Try.func13, Try.ntmps13
  go_wp2_with (go_at_call 17; refine (made_some s most _ _ HS.out hm).mono ?_; rintro e w' ⟨rfl, rfl⟩)
  go_loopg [3, 5, 14] L.length (fun kx s3 s5 s14 wr => ∃ k : Nat, s14 = .int .i64 k ∧ k ≤ L.length ∧ L.length - k ≤ kx ∧ Hid (wr.ownsRow w.heap.size 3 1 s3 k (ints (posns (L.take k)))) ∧ Hid (Below w.heap.size w wr))
  case atStart => exact ⟨0, rfl, Nat.zero_le _, by omega, HON.out, Below.refl _ _⟩
  case round =>
    obtain ⟨k, rfl, hk, hkx, HO, HB⟩ := hrel
    by_cases hlt : k < L.length
    · rcases HR.out.below HB.out with ⟨_, rfl⟩ | ⟨g, cap, cur, hv, hbg, hg, hc, hcm, hcs, hI⟩
      · simp at hlt
      injection hv with hv1 hv2 hv3
      subst hv1 hv3
      obtain ⟨c2, c3⟩ := hI k hlt
      obtain ⟨A, n, c, hvt⟩ := HOA.out k hlt
      rw [hvt] at c3
      have hsn := ints_snoc L k hlt
      have HSN := Lib.hid hsn
      have hbw := HB.out.size
      have hbl := fun g' => (fun e => ((HO.out.lt (k := g') e).1))
      have hcell := cell_one_new (wr.alloc (.cells #[.int .i64 (pos L k), .slice A n c] 54)) (.int .i64 (pos L k)) 3
      rw [World.size_alloc] at hcell
      have HC := Lib.hid hcell
      have HBL := Lib.hid hbl
      clear hI hg hvt hsn hcell hbl
      go_wp2_with (at_builtin; (refine wpList_append_own _ rfl _ _ 42 rfl w.heap.size 3 i0 (.int .i64 0) 1 8 Try.underlying42 hi hz0 hz1 hz2 rfl (by decide) _ k _ rfl ((HO.out.alloc _).alloc _) ⟨wr.heap.size + 1, 0, none⟩ 1 1 [.int .i64 (pos L k)] rfl rfl HC.out (by intro u hu; rw [List.mem_singleton.1 hu]; rfl) (by unfold maxLen; omega) (by omega) (by simp only [World.size_alloc]; omega) ?_; intro v' w1 hown' hgrow _; have HO' := Lib.hid hown'; have HG := Lib.hid hgrow; clear hown' hgrow))
      go_roundg (L.length - (k + 1))
      case measure => omega
      case rel =>
        have ho := HO'.out
        rw [HSN.out] at ho
        exact ⟨k + 1, by go_num, by omega, Nat.le_refl _, ho, (((HB.out.alloc hbw _).alloc (by simp only [World.size_alloc]; omega) _).grown HG.out (by simp only [World.size_alloc]; omega) (fun k' hk' => HBL.out k' hk'))⟩
    · obtain rfl : k = L.length := by omega
      go_wp2
      go_ret
      have ho := HO.out
      rw [List.take_length] at ho
      exact ⟨_, rfl, ho, HB.out⟩

theorem new_any (n : Int) (w : World) : Calls Try.prog 5 #[.int .i64 n] w fun e w' => e = .returned (.pointer (some ⟨w.heap.size, 0, none⟩)) ∧
    w'.heap[w.heap.size]? = some (.cells #[.int .i64 (if n < 1 then 1 else if 64 < n then 64 else n), .slice none 0 0] 49 (0, 0)) ∧ Below w.heap.size w w' := by
  by_cases h1 : n < 1
  · rw [if_pos h1]
    go_enter Try.func5, Try.ntmps5
    go_wp2
    all_goals go_ret
    all_goals exact ⟨rfl, heap_alloc_new _ _, (Below.refl _ _).alloc (Nat.le_refl _) _⟩
  · by_cases h2 : 64 < n
    · rw [if_neg h1, if_pos h2]
      go_enter Try.func5, Try.ntmps5
      go_wp2
      all_goals go_ret
      all_goals exact ⟨rfl, heap_alloc_new _ _, (Below.refl _ _).alloc (Nat.le_refl _) _⟩
    · rw [if_neg h1, if_neg h2]
      go_enter Try.func5, Try.ntmps5
      go_wp2
      all_goals go_ret
      all_goals first | exact ⟨rfl, heap_alloc_new _ _, (Below.refl _ _).alloc (Nat.le_refl _) _⟩ | (obtain rfl : n = 1 := (by omega); exact ⟨rfl, heap_alloc_new _ _, (Below.refl _ _).alloc (Nat.le_refl _) _⟩)

end Go.Proofs.Ytnmjcnlhcddokaa.St
