/- Same, at equal numbers. -/
import Derived.Test.YtnmjcnlhcddokaaSt17
namespace Go.Proofs.Ytnmjcnlhcddokaa.St
open Go.RowKit
set_option linter.unusedVariables false
set_option linter.unusedSimpArgs false

def IntsAt (w : World) (v : Value) (xs : List Int) : Prop :=
  (v = .slice none 0 0 ∧ xs = []) ∨ ∃ g c, v = .slice (some ⟨g, 0, none⟩) xs.length c ∧ g < w.heap.size ∧ ∀ t, t < xs.length → w.cell? ⟨g, t, none⟩ = some (.int .i64 (xs.getD t 0))
theorem IntsAt.below {w w' : World} {v : Value} {xs : List Int} (h : IntsAt w v xs) (hb : Below w.heap.size w w') : IntsAt w' v xs := by
  rcases h with h | ⟨g, c, hv, hg, hc⟩
  · exact .inl h
  · exact .inr ⟨g, c, hv, Nat.lt_of_lt_of_le hg hb.size, fun t ht => (hb.cell (p := ⟨g, t, none⟩) hg).trans (hc t ht)⟩
theorem intsAt_owns {w : World} {base : Nat} {v : Value} {xs : List Int} (h : w.ownsRow base 3 1 v xs.length (ints xs)) : IntsAt w v xs := by
  rcases h.2 with ⟨rfl, h0⟩ | ⟨g, cap, cur, rfl, hb, hg, rest⟩
  · exact .inl ⟨rfl, List.eq_nil_of_length_eq_zero h0⟩
  · refine .inr ⟨g, cap, rfl, lt_of_heap hg, fun t ht => ?_⟩
    have := h.cells (g := g) rfl t (.int .i64 (xs.getD t 0)) (by simp [ints, List.getD_eq_getElem?_getD, ht])
    rwa [add_lit] at this
theorem intsAt_new (w : World) (xs : List Int) (c : Nat) : IntsAt (w.alloc (.cells (ints xs).toArray 3)) (.slice (some ⟨w.heap.size, 0, none⟩) xs.length c) xs := by
  refine .inr ⟨w.heap.size, c, rfl, by simp, fun t ht => ?_⟩
  rw [cell_of_row _ _ t _ _ _ (heap_alloc_new w _)]
  simp [ints, List.getD_eq_getElem?_getD, ht]

theorem same_true (v v' : Value) (xs : List Int) (w : World) (h : IntsAt w v xs) (h' : IntsAt w v' xs) (hn : xs.length ≤ 1000) :
    Calls Try.prog 12 #[v, v'] w fun e w' => e = .returned (.bool true) ∧ Below w.heap.size w w' := by
  have key : ∀ (A B : Option Addr) (c d : Nat), (∀ t, t < xs.length → ∃ g g', A = some ⟨g, 0, none⟩ ∧ B = some ⟨g', 0, none⟩ ∧ w.cell? ⟨g, t, none⟩ = some (.int .i64 (xs.getD t 0)) ∧ w.cell? ⟨g', t, none⟩ = some (.int .i64 (xs.getD t 0))) →
      Calls Try.prog 12 #[.slice A xs.length c, .slice B xs.length d] w fun e w' => e = .returned (.bool true) ∧ Below w.heap.size w w' := by
    intro A B c d hc
    have HC := Lib.hid hc
    clear hc h h'
    go_enter Try.func12, Try.ntmps12
    go_wp2
    go_loopg [5] xs.length (fun kx s5 wr => ∃ k : Nat, s5 = .int .i64 k ∧ k ≤ xs.length ∧ xs.length - k ≤ kx ∧ Hid (∃ n, wr = w.drewN n))
    case atStart => exact ⟨0, rfl, Nat.zero_le _, by omega, ⟨0, rfl⟩⟩
    case round =>
      obtain ⟨k, rfl, hk, hkx, HD⟩ := hrel
      obtain ⟨n, rfl⟩ := HD.out
      by_cases hlt : k < xs.length
      · obtain ⟨g, g', rfl, rfl, c1, c2⟩ := HC.out k hlt
        generalize xs.getD k 0 = y at c1 c2
        have hlt' : (k : Int) < (xs.length : Int) := by omega
        go_wp2_with fail
        go_quiet (fail)
        go_wp2
        go_roundg (xs.length - (k + 1))
        case measure => omega
        case rel => exact ⟨k + 1, by go_num, by omega, Nat.le_refl _, ⟨_, rfl⟩⟩
      · go_wp2
        go_ret
        exact ⟨rfl, below_drewN (Below.refl _ _) _⟩
  rcases h with ⟨rfl, rfl⟩ | ⟨g, c, rfl, hg, hc⟩
  · rcases h' with ⟨rfl, _⟩ | ⟨g', c', rfl, hg', hc'⟩
    · exact key none none 0 0 (fun t ht => by simp at ht)
    · exact key none _ 0 c' (fun t ht => by simp at ht)
  · rcases h' with ⟨rfl, rfl⟩ | ⟨g', c', rfl, hg', hc'⟩
    · exact key _ none c 0 (fun t ht => by simp at ht)
    · exact key _ _ c c' (fun t ht => ⟨g, g', rfl, rfl, hc t ht, hc' t ht⟩)

end Go.Proofs.Ytnmjcnlhcddokaa.St
