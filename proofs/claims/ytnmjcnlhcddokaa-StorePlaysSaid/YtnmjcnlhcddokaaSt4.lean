/- The store as it lies in memory; find. -/
import Derived.Test.YtnmjcnlhcddokaaSt3
namespace Go.Proofs.Ytnmjcnlhcddokaa.St
open Go.RowKit
set_option linter.unusedVariables false
set_option linter.unusedSimpArgs false

/-- The row of items that a slice value stands for. -/
def Row (w : World) (base : Nat) (v : Value) (L : List Im) : Prop :=
  (v = .slice none 0 0 ∧ L = []) ∨
  ∃ g cap cur, v = .slice (some ⟨g, 0, none⟩) L.length cap ∧ base ≤ g ∧ w.heap[g]? = some (.cells cur 54 (0, 0)) ∧ L.length ≤ cap ∧ cap ≤ 9223372036854775807 ∧ cap * 2 ≤ cur.size ∧ ItemsAt w g L

def Sorted (L : List Im) : Prop := ∀ a b, a < b → b < L.length → pos L a < pos L b
theorem Sorted.le {L : List Im} (h : Sorted L) (a b : Nat) (hab : a ≤ b) (hb : b < L.length) : pos L a ≤ pos L b := by
  rcases Nat.lt_or_eq_of_le hab with h1 | rfl
  · exact Int.le_of_lt (h a b h1 hb)
  · exact Int.le_refl _

theorem lt_of_heap {w : World} {g : Nat} {o : Obj} (h : w.heap[g]? = some o) : g < w.heap.size := (Array.getElem?_eq_some_iff.1 h).1

/-- The row is the elder one, or new. -/
def NewRow (w : World) (v v' : Value) : Prop := ∀ k, v'.ownBlock = some k → v.ownBlock = some k ∨ w.heap.size ≤ k
theorem Row.lower {w : World} {base base' : Nat} {v : Value} {L : List Im} (h : Row w base v L) (hb : base' ≤ base) : Row w base' v L := by
  rcases h with h | ⟨g, cap, cur, hv, hbg, rest⟩
  · exact .inl h
  · exact .inr ⟨g, cap, cur, hv, Nat.le_trans hb hbg, rest⟩
theorem row_block {w : World} {base : Nat} {v : Value} {L : List Im} (h : Row w base v L) : ∀ k, v.ownBlock = some k → base ≤ k ∧ ∃ c f, w.heap[k]? = some (.cells c 54 f) := by
  intro k hk
  rcases h with ⟨rfl, _⟩ | ⟨g, cap, cur, rfl, hbg, hg, _⟩
  · cases hk
  · injection hk with hk
    subst hk
    exact ⟨hbg, cur, (0, 0), hg⟩

theorem find_any (base s : Nat) (most p : Int) (v : Value) (L : List Im) (w : World) (hs : w.heap[s]? = some (.cells #[.int .i64 most, v] 49 (0, 0))) (hr : Row w base v L)
    (hn : L.length ≤ 100000) (hso : Sorted L) :
    Calls Try.prog 19 #[.pointer (some ⟨s, 0, none⟩), .int .i64 p] w fun e w' =>
      ∃ i : Nat, i ≤ L.length ∧ Low L p i i ∧ e = .returned (.tuple #[.int .i64 i, .bool (decide (i < L.length) && decide (pos L i = p))]) ∧ Below w.heap.size w w' := by
  have h1 : w.cell? ⟨s, 1, none⟩ = some v := cell_of_row w s 1 _ _ _ hs
  have HR := Lib.hid hr
  have HS := Lib.hid hso
  clear hr hso hs
  rcases HR.out with ⟨rfl, rfl⟩ | ⟨g, cap, cur, rfl, hb, hg, hc, hcm, hcs, hI⟩
  · go_enter Try.func19, Try.ntmps19
    go_wp2_with (go_at_call 24; refine (search_nil _ _).mono ?_; rintro e w' ⟨rfl, hb'⟩)
    go_ret2
    exact ⟨0, Nat.le_refl _, ⟨fun t ht => absurd ht (Nat.not_lt_zero _), fun t _ ht => absurd ht (Nat.not_lt_zero _)⟩, by simp, hb'⟩
  · have hgl := lt_of_heap hg
    have HG := Lib.hid hg
    have HI := Lib.hid hI
    clear hg hI
    go_enter Try.func19, Try.ntmps19
    go_wp2_with (go_at_call 24; refine (search_some g cap L p _ HI.out hgl hn HS.out.le).mono ?_; rintro e w' ⟨i, hi, hl, rfl, hb'⟩)
    go_ret2
    exact ⟨i, hi, hl, rfl, hb'⟩

end Go.Proofs.Ytnmjcnlhcddokaa.St
