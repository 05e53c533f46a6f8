/- slices.BinarySearchFunc at the store's items, against a position: by the closure of find. -/
import Derived.Test.YtnmjcnlhcddokaaSt2
namespace Go.Proofs.Ytnmjcnlhcddokaa.St
open Go.RowKit
set_option linter.unusedVariables false
set_option linter.unusedSimpArgs false

/-- An item as it lies in memory: its position, the value of its bytes. -/
abbrev Im := Int × Value
def pos (L : List Im) (t : Nat) : Int := (L.getD t (0, .nilFunc)).1
def vat (L : List Im) (t : Nat) : Value := (L.getD t (0, .nilFunc)).2
/-- The items from the begin of a block on. -/
def ItemsAt (w : World) (g : Nat) (L : List Im) : Prop :=
  ∀ t, t < L.length → w.cell? ⟨g, t * 2, none⟩ = some (.int .i64 (pos L t)) ∧ w.cell? ⟨g, t * 2 + 1, none⟩ = some (vat L t)
theorem ItemsAt.below {w w' : World} {g : Nat} {L : List Im} (h : ItemsAt w g L) (hb : Below w.heap.size w w') (hg : g < w.heap.size) : ItemsAt w' g L := by
  intro t ht
  rw [hb.cell (by exact hg), hb.cell (by exact hg)]
  exact h t ht

def Low (L : List Im) (p : Int) (lo hi : Nat) : Prop := (∀ t, t < lo → pos L t < p) ∧ (∀ t, hi ≤ t → t < L.length → p ≤ pos L t)

theorem search_some (g cap : Nat) (L : List Im) (p : Int) (w : World) (hI : ItemsAt w g L) (hg : g < w.heap.size) (hn : L.length ≤ 100000)
    (hs : ∀ a b, a ≤ b → b < L.length → pos L a ≤ pos L b) :
    Calls Try.prog 24 #[.slice (some ⟨g, 0, none⟩) L.length cap, .int .i64 p, .func (.func 25) #[] #[]] w fun e w' =>
      ∃ i : Nat, i ≤ L.length ∧ Low L p i i ∧ e = .returned (.tuple #[.int .i64 i, .bool (decide (i < L.length) && decide (pos L i = p))]) ∧ Below w.heap.size w w' := by
  have HI := Lib.hid hI
  have HS := Lib.hid hs
  clear hI hs
  go_enter Try.func24, Try.ntmps24
  go_wp2
  go_loopg [9, 10] L.length (fun kx s9 s10 wr => ∃ lo hi : Nat, s9 = .int .i64 lo ∧ s10 = .int .i64 hi ∧ lo ≤ hi ∧ hi ≤ L.length ∧ hi - lo ≤ kx ∧ Hid (Below w.heap.size w wr) ∧ Hid (Low L p lo hi))
  case atStart => exact ⟨0, L.length, rfl, rfl, Nat.zero_le _, Nat.le_refl _, by omega, Below.refl _ _, ⟨fun t ht => absurd ht (Nat.not_lt_zero _), fun t h1 h2 => by omega⟩⟩
  case round =>
    obtain ⟨lo, hi, rfl, rfl, hlh, hin, hg', HB, HL⟩ := hrel
    by_cases hlt : lo < hi
    · have hm : (lo + hi) / 2 < L.length := by omega
      obtain ⟨hc1, hc2⟩ := (HI.out.below HB.out hg) ((lo + hi) / 2) hm
      by_cases hy : pos L ((lo + hi) / 2) < p
      · have hyx : cmpI (pos L ((lo + hi) / 2)) p < 0 := (cmpI_lt _ _).2 hy
        go_wp2_with (go_at_call 25; refine (find1_any _ _ _ _).mono ?_; rintro e w' ⟨rfl, hb'⟩)
        go_roundg (hi - ((lo + hi) / 2 + 1))
        case measure => omega
        case rel =>
          exact ⟨(lo + hi) / 2 + 1, hi, by rw [show ((lo : Int) + (hi : Int)) / 2 + 1 = (((lo + hi) / 2 + 1 : Nat) : Int) by omega], rfl, by omega, hin, Nat.le_refl _, HB.out.trans (hb'.mono HB.out.size), ⟨fun t ht => Int.lt_of_le_of_lt (HS.out t ((lo + hi) / 2) (by omega) hm) hy, HL.out.2⟩⟩
      · have hyx : ¬ cmpI (pos L ((lo + hi) / 2)) p < 0 := fun h => hy ((cmpI_lt _ _).1 h)
        go_wp2_with (go_at_call 25; refine (find1_any _ _ _ _).mono ?_; rintro e w' ⟨rfl, hb'⟩)
        go_roundg ((lo + hi) / 2 - lo)
        case measure => omega
        case rel =>
          exact ⟨lo, (lo + hi) / 2, rfl, by rw [show ((lo : Int) + (hi : Int)) / 2 = (((lo + hi) / 2 : Nat) : Int) by omega], by omega, by omega, Nat.le_refl _, HB.out.trans (hb'.mono HB.out.size), ⟨HL.out.1, fun t h1 h2 => Int.le_trans (by omega) (HS.out _ _ h1 h2)⟩⟩
    · obtain rfl : hi = lo := by omega
      by_cases hn' : hi < L.length
      · obtain ⟨hc1, hc2⟩ := (HI.out.below HB.out hg) hi hn'
        by_cases hy : pos L hi = p
        · have hyx : cmpI (pos L hi) p = 0 := (cmpI_eq _ _).2 hy
          go_wp2_with (go_at_call 25; refine (find1_any _ _ _ _).mono ?_; rintro e w' ⟨rfl, hb'⟩)
          go_ret2
          exact ⟨hi, hin, HL.out, by simp [hn', hy, cmpI], HB.out.trans (hb'.mono HB.out.size)⟩
        · have hyx : ¬ cmpI (pos L hi) p = 0 := fun h => hy ((cmpI_eq _ _).1 h)
          go_wp2_with (go_at_call 25; refine (find1_any _ _ _ _).mono ?_; rintro e w' ⟨rfl, hb'⟩)
          go_ret2
          exact ⟨hi, hin, HL.out, by simp [hy, hyx], HB.out.trans (hb'.mono HB.out.size)⟩
      · go_wp2
        go_ret2
        exact ⟨hi, hin, HL.out, by simp [hn'], HB.out⟩

theorem search_nil (p : Int) (w : World) :
    Calls Try.prog 24 #[.slice none 0 0, .int .i64 p, .func (.func 25) #[] #[]] w fun e w' => e = .returned (.tuple #[.int .i64 0, .bool false]) ∧ Below w.heap.size w w' := by
  go_enter Try.func24, Try.ntmps24
  go_wp2
  go_loopg [9, 10] 0 (fun kx s9 s10 wr => s9 = .int .i64 0 ∧ s10 = .int .i64 0 ∧ wr = w)
  case atStart => exact ⟨rfl, rfl, rfl⟩
  case round =>
    obtain ⟨rfl, rfl, rfl⟩ := hrel
    go_wp2
    go_ret2
    exact ⟨rfl, Below.refl _ _⟩

end Go.Proofs.Ytnmjcnlhcddokaa.St
