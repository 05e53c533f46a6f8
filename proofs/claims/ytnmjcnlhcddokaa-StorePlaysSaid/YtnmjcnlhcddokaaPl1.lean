/- The plain law of the document's store: what its printed words compute. -/
import Derived.Test.YtnmjcnlhcddokaaSt24
import Derived.Test.YtnmjcnlhcddokaaPStorePlaysx2
namespace Go.Proofs.Ytnmjcnlhcddokaa.St
open Go.RowKit Go.Proofs.Ytnmjcnlhcddokaa.PStorePlays
set_option linter.unusedVariables false
set_option linter.unusedSimpArgs false

def toX (x : It) : S51 := ⟨x.1, ⟨x.2.toArray⟩⟩
def toS (l : List It) : List S51 := l.map toX
theorem toS_length (l : List It) : (toS l).length = l.length := by simp [toS]

theorem rd_drop {X : List S51} {i : Nat} {y : S51} {t : List S51} (h : X.drop i = y :: t) : rd_T51 X (i : Int) = y ∧ X.drop (i + 1) = t ∧ i < X.length := by
  have hi : i < X.length := by
    rcases Nat.lt_or_ge i X.length with h1 | h1
    · exact h1
    · rw [List.drop_eq_nil_of_le h1] at h; simp at h
  rw [List.drop_eq_getElem_cons hi] at h
  injection h with h1 h2
  refine ⟨?_, h2, hi⟩
  unfold rd_T51
  rw [Int.toNat_natCast, List.getD_eq_getElem?_getD, List.getElem?_eq_getElem hi, h1]; rfl
theorem drop_nil {X : List S51} {i : Nat} (h : X.drop i = []) : X.length ≤ i := by
  have := congrArg List.length h
  simp at this; omega

/-! `with` -/
def wi (x : S51) : List S51 → Bool → List S51
  | [], true => []
  | [], false => [x]
  | y :: t, true => (if y.f0 = x.f0 then [] else [y]) ++ wi x t true
  | y :: t, false => if y.f0 ≥ x.f0 then x :: ((if y.f0 = x.f0 then [] else [y]) ++ wi x t true) else (if y.f0 = x.f0 then [] else [y]) ++ wi x t false

theorem with_l0 (X : List S51) (hX : X.length < 1000000) (p : Int) (b : ByteArray) : ∀ (rest : List S51) (i : Nat) (out : List S51) (laid : Bool) (K : Nat), X.drop i = rest → out.length ≤ 2 * i → i ≤ X.length → 2 * rest.length < K →
    hindcastref11_with.l0 K X out laid (i : Int) p b = some (out ++ wi ⟨p, b⟩ rest laid)
  | [], i, out, laid, K, hd, ho, hi, hK => by
    obtain ⟨k, rfl⟩ : ∃ k, K = k + 1 := ⟨K - 1, by omega⟩
    have := drop_nil hd
    rw [hindcastref11_with.l0, if_neg (by omega)]
    cases laid
    · rw [if_neg (by simp), if_pos (by omega)]; rfl
    · rw [if_pos rfl]; simp [wi]
  | y :: t, i, out, laid, K, hd, ho, hi, hK => by
    obtain ⟨k, rfl⟩ : ∃ k, K = k + 1 + 1 := ⟨K - 2, by simp at hK; omega⟩
    obtain ⟨hr, hd', hi'⟩ := rd_drop hd
    have hw : wrap64 ((i : Int) + 1) = ((i + 1 : Nat) : Int) := by rw [IntWalk.wrap64_in _ (by omega)]; omega
    have hk : 2 * t.length < k := by simp at hK; omega
    have ih := fun out laid ho => with_l0 X hX p b t (i + 1) out laid k hd' ho (by omega) hk
    rw [hindcastref11_with.l0, if_pos (by omega), if_pos (by omega : (0:Int) ≤ i)]
    cases laid
    · rw [if_neg (by simp), hindcastref11_with.j1, hr]
      by_cases h : y.f0 ≥ p
      · rw [if_pos (by simpa using h), if_pos (by omega : out.length < 5864062014805)]
        simp only [Option.bind_some]
        rw [if_pos (by omega : (0:Int) ≤ i), if_pos (by omega : (i:Int) < X.length), hw]
        simp only [wi, if_pos h]
        by_cases h2 : y.f0 = p
        · rw [if_pos h2, ih _ _ (by simp; omega)]; simp [h2]
        · rw [if_neg h2, if_pos (by simp; omega), ih _ _ (by simp; omega)]; simp [h2]
      · rw [if_neg (by simpa using h), if_pos (by omega : (0:Int) ≤ i), if_pos (by omega : (i:Int) < X.length), hw]
        simp only [wi, if_neg h]
        by_cases h2 : y.f0 = p
        · exact absurd (by omega) h
        · rw [if_neg h2, if_pos (by omega), ih _ _ (by simp; omega)]; simp [h2]
    · rw [if_pos rfl, hindcastref11_with.j1, hr, if_neg (by simp), if_pos (by omega : (0:Int) ≤ i), if_pos (by omega : (i:Int) < X.length), hw]
      simp only [wi]
      by_cases h2 : y.f0 = p
      · rw [if_pos h2, ih _ _ (by omega)]; simp [h2]
      · rw [if_neg h2, if_pos (by omega), ih _ _ (by simp; omega)]; simp [h2]

theorem wi_true (p : Int) (b : ByteArray) : ∀ (l : List S51), (∀ y ∈ l, y.f0 ≠ p) → wi ⟨p, b⟩ l true = l
  | [], _ => rfl
  | y :: t, h => by
    have h1 := h y (by simp)
    simp [wi, h1, wi_true p b t (fun z hz => h z (by simp [hz]))]
def insS (l : List It) (p : Int) (b : List UInt8) (i : Nat) : List It :=
  if i < l.length ∧ pp (ps l) i = p then l.set i (p, b) else l.take i ++ (p, b) :: l.drop i
theorem wi_ins (p : Int) (b : List UInt8) : ∀ (l : List It), (ps l).Pairwise (· < ·) → wi ⟨p, ⟨b.toArray⟩⟩ (toS l) false = toS (insS l p b (findI (ps l) p))
  | [], _ => rfl
  | y :: t, h => by
    rw [ps_cons, List.pairwise_cons] at h
    by_cases hy : y.1 < p
    · have hf : findI (ps (y :: t)) p = findI (ps t) p + 1 := by simp [findI, ps_cons, List.takeWhile_cons, hy]
      have ih := wi_ins p b t h.2
      have e : insS (y :: t) p b (findI (ps t) p + 1) = y :: insS t p b (findI (ps t) p) := by
        unfold insS
        have hp : pp (ps (y :: t)) (findI (ps t) p + 1) = pp (ps t) (findI (ps t) p) := rfl
        rw [hp]
        by_cases hc : findI (ps t) p < t.length ∧ pp (ps t) (findI (ps t) p) = p
        · rw [if_pos hc, if_pos ⟨by simp; exact hc.1, hc.2⟩]; rfl
        · rw [if_neg hc, if_neg (fun q => hc ⟨by simpa using q.1, q.2⟩)]; rfl
      rw [hf, e]
      show wi _ (toX y :: toS t) false = toX y :: toS _
      have h1 : ¬ (toX y).f0 ≥ p := by simp [toX]; omega
      have h2 : ¬ (toX y).f0 = p := by simp [toX]; omega
      simp only [wi]
      rw [if_neg h1, if_neg h2, ih]; rfl
    · have hf : findI (ps (y :: t)) p = 0 := by simp [findI, ps_cons, List.takeWhile_cons, hy]
      have ht : ∀ z ∈ toS t, z.f0 ≠ p := by
        intro z hz
        obtain ⟨u, hu, rfl⟩ := List.mem_map.1 hz
        have := h.1 u.1 (List.mem_map_of_mem hu)
        simp [toX]; omega
      rw [hf]
      show wi _ (toX y :: toS t) false = _
      have h1 : (toX y).f0 ≥ p := by simp [toX]; omega
      simp only [wi]
      rw [if_pos h1, wi_true p _ _ ht]
      by_cases h2 : y.1 = p
      · have hc : 0 < (y :: t).length ∧ pp (ps (y :: t)) 0 = p := ⟨by simp, h2⟩
        rw [insS, if_pos hc, if_pos (show (toX y).f0 = p from h2)]; rfl
      · have hc : ¬ (0 < (y :: t).length ∧ pp (ps (y :: t)) 0 = p) := fun q => h2 q.2
        rw [insS, if_neg hc, if_neg (show ¬ (toX y).f0 = p from h2)]; rfl

/-! Floor -/
theorem floor_l0 (X : List S51) (p a : Int) : ∀ (i : Nat) (K : Nat), i ≤ X.length → X.length < 1000000 → i < K →
    hindcastref11_Store_Floor.l0 K p ((i : Int) - 1) a X = some (match (X.take i).reverse.find? (fun x => decide (x.f0 ≤ p)) with | none => (0, ⟨#[]⟩, false) | some x => (x.f0, x.f1, true))
  | 0, K, hi, hX, hK => by
    obtain ⟨k, rfl⟩ : ∃ k, K = k + 1 := ⟨K - 1, by omega⟩
    rw [hindcastref11_Store_Floor.l0, if_neg (by omega)]; rfl
  | i + 1, K, hi, hX, hK => by
    obtain ⟨k, rfl⟩ : ∃ k, K = k + 1 := ⟨K - 1, by omega⟩
    have e : ((i + 1 : Nat) : Int) - 1 = (i : Int) := by omega
    have hr : rd_T51 X (i : Int) = X[i] := (rd_drop (List.drop_eq_getElem_cons (by omega))).1
    have hw : wrap64 ((i : Int) - 1) = (i : Int) - 1 := IntWalk.wrap64_in _ (by omega)
    rw [hindcastref11_Store_Floor.l0, e, if_pos (by omega : (i : Int) ≥ 0), if_pos (by omega : (0 : Int) ≤ i), if_pos (by omega), hr, hw, floor_l0 X p a i k (by omega) hX (by omega)]
    have et : (X.take (i + 1)).reverse = X[i] :: (X.take i).reverse := by rw [List.take_add_one, List.getElem?_eq_getElem (by omega)]; simp
    rw [et, List.find?_cons]
    by_cases h : X[i].f0 ≤ p
    · rw [if_pos h]; simp [h]
    · rw [if_neg h]; simp [h]
theorem floor_f (most p : Int) (l : List It) (hl : l.length < 1000) (K : Nat) (hK : l.length < K) :
    hindcastref11_Store_Floor.f K most (toS l) p = some (match floorS l p with | none => (0, ⟨#[]⟩, false) | some x => (x.1, ⟨x.2.toArray⟩, true)) := by
  unfold hindcastref11_Store_Floor.f
  rw [IntWalk.wrap64_in _ (by rw [toS_length]; omega), floor_l0 (toS l) p most (toS l).length K (Nat.le_refl _) (by rw [toS_length]; omega) (by rw [toS_length]; omega), List.take_length]
  have e : (toS l).reverse.find? (fun x => decide (x.f0 ≤ p)) = (floorS l p).map toX := by
    unfold floorS toS
    rw [← List.map_reverse, List.find?_map]
    rfl
  rw [e]
  cases floorS l p <;> rfl

/-! All -/
theorem all_l0 (X : List S51) (hX : X.length < 1000000) (a : Int) : ∀ (rest : List S51) (i : Nat) (out : List Int) (K : Nat), X.drop i = rest → out.length = i → i ≤ X.length → rest.length < K →
    hindcastref11_Store_All.l0 K out (i : Int) a X = some (out ++ rest.map (·.f0))
  | [], i, out, K, hd, ho, hi, hK => by
    obtain ⟨k, rfl⟩ : ∃ k, K = k + 1 := ⟨K - 1, by omega⟩
    have := drop_nil hd
    rw [hindcastref11_Store_All.l0, if_neg (by omega)]; simp
  | y :: t, i, out, K, hd, ho, hi, hK => by
    obtain ⟨k, rfl⟩ : ∃ k, K = k + 1 := ⟨K - 1, by omega⟩
    obtain ⟨hr, hd', hi'⟩ := rd_drop hd
    have hw : wrap64 ((i : Int) + 1) = ((i + 1 : Nat) : Int) := by rw [IntWalk.wrap64_in _ (by omega)]; omega
    rw [hindcastref11_Store_All.l0, if_pos (by omega), if_pos (by omega : (0 : Int) ≤ i), if_pos (by omega), hr, hw,
      all_l0 X hX a t (i + 1) _ k hd' (by simp [ho]) (by omega) (by simp at hK; omega)]
    simp
theorem all_f (most : Int) (l : List It) (hl : l.length < 1000) (K : Nat) (hK : l.length < K) : hindcastref11_Store_All.f K most (toS l) = some (ps l) := by
  unfold hindcastref11_Store_All.f
  have := all_l0 (toS l) (by rw [toS_length]; omega) most (toS l) 0 [] K rfl rfl (by omega) (by rw [toS_length]; omega)
  rw [show ((0 : Nat) : Int) = 0 from rfl] at this
  rw [this]
  simp [toS, ps, toX, Function.comp_def]

end Go.Proofs.Ytnmjcnlhcddokaa.St
