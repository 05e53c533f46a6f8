/- What holds of the positions, and stays so. -/
import Derived.Test.YtnmjcnlhcddokaaSt15
namespace Go.Proofs.Ytnmjcnlhcddokaa.St
open Go.RowKit
set_option linter.unusedVariables false
set_option linter.unusedSimpArgs false

def LowQ (q : List Int) (p : Int) (i : Nat) : Prop := (∀ y ∈ q.take i, y < p) ∧ ∀ y ∈ q.drop i, p ≤ y
structure Good (most : Int) (q : List Int) : Prop where
  sorted : q.Pairwise (· < ·)
  fits : ∀ y ∈ q, 0 ≤ y ∧ y ≤ 9223372036854775807
  len : (q.length : Int) ≤ most

theorem pp_get {q : List Int} {t : Nat} (h : t < q.length) : pp q t = q[t] := by simp [pp, List.getD_eq_getElem?_getD, h]
theorem low_lowQ {L : List Im} {p : Int} {i : Nat} (hi : i ≤ L.length) (h : Low L p i i) : LowQ (ps L) p i := by
  have hl : (ps L).length = L.length := by simp [ps]
  constructor
  · intro y hy
    obtain ⟨t, ht, rfl⟩ := List.getElem_of_mem hy
    rw [List.length_take] at ht
    rw [List.getElem_take, ← pp_get (by omega), ← pos_pp]
    exact h.1 t (by omega)
  · intro y hy
    obtain ⟨t, ht, rfl⟩ := List.getElem_of_mem hy
    rw [List.length_drop] at ht
    rw [List.getElem_drop, ← pp_get (by omega), ← pos_pp]
    exact h.2 (i + t) (by omega) (by omega)
theorem Good.sortedIm {most : Int} {L : List Im} (h : Good most (ps L)) : Sorted L := by
  intro a b hab hb
  have hl : (ps L).length = L.length := by simp [ps]
  have := List.pairwise_iff_getElem.1 h.sorted a b (by omega) (by omega) hab
  rw [pos_pp, pos_pp, pp_get (by omega), pp_get (by omega)]
  exact this
theorem Good.fitsIm {most : Int} {L : List Im} (h : Good most (ps L)) : Fits L :=
  fits_of fun y hy => h.fits y.1 (List.mem_map_of_mem hy)

section
variable {α : Type}
theorem ps_length (L : List (Int × α)) : (ps L).length = L.length := by simp [ps]
theorem ps_take (L : List (Int × α)) (n : Nat) : ps (L.take n) = (ps L).take n := by simp [ps, List.map_take]
theorem ps_drop (L : List (Int × α)) (n : Nat) : ps (L.drop n) = (ps L).drop n := by simp [ps, List.map_drop]
theorem ps_append (L M : List (Int × α)) : ps (L ++ M) = ps L ++ ps M := by simp [ps]
theorem ps_cons (x : Int × α) (L : List (Int × α)) : ps (x :: L) = x.1 :: ps L := rfl
theorem ps_set (L : List (Int × α)) (i : Nat) (p : Int) (x : α) (h : pp (ps L) i = p) (hi : i < L.length) : ps (L.set i (p, x)) = ps L := by
  simp only [ps, List.map_set]
  have : (L.map (·.1))[i]'(by simpa using hi) = p := by rw [← h, pp_get (by simpa [ps] using hi)]; rfl
  rw [← this]
  exact List.set_getElem_self _

/-- The positions behind an insertion. -/
theorem insert_good {q : List Int} {p : Int} {i : Nat} (hs : q.Pairwise (· < ·)) (hl : LowQ q p i) (hne : ¬ (i < q.length ∧ pp q i = p)) : (q.take i ++ p :: q.drop i).Pairwise (· < ·) := by
  have hgt : ∀ y ∈ q.drop i, p < y := by
    intro y hy
    have h1 := hl.2 y hy
    rcases Int.lt_or_eq_of_le h1 with h | h
    · exact h
    · exfalso
      obtain ⟨t, ht, hty⟩ := List.getElem_of_mem hy
      rw [List.length_drop] at ht
      rw [List.getElem_drop] at hty
      have hi : i < q.length := by omega
      have h0 := hl.2 q[i] (by rw [List.mem_iff_getElem]; exact ⟨0, by rw [List.length_drop]; omega, by rw [List.getElem_drop]; rfl⟩)
      refine hne ⟨hi, ?_⟩
      rw [pp_get hi]
      rcases Nat.eq_zero_or_pos t with rfl | ht0
      · rw [h, ← hty]; rfl
      · have := List.pairwise_iff_getElem.1 hs i (i + t) hi (by omega) (by omega)
        omega
  rw [List.pairwise_append]
  refine ⟨hs.sublist (List.take_sublist _ _), List.pairwise_cons.2 ⟨hgt, hs.sublist (List.drop_sublist _ _)⟩, ?_⟩
  intro a ha b hb
  rcases List.mem_cons.1 hb with rfl | hb
  · exact hl.1 a ha
  · have h1 := hl.1 a ha
    have h2 := hgt b hb
    omega
theorem Good.put {most : Int} {L : List (Int × α)} (h : Good most (ps L)) {p : Int} (hp : 0 ≤ p) (hp2 : p ≤ 9223372036854775807) {i : Nat} (hl : LowQ (ps L) p i) (hi : i ≤ L.length) (x : α) : Good most (ps (putG most L p x i)) := by
  unfold putG
  split
  · rename_i hc
    rw [ps_set _ _ _ _ hc.2 hc.1]
    exact h
  · rename_i hc
    have hs : (ps (L.take i ++ (p, x) :: L.drop i)).Pairwise (· < ·) := by
      rw [ps_append, ps_cons, ps_take, ps_drop]
      exact insert_good h.sorted hl (by rw [ps_length]; exact hc)
    have hf : ∀ y ∈ ps (L.take i ++ (p, x) :: L.drop i), 0 ≤ y ∧ y ≤ 9223372036854775807 := by
      intro y hy
      rw [ps_append, ps_cons, ps_take, ps_drop] at hy
      rcases List.mem_append.1 hy with hy | hy
      · exact h.fits y (List.mem_of_mem_take hy)
      · rcases List.mem_cons.1 hy with rfl | hy
        · exact ⟨hp, hp2⟩
        · exact h.fits y (List.mem_of_mem_drop hy)
    have hll : (L.take i ++ (p, x) :: L.drop i).length = L.length + 1 := by simp only [List.length_append, List.length_cons, List.length_take, List.length_drop]; omega
    have hlen := h.len
    rw [ps_length] at hlen
    split
    · generalize (L.take i ++ (p, x) :: L.drop i) = M at hs hf hll
      generalize hk : (if nearQ (ps M) p L.length < 0 then i else (nearQ (ps M) p L.length).toNat) = k
      have hkl : k < M.length := by
        rw [hll, ← hk]
        split
        · omega
        · have : nearQ (ps M) p L.length ≤ L.length := by
            have : ∀ n : Nat, nearQ (ps M) p n ≤ n := by
              intro n
              induction n with
              | zero => simp [nearQ]
              | succ n ih => unfold nearQ; split <;> omega
            exact this _
          omega
      have hsub : (ps (M.take k ++ M.drop (k + 1))).Sublist (ps M) := by
        have e := List.take_append_drop k M
        have : (M.take k ++ M.drop (k + 1)).Sublist M := by
          conv => rhs; rw [← e]
          refine List.Sublist.append (List.Sublist.refl _) ?_
          rw [← List.drop_drop]
          exact List.drop_sublist _ _
        exact this.map _
      refine ⟨hs.sublist hsub, fun y hy => hf y (hsub.subset hy), ?_⟩
      rw [ps_length]
      simp only [List.length_append, List.length_take, List.length_drop]
      omega
    · rename_i hc2
      refine ⟨hs, hf, ?_⟩
      rw [ps_length, hll]
      omega
end

end Go.Proofs.Ytnmjcnlhcddokaa.St
