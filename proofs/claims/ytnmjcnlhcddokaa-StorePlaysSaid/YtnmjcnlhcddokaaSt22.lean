/- What is told for a position is what was put there last: on plain data. -/
import Derived.Test.YtnmjcnlhcddokaaSt21
namespace Go.Proofs.Ytnmjcnlhcddokaa.St
open Go.RowKit
set_option linter.unusedVariables false
set_option linter.unusedSimpArgs false

/-- The bytes of the last of the first k acts that are at p. -/
def wantS (l : List Ac) (p : Int) : Nat → ByteArray
  | 0 => ⟨#[]⟩
  | k + 1 => match l[k]? with
    | some x => if x.1 = p then x.2 else wantS l p k
    | none => wantS l p k

theorem nodup_fst {L : List It} (h : (ps L).Pairwise (· < ·)) {x y : It} (hx : x ∈ L) (hy : y ∈ L) (e : x.1 = y.1) : x = y := by
  obtain ⟨i, hi, rfl⟩ := List.getElem_of_mem hx
  obtain ⟨j, hj, rfl⟩ := List.getElem_of_mem hy
  rcases Nat.lt_trichotomy i j with hij | hij | hij
  · have := List.pairwise_iff_getElem.1 h i j (by rw [ps_length]; exact hi) (by rw [ps_length]; exact hj) hij
    simp [ps] at this
    omega
  · subst hij; rfl
  · have := List.pairwise_iff_getElem.1 h j i (by rw [ps_length]; exact hj) (by rw [ps_length]; exact hi) hij
    simp [ps] at this
    omega

theorem mem_putG {most : Int} {L : List It} {p : Int} {b : List UInt8} {i : Nat} {x : It} (hx : x ∈ putG most L p b i) : x = (p, b) ∨ x ∈ L := by
  have hins : ∀ y, y ∈ L.take i ++ (p, b) :: L.drop i → y = (p, b) ∨ y ∈ L := by
    intro y hy
    rcases List.mem_append.1 hy with hy | hy
    · exact .inr (List.mem_of_mem_take hy)
    · rcases List.mem_cons.1 hy with hy | hy
      · exact .inl hy
      · exact .inr (List.mem_of_mem_drop hy)
  unfold putG at hx
  split at hx
  · rcases List.mem_or_eq_of_mem_set hx with h | h
    · exact .inr h
    · exact .inl h
  · split at hx
    · rcases List.mem_append.1 hx with hx | hx
      · exact hins x (List.mem_of_mem_take hx)
      · exact hins x (List.mem_of_mem_drop hx)
    · exact hins x hx

theorem mem_putG_ne {most : Int} {L : List It} (hg : Good most (ps L)) {p : Int} {b : List UInt8} {i : Nat} (hi : i ≤ L.length) (hl : LowQ (ps L) p i) {x : It} (hx : x ∈ putG most L p b i) : x = (p, b) ∨ (x ∈ L ∧ x.1 ≠ p) := by
  unfold putG at hx
  split at hx
  · rename_i hc
    have hs := hg.sorted
    rw [← ps_set L i p b hc.2 hc.1] at hs
    by_cases hxp : x.1 = p
    · have hm : (p, b) ∈ L.set i (p, b) := by
        rw [List.mem_iff_getElem]
        exact ⟨i, by simpa using hc.1, by simp⟩
      exact .inl (nodup_fst hs hx hm hxp)
    · rcases List.mem_or_eq_of_mem_set hx with h | h
      · exact .inr ⟨h, hxp⟩
      · exact .inl h
  · rename_i hc
    have hs : (ps (L.take i ++ (p, b) :: L.drop i)).Pairwise (· < ·) := by
      rw [ps_append, ps_cons, ps_take, ps_drop]
      exact insert_good hg.sorted hl (by rw [ps_length]; exact hc)
    have hins : x ∈ L.take i ++ (p, b) :: L.drop i := by
      split at hx
      · rcases List.mem_append.1 hx with hx | hx
        · exact List.mem_of_mem_take hx
        · exact List.mem_of_mem_drop hx
      · exact hx
    by_cases hxp : x.1 = p
    · exact .inl (nodup_fst hs hins (by simp) hxp)
    · rcases List.mem_append.1 hins with h | h
      · exact .inr ⟨List.mem_of_mem_take h, hxp⟩
      · rcases List.mem_cons.1 h with h | h
        · exact .inl h
        · exact .inr ⟨List.mem_of_mem_drop h, hxp⟩

theorem findI_spec : ∀ (q : List Int) (p : Int), q.Pairwise (· < ·) → findI q p ≤ q.length ∧ LowQ q p (findI q p)
  | [], p, _ => ⟨Nat.le_refl _, by simp [LowQ, findI]⟩
  | a :: r, p, h => by
    rw [List.pairwise_cons] at h
    by_cases hap : a < p
    · obtain ⟨h1, h2, h3⟩ := findI_spec r p h.2
      have e : findI (a :: r) p = findI r p + 1 := by simp [findI, List.takeWhile_cons, hap]
      rw [e]
      refine ⟨by simpa using h1, ?_, ?_⟩
      · intro y hy
        rw [List.take_succ_cons] at hy
        rcases List.mem_cons.1 hy with rfl | hy
        · exact hap
        · exact h2 y hy
      · intro y hy
        rw [List.drop_succ_cons] at hy
        exact h3 y hy
    · have e : findI (a :: r) p = 0 := by simp [findI, List.takeWhile_cons, hap]
      rw [e]
      refine ⟨Nat.zero_le _, by simp, ?_⟩
      intro y hy
      rcases List.mem_cons.1 hy with rfl | hy
      · omega
      · have := h.1 y hy; omega

theorem putS_good {most : Int} {L : List It} (hg : Good most (ps L)) {p : Int} (hp : p ≤ 9223372036854775807) (b : List UInt8) : Good most (ps (putS most L p b)) := by
  unfold putS
  split
  · exact hg
  · obtain ⟨h1, h2⟩ := findI_spec (ps L) p hg.sorted
    exact hg.put (by omega) hp h2 (by rw [ps_length] at h1; exact h1) b

theorem doneS_good {most : Int} (hm : 0 < most) {l : List Ac} (hok : ActsOk l) : ∀ k, Good most (ps (doneS most l k))
  | 0 => ⟨List.Pairwise.nil, fun y hy => (by cases hy), by show ((0 : Nat) : Int) ≤ most; omega⟩
  | k + 1 => by
    by_cases h : k < l.length
    · rw [doneS_succ h]
      exact putS_good (doneS_good hm hok k) (hok _ (List.getElem_mem h)).2.1 _
    · simp only [doneS, List.getElem?_eq_none (by omega : l.length ≤ k)]
      exact doneS_good hm hok k

/-- Each item holds what was put there last. -/
theorem doneS_last {most : Int} (hm : 0 < most) {l : List Ac} (hok : ActsOk l) : ∀ k, ∀ x ∈ doneS most l k, x.2 = (wantS l x.1 k).data.toList
  | 0 => fun x hx => (by cases hx)
  | k + 1 => by
    intro x hx
    have hg := doneS_good hm hok k
    have ih := doneS_last hm hok k
    by_cases h : k < l.length
    · rw [doneS_succ h] at hx
      simp only [wantS, List.getElem?_eq_getElem h]
      unfold putS at hx
      by_cases hp : (l[k]).1 < 0
      · rw [if_pos hp] at hx
        have hpos := hg.fits x.1 (List.mem_map_of_mem hx)
        rw [if_neg (by omega)]
        exact ih x hx
      · rw [if_neg hp] at hx
        obtain ⟨h1, h2⟩ := findI_spec (ps (doneS most l k)) (l[k]).1 hg.sorted
        rcases mem_putG_ne hg (by rw [ps_length] at h1; exact h1) h2 hx with rfl | ⟨hx, hne⟩
        · rw [if_pos rfl]
        · rw [if_neg (fun e => hne e.symm)]
          exact ih x hx
    · simp only [doneS, wantS, List.getElem?_eq_none (by omega : l.length ≤ k)] at hx ⊢
      exact ih x hx

/-- Floor at a position that is there. -/
theorem floorS_there {l : List It} (h : (ps l).Pairwise (· < ·)) {j : Nat} (hj : j < l.length) : floorS l (l[j]).1 = some l[j] :=
  floorS_some hj (Int.le_refl _) (fun t ht hjt => by
    have := List.pairwise_iff_getElem.1 h j t (by rw [ps_length]; exact hj) (by rw [ps_length]; exact ht) hjt
    simpa [ps] using this)

end Go.Proofs.Ytnmjcnlhcddokaa.St
