/- The plain law of the document's Put. -/
import Derived.Test.YtnmjcnlhcddokaaPl1
namespace Go.Proofs.Ytnmjcnlhcddokaa.St
open Go.RowKit Go.Proofs.Ytnmjcnlhcddokaa.PStorePlays
set_option linter.unusedVariables false
set_option linter.unusedSimpArgs false

def fs (X : List S51) : List Int := X.map (·.f0)
theorem fs_toS (l : List It) : fs (toS l) = ps l := by simp [fs, toS, ps, toX, Function.comp_def]
theorem pp_rd (X : List S51) (t : Nat) : (rd_T51 X (t : Int)).f0 = pp (fs X) t := by
  unfold rd_T51 pp fs
  rw [Int.toNat_natCast, List.getD_eq_getElem?_getD, List.getD_eq_getElem?_getD, List.getElem?_map]
  cases X[t]? <;> rfl

def fl (g p : Int) : Nat → List S51 → List S51
  | _, [] => []
  | i, y :: t => if (i : Int) = g then fl g p (i + 1) t else if 0 ≤ g then y :: fl g p (i + 1) t else if y.f0 = p then fl g p (i + 1) t else y :: fl g p (i + 1) t

theorem put_l1 (X : List S51) (hX : X.length < 1000000) (p g a : Int) (Y : List S51) : ∀ (rest : List S51) (i : Nat) (out : List S51) (K : Nat), X.drop i = rest → out.length ≤ i → i ≤ X.length → rest.length < K →
    hindcastref11_Store_Put.l1 K p X g out (i : Int) a Y = some (a, out ++ fl g p i rest, 0)
  | [], i, out, K, hd, ho, hi, hK => by
    obtain ⟨k, rfl⟩ : ∃ k, K = k + 1 := ⟨K - 1, by omega⟩
    have := drop_nil hd
    rw [hindcastref11_Store_Put.l1, if_neg (by omega)]; simp [fl]
  | y :: t, i, out, K, hd, ho, hi, hK => by
    obtain ⟨k, rfl⟩ : ∃ k, K = k + 1 := ⟨K - 1, by omega⟩
    obtain ⟨hr, hd', hi'⟩ := rd_drop hd
    have hw : wrap64 ((i : Int) + 1) = ((i + 1 : Nat) : Int) := by rw [IntWalk.wrap64_in _ (by omega)]; omega
    have hk : t.length < k := by simp at hK; omega
    have ih := fun out ho => put_l1 X hX p g a Y t (i + 1) out k hd' ho (by omega) hk
    rw [hindcastref11_Store_Put.l1, if_pos (by omega), hr, hw]
    simp only [fl]
    by_cases h1 : (i : Int) = g
    · rw [if_pos h1, if_pos h1, ih out (by omega)]
    · rw [if_neg h1, if_neg h1]
      by_cases h2 : 0 ≤ g
      · rw [if_pos (show g ≥ 0 from h2), if_pos h2, if_pos (by omega : (0 : Int) ≤ i), if_pos (by omega), ih _ (by simp; omega)]; simp
      · rw [if_neg (show ¬ g ≥ 0 from h2), if_neg h2, if_pos (by omega : (0 : Int) ≤ i)]
        by_cases h3 : y.f0 = p
        · rw [if_pos h3, if_pos h3, ih out (by omega)]
        · rw [if_neg h3, if_neg h3, if_pos (by omega), ih _ (by simp; omega)]; simp

theorem put_l0 (X : List S51) (hX : X.length < 1000000) (hf : ∀ y ∈ fs X, 0 ≤ y ∧ y ≤ 9223372036854775807) (p a : Int) (Y : List S51) (F : Nat) (R : Option (Int × List S51 × Int)) :
    ∀ (d j : Nat) (x10 : Int) (K : Nat), X.length = j + 1 + d → (nearQ (fs X) p j < 0 ∨ x10 = pp (fs X) (nearQ (fs X) p j).toNat - pp (fs X) ((nearQ (fs X) p j).toNat - 1)) →
      d + F < K → (∀ k, F ≤ k → hindcastref11_Store_Put.l1 k p X (nearQ (fs X) p (X.length - 1)) [] 0 a Y = R) →
      hindcastref11_Store_Put.l0 K p X (nearQ (fs X) p j) x10 ((j + 1 : Nat) : Int) a Y = R
  | 0, j, x10, K, hd, hx, hK, hR => by
    obtain ⟨k, rfl⟩ : ∃ k, K = k + 1 := ⟨K - 1, by omega⟩
    rw [hindcastref11_Store_Put.l0, if_neg (by omega)]
    have := hR k (by omega)
    rwa [show X.length - 1 = j by omega] at this
  | d + 1, j, x10, K, hd, hx, hK, hR => by
    obtain ⟨k, rfl⟩ : ∃ k, K = k + 1 := ⟨K - 1, by omega⟩
    have hw : wrap64 (((j + 1 : Nat) : Int) + 1) = ((j + 1 + 1 : Nat) : Int) := by rw [IntWalk.wrap64_in _ (by omega)]; omega
    have hw1 : wrap64 (((j + 1 : Nat) : Int) - 1) = (j : Int) := by rw [IntWalk.wrap64_in _ (by omega)]; omega
    have hb : ∀ t, t < X.length → 0 ≤ pp (fs X) t ∧ pp (fs X) t ≤ 9223372036854775807 := by
      intro t ht
      have hl : t < (fs X).length := by simpa [fs] using ht
      rw [pp_get hl]; exact hf _ (List.getElem_mem hl)
    have b1 := hb j (by omega)
    have b2 := hb (j + 1) (by omega)
    have hw2 : wrap64 (pp (fs X) (j + 1) - pp (fs X) j) = pp (fs X) (j + 1) - pp (fs X) j := IntWalk.wrap64_in _ (by omega)
    have hk : d + F < k := by omega
    have ih := fun x10 hx => put_l0 X hX hf p a Y F R d (j + 1) x10 k (by omega) hx hk hR
    rw [hindcastref11_Store_Put.l0, if_pos (by omega), if_pos (by omega : (0 : Int) ≤ ((j + 1 : Nat) : Int)), hw1, if_pos (by omega : (0 : Int) ≤ (j : Int)), if_pos (by omega : (j : Int) < X.length), hw, pp_rd, pp_rd, hw2]
    by_cases h1 : pp (fs X) (j + 1) = p
    · rw [if_pos h1]
      have e : nearQ (fs X) p (j + 1) = nearQ (fs X) p j := by
        rw [nearQ, if_neg (fun q => q.1 h1)]
      rw [e] at ih
      exact ih x10 hx
    · rw [if_neg h1]
      by_cases h2 : nearQ (fs X) p j < 0
      · rw [if_pos h2]
        have e : nearQ (fs X) p (j + 1) = ((j + 1 : Nat) : Int) := by
          rw [nearQ, if_pos ⟨h1, .inl h2⟩]
        rw [e] at ih
        exact ih _ (.inr (by rw [Int.toNat_natCast]; rfl))
      · rw [if_neg h2]
        have hx' := hx.resolve_left h2
        by_cases h3 : pp (fs X) (j + 1) - pp (fs X) j < x10
        · rw [if_pos h3]
          have e : nearQ (fs X) p (j + 1) = ((j + 1 : Nat) : Int) := by
            rw [nearQ, if_pos ⟨h1, .inr (by rw [← hx']; exact h3)⟩]
          rw [e] at ih
          exact ih _ (.inr (by rw [Int.toNat_natCast]; rfl))
        · rw [if_neg h3]
          have e : nearQ (fs X) p (j + 1) = nearQ (fs X) p j := by
            rw [nearQ, if_neg (fun q => q.2.elim h2 (by rw [← hx']; exact h3))]
          rw [e] at ih
          exact ih x10 hx

theorem fl_past (g p : Int) (hg : 0 ≤ g) : ∀ (r : List S51) (i : Nat), g < i → fl g p i r = r
  | [], _, _ => rfl
  | y :: t, i, h => by
    rw [fl, if_neg (by omega), if_pos hg, fl_past g p hg t (i + 1) (by omega)]
theorem fl_at (g : Nat) (p : Int) : ∀ (r : List S51) (i : Nat), i ≤ g → fl (g : Int) p i r = r.take (g - i) ++ r.drop (g - i + 1)
  | [], _, _ => by simp [fl]
  | y :: t, i, h => by
    rw [fl]
    by_cases e : (i : Int) = (g : Int)
    · rw [if_pos e, fl_past _ _ (by omega) t (i + 1) (by omega)]
      have : g - i = 0 := by omega
      rw [this]; rfl
    · rw [if_neg e, if_pos (by omega), fl_at g p t (i + 1) (by omega)]
      have e2 : g - i = (g - (i + 1)) + 1 := by omega
      rw [e2, List.take_succ_cons, List.drop_succ_cons]; rfl
theorem fl_none (g p : Int) (hg : g < 0) : ∀ (r : List S51) (i : Nat), fl g p i r = r.filter (fun y => decide (y.f0 ≠ p))
  | [], _ => rfl
  | y :: t, i => by
    rw [fl, if_neg (by omega), if_neg (by omega), fl_none g p hg t (i + 1), List.filter_cons]
    by_cases h : y.f0 = p
    · rw [if_pos h]; simp [h]
    · rw [if_neg h]; simp [h]

theorem toS_take (l : List It) (n : Nat) : toS (l.take n) = (toS l).take n := by simp [toS, List.map_take]
theorem toS_drop (l : List It) (n : Nat) : toS (l.drop n) = (toS l).drop n := by simp [toS, List.map_drop]
theorem toS_append (l m : List It) : toS (l ++ m) = toS l ++ toS m := by simp [toS]

theorem nearQ_ge (q : List Int) (p : Int) : ∀ k, -1 ≤ nearQ q p k
  | 0 => by simp [nearQ]
  | k + 1 => by
    rw [nearQ]
    split
    · omega
    · exact nearQ_ge q p k

theorem put_f (most p : Int) (l : List It) (b : List UInt8) (hg : Good most (ps l)) (hm : most ≤ 64) (hp : p ≤ 9223372036854775807) (K : Nat) (hK : 300 < K) :
    hindcastref11_Store_Put.f K most (toS l) p ⟨b.toArray⟩ = some (most, toS (putS most l p b), if p < 0 then 2 else 0) := by
  have hlen := hg.len
  rw [ps_length] at hlen
  unfold hindcastref11_Store_Put.f putS
  by_cases h0 : p < 0
  · rw [if_pos h0, if_pos h0, if_pos h0]
  rw [if_neg h0, if_neg h0, if_neg h0]
  have hw : hindcastref11_with.f K (toS l) p ⟨b.toArray⟩ = some (toS (insS l p b (findI (ps l) p))) := by
    unfold hindcastref11_with.f
    have := with_l0 (toS l) (by rw [toS_length]; omega) p ⟨b.toArray⟩ (toS l) 0 [] false K rfl (by simp) (by omega) (by rw [toS_length]; omega)
    rw [show ((0 : Nat) : Int) = 0 from rfl] at this
    rw [this, List.nil_append, wi_ins p b l hg.sorted]
  obtain ⟨hi, hlow⟩ := findI_spec (ps l) p hg.sorted
  rw [ps_length] at hi
  rw [hw]
  simp only [Option.bind_some]
  generalize hfi : findI (ps l) p = i at *
  unfold insS putG
  by_cases hc : i < l.length ∧ pp (ps l) i = p
  · rw [if_pos hc, if_pos hc, if_pos (by rw [toS_length, List.length_set]; exact hlen)]
  rw [if_neg hc, if_neg hc]
  have hs := insert_good hg.sorted hlow (by rw [ps_length]; exact hc)
  generalize hM : l.take i ++ (p, b) :: l.drop i = M at *
  have hMl : M.length = l.length + 1 := by rw [← hM]; simp; omega
  have hMp : ps M = (ps l).take i ++ p :: (ps l).drop i := by rw [← hM, ps_append, ps_cons, ps_take, ps_drop]
  rw [toS_length, hMl]
  by_cases hc2 : most < (l.length : Int) + 1
  · rw [if_neg (by omega), if_pos hc2]
    have hfit : ∀ y ∈ fs (toS M), 0 ≤ y ∧ y ≤ 9223372036854775807 := by
      rw [fs_toS, hMp]
      intro y hy
      rcases List.mem_append.1 hy with h | h
      · exact hg.fits y (List.mem_of_mem_take h)
      · rcases List.mem_cons.1 h with h | h
        · rw [h]; omega
        · exact hg.fits y (List.mem_of_mem_drop h)
    have hXl : (toS M).length = l.length + 1 := by rw [toS_length, hMl]
    have hn0 : nearQ (fs (toS M)) p 0 = -1 := rfl
    have key := put_l0 (toS M) (by omega) hfit p most (toS l) 100 (some (most, [] ++ fl (nearQ (fs (toS M)) p l.length) p 0 (toS M), 0)) l.length 0 0 K (by omega) (.inl (by rw [hn0]; omega)) (by omega) (by
      intro k hk
      have := put_l1 (toS M) (by omega) p (nearQ (fs (toS M)) p ((toS M).length - 1)) most (toS l) (toS M) 0 [] k rfl (by simp) (by omega) (by omega)
      rw [show ((0 : Nat) : Int) = 0 from rfl] at this
      rw [this, hXl, Nat.add_sub_cancel])
    rw [hn0] at key
    rw [show ((0 + 1 : Nat) : Int) = 1 from rfl] at key
    rw [key, List.nil_append, fs_toS]
    by_cases hneg : nearQ (ps M) p l.length < 0
    · rw [if_pos hneg, fl_none _ _ hneg]
      have e1 : M.take i = l.take i := by rw [← hM]; exact List.take_left' (by simp; omega)
      have e2 : M.drop (i + 1) = l.drop i := by
        rw [← hM, List.drop_append]
        have : (l.take i).length = i := by simp; omega
        rw [List.drop_eq_nil_of_le (by omega), this]
        simp
      rw [e1, e2]
      have hsp := List.pairwise_append.1 hs
      have f1 : (toS (l.take i)).filter (fun y => decide (y.f0 ≠ p)) = toS (l.take i) := by
        rw [List.filter_eq_self]
        intro y hy
        obtain ⟨u, hu, rfl⟩ := List.mem_map.1 hy
        have := hsp.2.2 u.1 (by rw [← ps_take]; exact List.mem_map_of_mem hu) p (by simp)
        exact decide_eq_true (show (toX u).f0 ≠ p from Int.ne_of_lt this)
      have f2 : (toS (l.drop i)).filter (fun y => decide (y.f0 ≠ p)) = toS (l.drop i) := by
        rw [List.filter_eq_self]
        intro y hy
        obtain ⟨u, hu, rfl⟩ := List.mem_map.1 hy
        have := (List.pairwise_cons.1 hsp.2.1).1 u.1 (by rw [← ps_drop]; exact List.mem_map_of_mem hu)
        exact decide_eq_true (show (toX u).f0 ≠ p from Int.ne_of_gt this)
      have f3 : toS M = toS (l.take i) ++ (⟨p, ⟨b.toArray⟩⟩ :: toS (l.drop i)) := by rw [← hM, toS_append]; rfl
      rw [f3, List.filter_append, List.filter_cons, f1, f2, toS_append]
      simp
    · rw [if_neg hneg]
      obtain ⟨n, hn⟩ : ∃ n : Nat, nearQ (ps M) p l.length = (n : Int) := ⟨(nearQ (ps M) p l.length).toNat, by omega⟩
      rw [hn, fl_at n p (toS M) 0 (by omega), Int.toNat_natCast, toS_append, toS_take, toS_drop, Nat.sub_zero]
  · rw [if_pos (by omega), if_neg hc2]

end Go.Proofs.Ytnmjcnlhcddokaa.St
