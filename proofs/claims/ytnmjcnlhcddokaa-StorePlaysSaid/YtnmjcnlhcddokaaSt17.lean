/- The store's calls, told of plain data. -/
import Derived.Test.YtnmjcnlhcddokaaSt16
namespace Go.Proofs.Ytnmjcnlhcddokaa.St
open Go.RowKit
set_option linter.unusedVariables false
set_option linter.unusedSimpArgs false

def findI (q : List Int) (p : Int) : Nat := (q.takeWhile (fun y => decide (y < p))).length
theorem findI_low {q : List Int} {p : Int} {i : Nat} (hi : i ≤ q.length) (h : LowQ q p i) : findI q p = i := by
  induction q generalizing i with
  | nil =>
    have : i = 0 := by simpa using hi
    rw [this]; rfl
  | cons a r ih =>
    rcases i with _ | i
    · have := h.2 a (by simp)
      have hn : decide (a < p) = false := by simp; omega
      simp [findI, List.takeWhile_cons, hn]
    · have h1 := h.1 a (by simp)
      have := ih (by simpa using hi) ⟨fun y hy => h.1 y (by simp [hy]), fun y hy => h.2 y (by simpa using hy)⟩
      simp only [findI] at this
      simp [findI, List.takeWhile_cons, h1, this]

def putS (most : Int) (l : List It) (p : Int) (b : List UInt8) : List It := if p < 0 then l else putG most l p b (findI (ps l) p)
def floorS (l : List It) (p : Int) : Option It := l.reverse.find? (fun x => decide (x.1 ≤ p))

/-- The store in memory. -/
structure StoreAt (w : World) (base s : Nat) (most : Int) (l : List It) : Prop where
  pos : 0 < most
  le : most ≤ 64
  above : base ≤ s
  good : Good most (ps l)
  mem : ∃ v L, w.heap[s]? = some (.cells #[.int .i64 most, v] 49 (0, 0)) ∧ Row w base v L ∧ It2 (BytesAt w base) L l

theorem StoreAt.below {w w' : World} {base s : Nat} {most : Int} {l : List It} (h : StoreAt w base s most l) (hb : Below w.heap.size w w') : StoreAt w' base s most l := by
  obtain ⟨h1, h2, h3, h4, v, L, h5, h6, h7⟩ := h
  exact ⟨h1, h2, h3, h4, v, L, heap_below hb h5, h6.below hb, h7.mono fun v b hv => hv.below hb⟩

theorem it2_one {w : World} {base : Nat} : ∀ {L : List Im} {l : List It}, It2 (BytesAt w base) L l → OneAll L
  | [], [], _ => fun _ h => by cases h
  | x :: L, y :: l, h => fun z hz => by
    rcases List.mem_cons.1 hz with rfl | hz
    · exact h.2.1.one
    · exact it2_one h.2.2 z hz
  | [], _ :: _, h => h.elim
  | _ :: _, [], h => h.elim

/-- The blocks of the store at s. -/
def FootOf (w : World) (s : Nat) : Nat → Prop := fun k => k = s ∨ ∃ (most : Int) (v : Value), w.heap[s]? = some (.cells #[.int .i64 most, v] 49 (0, 0)) ∧ v.ownBlock = some k
theorem footOf_eq {w : World} {s : Nat} {most : Int} {v : Value} (h : w.heap[s]? = some (.cells #[.int .i64 most, v] 49 (0, 0))) (k : Nat) : FootOf w s k ↔ Foot s v k := by
  constructor
  · rintro (rfl | ⟨m, v', h', hk⟩)
    · exact .inl rfl
    · rw [h] at h'
      have : v = v' := by simpa using (by simpa using h' : most = m ∧ v = v').2
      subst this
      exact .inr hk
  · rintro (rfl | hk)
    · exact .inl rfl
    · exact .inr ⟨most, v, h, hk⟩
theorem StoreAt.foot_lt {w : World} {base s : Nat} {most : Int} {l : List It} (h : StoreAt w base s most l) : ∀ k, FootOf w s k → k < w.heap.size := by
  obtain ⟨h1, h2, h3, h4, v, L, h5, h6, h7⟩ := h
  intro k hk
  exact St.foot_lt h5 h6 k ((footOf_eq h5 k).1 hk)
theorem StoreAt.foot5 {w : World} {base s : Nat} {most : Int} {l : List It} (h : StoreAt w base s most l) : ∀ (k : Nat) (c : Array Value) (f : Nat × Nat), w.heap[k]? = some (.cells c 5 f) → ¬ FootOf w s k := by
  obtain ⟨h1, h2, h3, h4, v, L, h5, h6, h7⟩ := h
  intro k c f hk hS
  exact St.foot5 h5 h6 k c f hk ((footOf_eq h5 k).1 hS)
theorem StoreAt.foot_types {w : World} {base s : Nat} {most : Int} {l : List It} (h : StoreAt w base s most l) : ∀ k, FootOf w s k → base ≤ k ∧ ∃ c e f, w.heap[k]? = some (.cells c e f) ∧ (e = 49 ∨ e = 54) := by
  obtain ⟨h1, h2, h3, h4, v, L, h5, h6, h7⟩ := h
  intro k hk
  rcases (footOf_eq h5 k).1 hk with rfl | hk
  · exact ⟨h3, _, _, _, h5, .inl rfl⟩
  · obtain ⟨hb, c, f, hc⟩ := row_block h6 k hk
    exact ⟨hb, c, 54, f, hc, .inr rfl⟩
/-- Another store turns: this one does not. -/
theorem StoreAt.keeps {w w' : World} {base s : Nat} {most : Int} {l : List It} (h : StoreAt w base s most l) {S : Nat → Prop} {B : Nat} (hk : Keeps S B w w') (hS : ∀ k, FootOf w s k → ¬ S k)
    (h5S : ∀ (k : Nat) (c : Array Value) (f : Nat × Nat), w.heap[k]? = some (.cells c 5 f) → ¬ S k) : StoreAt w' base s most l ∧ ∀ k, FootOf w' s k → FootOf w s k := by
  obtain ⟨h1, h2, h3, h4, v, L, h5, h6, h7⟩ := h
  have hs' := hk.keep s _ h5 (hS s (.inl rfl))
  refine ⟨⟨h1, h2, h3, h4, v, L, hs', ?_, h7.mono fun v b hv => hv.keeps hk h5S⟩, fun k hk' => (footOf_eq h5 k).2 ((footOf_eq hs' k).1 hk')⟩
  rcases h6 with h6 | ⟨g, cap, cur, rfl, hbg, hg, r1, r2, r3, hI⟩
  · exact .inl h6
  · have hg' := hk.keep g _ hg (hS g ((footOf_eq h5 g).2 (.inr rfl)))
    exact .inr ⟨g, cap, cur, rfl, hbg, hg', r1, r2, r3, hI.same (hg'.trans hg.symm)⟩
theorem footOf_below {w w' : World} (hb : Below w.heap.size w w') {s : Nat} (hs : s < w.heap.size) (k : Nat) : FootOf w' s k ↔ FootOf w s k := by
  unfold FootOf
  rw [hb.block s hs]

theorem put_at (base s : Nat) (most p : Int) (bv : Value) (b : List UInt8) (l : List It) (w : World) (h : StoreAt w base s most l) (hb : BytesIn w bv b) (hbl : b.length ≤ 140737488351232) (hbw : base ≤ w.heap.size) (hp : p ≤ 9223372036854775807) :
    Calls Try.prog 9 #[.pointer (some ⟨s, 0, none⟩), .int .i64 p, bv] w fun e w' => e = .returned (.int .i64 (if p < 0 then 2 else 0)) ∧ StoreAt w' base s most (putS most l p b) ∧ Keeps (FootOf w s) base w w' ∧ ∀ k, FootOf w' s k → FootOf w s k ∨ w.heap.size ≤ k := by
  have h0 := h
  obtain ⟨h1, h2, h3, h4, v, L, h5, h6, h7⟩ := h
  have hps : ps L = ps l := h7.fst
  by_cases hp0 : p < 0
  · rw [if_pos hp0]
    refine (put_low s most p v bv w h5 h1 hp0).mono ?_
    rintro e w' ⟨rfl, hk⟩
    exact ⟨rfl, by rw [putS, if_pos hp0]; exact h0.below hk, Keeps.of_below hk hbw, fun k h => .inl ((footOf_below hk (lt_of_heap h5) k).1 h)⟩
  · rw [if_neg hp0]
    have hg : Good most (ps L) := by rw [hps]; exact h4
    have hlen : (L.length : Int) ≤ most := by have := hg.len; rwa [ps_length] at this
    refine (put_any base s most p v bv b L w h5 h1 (by omega) hp hb hbl h6 hg.sortedIm hg.fitsIm (it2_one h7) (by omega) h3 hbw).mono ?_
    rintro e w' ⟨rfl, i, x, v', hi, hl, g1, g2, g3, g4, g5⟩
    have hlq : LowQ (ps l) p i := by rw [← hps]; exact low_lowQ hi hl
    have hfi : findI (ps l) p = i := findI_low (by rw [← hps, ps_length]; exact hi) hlq
    have hil : i ≤ l.length := by rw [← h7.length]; exact hi
    refine ⟨rfl, ⟨h1, h2, h3, ?_, v', _, g1, g2, ?_⟩, g4.mono fun k hk => (footOf_eq h5 k).2 hk, fun k hk => ?_⟩
    · rw [putS, if_neg hp0, hfi]
      exact h4.put (by omega) hp hlq hil b
    · rw [putS, if_neg hp0, hfi, putIm_putG]
      exact (h7.mono fun v b hv => hv.keeps g4 (St.foot5 h5 h6)).put most p x b (g3.lower hbw) i
    · rcases (footOf_eq g1 k).1 hk with rfl | hk
      · exact .inl (.inl rfl)
      · exact (g5 k hk).imp (fun h => (footOf_eq h5 k).2 (.inr h)) id

theorem it2_slice {w : World} {base : Nat} {L : List Im} {l : List It} (h : It2 (BytesAt w base) L l) : ∀ t, t < L.length → ∃ A n c, vat L t = .slice A n c := by
  intro t ht
  obtain ⟨A, c, hv⟩ := owns_form (h.get t ht).1
  exact ⟨A, _, c, hv⟩

theorem all_at (base s : Nat) (most : Int) (l : List It) (w : World) (h : StoreAt w base s most l) :
    Calls Try.prog 13 #[.pointer (some ⟨s, 0, none⟩)] w fun e w' => ∃ v', e = .returned v' ∧ w'.ownsRow w.heap.size 3 1 v' l.length (ints (ps l)) ∧ Below w.heap.size w w' := by
  obtain ⟨h1, h2, h3, h4, v, L, h5, h6, h7⟩ := h
  have hps : ps L = ps l := h7.fst
  have hlen := h4.len
  rw [← hps, ps_length] at hlen
  refine (all_any base s most v L w h5 h1 h6 (by omega) (it2_slice h7)).mono ?_
  rintro e w' ⟨v', rfl, ho, hb⟩
  refine ⟨v', rfl, ?_, hb⟩
  rw [← h7.length, ← hps]
  exact ho

/-- The program's answer of Floor, by the greatest that is not above. -/
def FloorAt (w : World) (l : List It) (p : Int) (e : Ending) (w' : World) : Prop :=
  Below w.heap.size w w' ∧
  match floorS l p with
  | none => e = .returned (.tuple #[.int .i64 0, .slice none 0 0, .bool false])
  | some x => ∃ A c, e = .returned (.tuple #[.int .i64 x.1, .slice A x.2.length c, .bool true]) ∧ BytesAt w' w.heap.size (.slice A x.2.length c) x.2

theorem floorS_none {l : List It} {p : Int} (h : ∀ x ∈ l, p < x.1) : floorS l p = none := by
  unfold floorS
  rw [List.find?_eq_none]
  intro x hx
  have := h x (List.mem_reverse.1 hx)
  simp; omega
theorem floorS_some {l : List It} {p : Int} {j : Nat} (hj : j < l.length) (h1 : (l[j]).1 ≤ p) (h2 : ∀ t (ht : t < l.length), j < t → p < (l[t]).1) : floorS l p = some l[j] := by
  unfold floorS
  rw [List.find?_eq_some_iff_append]
  refine ⟨by simpa using h1, (l.drop (j + 1)).reverse, (l.take j).reverse, ?_, ?_⟩
  · have e : l = l.take j ++ l[j] :: l.drop (j + 1) := by rw [← List.drop_eq_getElem_cons hj, List.take_append_drop]
    conv => lhs; rw [e]
    simp
  · intro x hx
    obtain ⟨t, ht, rfl⟩ := List.getElem_of_mem (List.mem_reverse.1 hx)
    rw [List.length_drop] at ht
    rw [List.getElem_drop]
    have := h2 (j + 1 + t) (by omega) (by omega)
    simp; omega

theorem it2_pos {P : Value → List UInt8 → Prop} {L : List Im} {l : List It} (h : It2 P L l) (t : Nat) (ht : t < l.length) : pos L t = (l[t]).1 := by
  rw [pos_pp, show ps L = ps l from h.fst, pp_get (by rw [ps_length]; exact ht)]
  simp [ps]

theorem floor_at (base s : Nat) (most p : Int) (l : List It) (w : World) (h : StoreAt w base s most l) :
    Calls Try.prog 10 #[.pointer (some ⟨s, 0, none⟩), .int .i64 p] w (FloorAt w l p) := by
  obtain ⟨h1, h2, h3, h4, v, L, h5, h6, h7⟩ := h
  have hps : ps L = ps l := h7.fst
  have hg : Good most (ps L) := by rw [hps]; exact h4
  have hlen := hg.len
  rw [ps_length] at hlen
  have hll := h7.length
  refine (floor_any base s most p v L l w h5 h1 h6 hg.sortedIm (by omega) ⟨hll, fun t ht => ⟨by rw [it2_pos h7 t (by omega)]; simp [List.getD_eq_getElem?_getD, (show t < l.length by omega)], h7.get t ht⟩⟩).mono ?_
  rintro e w' ⟨hb, hc⟩
  refine ⟨hb, ?_⟩
  rcases hc with ⟨rfl, hall⟩ | ⟨j, A, n, c, hj, hjp, hjt, rfl, rfl, hbb⟩
  · rw [floorS_none (fun x hx => by
      obtain ⟨t, ht, rfl⟩ := List.getElem_of_mem hx
      rw [← it2_pos h7 t ht]
      exact hall t (by omega))]
  · have hjl : j < l.length := by omega
    have hp := it2_pos h7 j hjl
    rw [floorS_some hjl (by rw [← hp]; exact hjp) (fun t ht hjt' => by rw [← it2_pos h7 t ht]; exact hjt t hjt' (by omega))]
    have hd : l.getD j (0, []) = l[j] := by simp [List.getD_eq_getElem?_getD, hjl]
    rw [hd] at hbb
    rw [hd, hp]
    exact ⟨A, c, rfl, hbb⟩

theorem new_at (n : Int) (w : World) : Calls Try.prog 5 #[.int .i64 n] w fun e w' => e = .returned (.pointer (some ⟨w.heap.size, 0, none⟩)) ∧ StoreAt w' w.heap.size w.heap.size (if n < 1 then 1 else if 64 < n then 64 else n) [] ∧ Below w.heap.size w w' :=
  (new_any n w).mono fun e w' ⟨he, hh, hb⟩ => ⟨he, ⟨by split <;> (try split) <;> omega, by split <;> (try split) <;> omega, Nat.le_refl _, ⟨List.Pairwise.nil, fun y hy => (by cases hy), by show ((0 : Nat) : Int) ≤ _; split <;> (try split) <;> omega⟩, _, [], hh, .inl ⟨rfl, rfl⟩, trivial⟩, hb⟩

end Go.Proofs.Ytnmjcnlhcddokaa.St
