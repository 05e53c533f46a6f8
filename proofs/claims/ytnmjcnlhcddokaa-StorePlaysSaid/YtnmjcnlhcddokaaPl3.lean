/- Both stores in memory, and each call at them. -/
import Derived.Test.YtnmjcnlhcddokaaPl2
namespace Go.Proofs.Ytnmjcnlhcddokaa.St
open Go.RowKit Go.Proofs.Ytnmjcnlhcddokaa.PStorePlays Go.Proofs.YtnmjcnlhcddokaaW.PrintWords Go.Proofs.YtnmjcnlhcddokaaW.PrintLast Go.Proofs.YtnmjcnlhcddokaaW.PrintMore
set_option linter.unusedVariables false
set_option linter.unusedSimpArgs false

/-- The document's items: a row of their own. -/
def RefAt (w : World) (B : Nat) (u : Value) (l : List It) : Prop := Kd.R k51 51 w B (fun k => some k = u.ownBlock) u (toS l)
theorem k51_E : k51.E = [] := rfl
theorem refAt_of {w : World} {B : Nat} {ok : Nat → Prop} {u : Value} {l : List It} (h : Kd.R k51 51 w B ok u (toS l)) : RefAt w B u l := Kd.R_tight k51_E h
theorem RefAt.block {w : World} {B : Nat} {u : Value} {l : List It} (h : RefAt w B u l) : ∀ k, some k = u.ownBlock → B ≤ k ∧ k < w.heap.size ∧ ∃ c, w.heap[k]? = some (.cells c 51 (0, 0)) := by
  intro k hk
  obtain ⟨_, h2, h3, q, hq, cells, hc⟩ := (Kd.R_bound h).1 k hk.symm
  obtain rfl : q = 51 := by simpa [k51_E] using hq
  exact ⟨h2, h3, cells, hc⟩
theorem RefAt.below {w w' : World} {B : Nat} {u : Value} {l : List It} (h : RefAt w B u l) (hb : Below w.heap.size w w') : RefAt w' B u l := Kd.R_below h hb
theorem RefAt.keeps {w w' : World} {B base : Nat} {u : Value} {l : List It} (h : RefAt w B u l) {S : Nat → Prop} (hk : Keeps S base w w') (hS : ∀ (k : Nat) (c : Array Value) (f : Nat × Nat), w.heap[k]? = some (.cells c 51 f) → ¬ S k) : RefAt w' B u l :=
  Kd.R_step h fun k ho hlt => by
    obtain ⟨_, _, c, hc⟩ := h.block k ho
    exact (hk.keep k _ hc (hS k c _ hc)).trans hc.symm

/-- Put of the document. -/
theorem ref_put (W0 w : World) (u : Value) (most p : Int) (b : ByteArray) (l : List It) (hR : RefAt w W0.heap.size u l) (hB : Below W0.heap.size W0 w) (hg : Good most (ps l)) (hm : most ≤ 64) (hp : p ≤ 9223372036854775807) :
    Calls Try.prog 8 #[.agg #[.int .i64 most, u], .int .i64 p, .string b] w fun e w' => ∃ A1 c1, e = .returned (.tuple #[.agg #[.int .i64 most, .slice A1 (putS most l p b.data.toList).length c1], .int .i64 (if p < 0 then 2 else 0)]) ∧ RefAt w' W0.heap.size (.slice A1 (putS most l p b.data.toList).length c1) (putS most l p b.data.toList) ∧
      Keeps (fun k => some k = u.ownBlock) W0.heap.size w w' := by
  have hb : (⟨b.data.toList.toArray⟩ : ByteArray) = b := by simp
  have hf := put_f most p l b.data.toList hg hm hp 301 (by omega)
  rw [hb] at hf
  refine (hindcastref11_Store_Put.calls 301 most (fun k => some k = u.ownBlock) u (toS l) p b most _ _ W0 w hB hR hf).mono ?_
  rintro e w' ⟨v1, rfl, h1, h2, h3⟩
  obtain ⟨A1, c1, rfl, _, _⟩ := Kd.R_reads h1
  rw [toS_length] at *
  refine ⟨A1, c1, rfl, refAt_of h1, ⟨h2.os.trans hB.os.symm, h2.tape.trans hB.tape.symm, h2.output.trans hB.output.symm, h3.1, fun k hk => (h2.block k hk).trans (hB.block k hk).symm⟩, fun k o hk hn => (h3.2 k (lt_of_heap hk) hn).trans hk⟩

theorem ref_new (B : Nat) (n : Int) (w : World) (hB : B ≤ w.heap.size) :
    Calls Try.prog 6 #[.int .i64 n] w fun e w' => ∃ A c, e = .returned (.agg #[.int .i64 (clampM n), .slice A 0 c]) ∧ RefAt w' B (.slice A 0 c) [] ∧ Below w.heap.size w w' := by
  have e1 : hindcastref11_New.f n = some (clampM n, []) := by
    unfold hindcastref11_New.f clampM mx mn
    congr 2
    split <;> split <;> (try split) <;> omega
  refine (hindcastref11_New.calls n _ _ w e1).mono ?_
  rintro e w' ⟨v, rfl, h1, hb⟩
  obtain ⟨A, c, rfl, _, _⟩ := Kd.R_reads h1
  exact ⟨A, c, rfl, refAt_of (l := []) (Kd.R_lower h1 hB), hb⟩

def fI (l : List It) (p : Int) : Int := ((floorS l p).map (·.1)).getD 0
def fB (l : List It) (p : Int) : List UInt8 := ((floorS l p).map (·.2)).getD []
def fO (l : List It) (p : Int) : Bool := (floorS l p).isSome

theorem floor_at2 (base s : Nat) (most p : Int) (l : List It) (w : World) (h : StoreAt w base s most l) :
    Calls Try.prog 10 #[.pointer (some ⟨s, 0, none⟩), .int .i64 p] w fun e w' => ∃ A c, e = .returned (.tuple #[.int .i64 (fI l p), .slice A (fB l p).length c, .bool (fO l p)]) ∧ BytesIn w' (.slice A (fB l p).length c) (fB l p) ∧ Below w.heap.size w w' := by
  refine (floor_at base s most p l w h).mono ?_
  rintro e w' ⟨hb, hf⟩
  unfold fI fB fO
  cases hx : floorS l p with
  | none =>
    rw [hx] at hf
    obtain rfl := hf
    exact ⟨none, 0, rfl, .inl ⟨rfl, rfl⟩, hb⟩
  | some x =>
    rw [hx] at hf
    obtain ⟨A, c, rfl, h1⟩ := hf
    exact ⟨A, c, rfl, bytesIn_owns h1.1, hb⟩

theorem ref_floor (w : World) (B : Nat) (u : Value) (most p : Int) (l : List It) (hR : RefAt w B u l) (hl : l.length < 1000) :
    Calls Try.prog 11 #[.agg #[.int .i64 most, u], .int .i64 p] w fun e w' => e = .returned (.tuple #[.int .i64 (fI l p), .string ⟨(fB l p).toArray⟩, .bool (fO l p)]) ∧ Below w.heap.size w w' := by
  obtain ⟨A, c, rfl, hc, hC⟩ := Kd.R_reads hR
  have hf := floor_f most p l hl 1000 hl
  have hf : hindcastref11_Store_Floor.f 1000 most (toS l) p = some (fI l p, ⟨(fB l p).toArray⟩, fO l p) := by
    rw [hf]
    unfold fI fB fO
    cases floorS l p <;> rfl
  exact hindcastref11_Store_Floor.calls 1000 most A c (toS l) p _ _ _ w hC hc hf

theorem ref_all (w : World) (B : Nat) (u : Value) (most : Int) (l : List It) (hR : RefAt w B u l) (hl : l.length < 1000) :
    Calls Try.prog 14 #[.agg #[.int .i64 most, u]] w fun e w' => ∃ A c, e = .returned (.slice A l.length c) ∧ IntsAt w' (.slice A l.length c) (ps l) ∧ Below w.heap.size w w' := by
  obtain ⟨A, c, rfl, hc, hC⟩ := Kd.R_reads hR
  refine (hindcastref11_Store_All.calls 1000 most A c (toS l) (ps l) w hC hc (all_f most l hl 1000 hl)).mono ?_
  rintro e w' ⟨v, rfl, h1, hb⟩
  obtain ⟨inner, ho⟩ := Kd.R_own h1
  obtain ⟨A', c', rfl, hc', hC'⟩ := Kd.R_reads h1
  rw [ps_length] at *
  refine ⟨A', c', rfl, ?_, hb⟩
  rcases ho.2 with ⟨hv, h0⟩ | ⟨g, cap, cur, hv, hbg, hg, rest⟩
  · injection hv with ha hn hcc
    subst ha hcc
    rw [hn]
    exact .inl ⟨rfl, List.eq_nil_of_length_eq_zero (by rw [ps_length]; exact h0)⟩
  · injection hv with ha hn hcc
    subst ha
    refine .inr ⟨g, c', by rw [ps_length], lt_of_heap hg, fun t ht => ?_⟩
    rw [ps_length] at ht
    obtain ⟨ad, ha, hcell⟩ := Kd.at_int hC' (t : Int) (by omega) (by omega)
    injection ha with ha
    subst ha
    rw [add_lit, Int.toNat_natCast] at hcell
    rw [hcell, rd]
    simp

end Go.Proofs.Ytnmjcnlhcddokaa.St
