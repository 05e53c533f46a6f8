/- Two stores side by side; the document's examples. -/
import Derived.Test.YtnmjcnlhcddokaaSt18
namespace Go.Proofs.Ytnmjcnlhcddokaa.St
open Go.RowKit
set_option linter.unusedVariables false
set_option linter.unusedSimpArgs false

/-- Below B nothing turns; elsewhere stores' structs and rows of items alone. -/
structure TKeeps (B : Nat) (w w' : World) : Prop where
  below : Below B w w'
  keep : ∀ (k : Nat) (c : Array Value) (e : TypeId) (f : Nat × Nat), w.heap[k]? = some (.cells c e f) → e ≠ 49 → e ≠ 54 → w'.heap[k]? = some (.cells c e f)
theorem TKeeps.trans {B : Nat} {a b c : World} (h : TKeeps B a b) (k : TKeeps B b c) : TKeeps B a c :=
  ⟨h.below.trans k.below, fun i cs e f hi h1 h2 => k.keep i cs e f (h.keep i cs e f hi h1 h2) h1 h2⟩
theorem TKeeps.of_below {B : Nat} {w w' : World} (h : Below w.heap.size w w') (hb : B ≤ w.heap.size) : TKeeps B w w' :=
  ⟨h.mono hb, fun k c e f hk _ _ => (h.block k (lt_of_heap hk)).trans hk⟩
theorem StoreAt.tkeeps {w w' : World} {base s B : Nat} {most : Int} {l : List It} (h : StoreAt w base s most l) (hk : Keeps (FootOf w s) B w w') : TKeeps B w w' :=
  ⟨hk.below, fun k c e f hc h1 h2 => hk.keep k _ hc fun hS => by
    obtain ⟨_, c', e', f', hc', he⟩ := h.foot_types k hS
    rw [hc] at hc'
    injection hc' with hc'
    injection hc' with _ hc'
    subst hc'
    rcases he with he | he
    · exact h1 he
    · exact h2 he⟩
theorem BytesAt.tkeeps {w w' : World} {base B : Nat} {v : Value} {bs : List UInt8} (h : BytesAt w base v bs) (hk : TKeeps B w w') : BytesAt w' base v bs :=
  h.move fun k c f hc => hk.keep k c 5 f hc (by decide) (by decide)
theorem owns3_tkeeps {w w' : World} {base B n : Nat} {v : Value} {xs : List Value} (h : w.ownsRow base 3 1 v n xs) (hk : TKeeps B w w') : w'.ownsRow base 3 1 v n xs := by
  refine ⟨h.1, ?_⟩
  rcases h.2 with h | ⟨g, cap, cur, hv, hb, hg, rest⟩
  · exact .inl h
  · exact .inr ⟨g, cap, cur, hv, hb, hk.keep g _ 3 _ hg (by decide) (by decide), rest⟩
theorem StoreAt.lower {w : World} {base base' s : Nat} {most : Int} {l : List It} (h : StoreAt w base s most l) (hb : base' ≤ base) : StoreAt w base' s most l := by
  obtain ⟨h1, h2, h3, h4, v, L, h5, h6, h7⟩ := h
  exact ⟨h1, h2, Nat.le_trans hb h3, h4, v, L, h5, h6.lower hb, h7.mono fun v b hv => hv.lower hb⟩

structure Pair (w : World) (B s x : Nat) (ms mx : Int) (ls lx : List It) : Prop where
  one : StoreAt w B s ms ls
  two : StoreAt w B x mx lx
  dis : ∀ k, FootOf w s k → ¬ FootOf w x k
theorem Pair.below {w w' : World} {B s x : Nat} {ms mx : Int} {ls lx : List It} (h : Pair w B s x ms mx ls lx) (hb : Below w.heap.size w w') : Pair w' B s x ms mx ls lx :=
  ⟨h.one.below hb, h.two.below hb, fun k h1 h2 => h.dis k ((footOf_below hb (h.one.foot_lt s (.inl rfl)) k).1 h1) ((footOf_below hb (h.two.foot_lt x (.inl rfl)) k).1 h2)⟩
theorem Pair.swap {w : World} {B s x : Nat} {ms mx : Int} {ls lx : List It} (h : Pair w B s x ms mx ls lx) : Pair w B x s mx ms lx ls :=
  ⟨h.two, h.one, fun k h1 h2 => h.dis k h2 h1⟩
theorem put_one (B s x : Nat) (ms mx p : Int) (bv : Value) (b : List UInt8) (ls lx : List It) (w : World) (h : Pair w B s x ms mx ls lx) (hb : BytesIn w bv b) (hbl : b.length ≤ 140737488351232) (hbw : B ≤ w.heap.size) (hp : p ≤ 9223372036854775807) :
    Calls Try.prog 9 #[.pointer (some ⟨s, 0, none⟩), .int .i64 p, bv] w fun e w' => e = .returned (.int .i64 (if p < 0 then 2 else 0)) ∧ Pair w' B s x ms mx (putS ms ls p b) lx ∧ TKeeps B w w' := by
  refine (put_at B s ms p bv b ls w h.one hb hbl hbw hp).mono ?_
  rintro e w' ⟨he, h1, h2, h3⟩
  obtain ⟨k1, k2⟩ := h.two.keeps h2 (fun k hk hk' => h.dis k hk' hk) h.one.foot5
  refine ⟨he, ⟨h1, k1, fun k hk hk' => ?_⟩, h.one.tkeeps h2⟩
  rcases h3 k hk with h4 | h4
  · exact h.dis k h4 (k2 k hk')
  · have := h.two.foot_lt k (k2 k hk')
    omega
theorem put_two (B s x : Nat) (ms mx p : Int) (bv : Value) (b : List UInt8) (ls lx : List It) (w : World) (h : Pair w B s x ms mx ls lx) (hb : BytesIn w bv b) (hbl : b.length ≤ 140737488351232) (hbw : B ≤ w.heap.size) (hp : p ≤ 9223372036854775807) :
    Calls Try.prog 9 #[.pointer (some ⟨x, 0, none⟩), .int .i64 p, bv] w fun e w' => e = .returned (.int .i64 (if p < 0 then 2 else 0)) ∧ Pair w' B s x ms mx ls (putS mx lx p b) ∧ TKeeps B w w' :=
  (put_one B x s mx ms p bv b lx ls w h.swap hb hbl hbw hp).mono fun e w' ⟨h1, h2, h3⟩ => ⟨h1, h2.swap, h3⟩
theorem pair_new {w w1 w2 : World} {ms mx : Int} (h1 : StoreAt w1 w.heap.size w.heap.size ms []) (h2 : StoreAt w2 w1.heap.size w1.heap.size mx []) (hb : Below w1.heap.size w1 w2) (hs : w.heap.size ≤ w1.heap.size) : Pair w2 w.heap.size w.heap.size w1.heap.size ms mx [] [] :=
  ⟨h1.below hb, h2.lower hs, fun k hk hk' => by
    have a1 := h1.foot_lt k ((footOf_below hb (h1.foot_lt _ (.inl rfl)) k).1 hk)
    have a2 := (h2.foot_types k hk').1
    omega⟩
theorem bytesIn_new (w : World) (b : UInt8) (n : Int) (h : n = b.toNat) : BytesIn (w.alloc (.cells #[.int .u8 n] 5)) (.slice (some ⟨w.heap.size, 0, none⟩) 1 1) [b] := by
  subst h
  refine .inr ⟨w.heap.size, 1, rfl, by simp, ?_⟩
  exact cell_one_new w _ 5

theorem run_string_of {P : Program} (src dst e : TypeId) (hs : P.underlying src = some (.slice e)) (he : P.underlying e = some (.int .u8)) (hd : P.underlying dst = some .string) (w : World) (A : Option Addr) (bs : List UInt8) (c : Nat)
    (h : BytesIn w (.slice A bs.length c) bs) : (convert src dst (.slice A bs.length c)).run P w = .ok (.string ⟨bs.toArray⟩) w := by
  rcases h with ⟨hv, rfl⟩ | ⟨g, c', hv, hg, hc⟩
  · injection hv with h1 h2 h3
    subst h1
    exact run_convert_bytes_nil w src e hs he _ _ dst hd
  · injection hv with h1 h2 h3
    subst h1 h3
    have e1 : strOfNums (bs.map fun b => (b.toNat : Int)) = ⟨bs.toArray⟩ := by
      simp [strOfNums, Function.comp_def]
    rw [← e1]
    refine run_convert_bytes_arg w src e hs he g 0 bs.length c (bs.map fun b => (b.toNat : Int)) (by simp) (fun i hi => ?_) dst hd
    have := hc i (.int .u8 ((bs[i]'hi).toNat : Int)) (by simp [byteVals, hi])
    rw [add_lit] at this
    rw [Nat.zero_add, this]
    simp [List.getD_eq_getElem?_getD, hi]

end Go.Proofs.Ytnmjcnlhcddokaa.St
