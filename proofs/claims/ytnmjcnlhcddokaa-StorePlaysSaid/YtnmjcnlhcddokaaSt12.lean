/- Put: bytes are put at a position. -/
import Derived.Test.YtnmjcnlhcddokaaSt11
import Derived.Deep.DeepCutAuto
import Derived.Deep.CutRange
import Derived.Deep.RegionWith
namespace Go.Proofs.Ytnmjcnlhcddokaa.St
open Go.RowKit
set_option linter.unusedVariables false
set_option linter.unusedSimpArgs false

theorem bcell {W w1 : World} (hb : Below W.heap.size W w1) : (∀ b o, b < W.heap.size → w1.cell? ⟨b, o, none⟩ = W.cell? ⟨b, o, none⟩) ∧ (∀ b o, b < W.heap.size → w1.frozen? ⟨b, o, none⟩ = W.frozen? ⟨b, o, none⟩) ∧ W.heap.size ≤ w1.heap.size :=
  ⟨fun b o h => hb.cell (p := ⟨b, o, none⟩) h, fun b o h => hb.frozen (p := ⟨b, o, none⟩) h, hb.size⟩

def BytesAt (w : World) (base : Nat) (v : Value) (bs : List UInt8) : Prop := w.ownsRow base 5 1 v bs.length (byteVals bs) ∧ bs.length ≤ 140737488351232

theorem BytesAt.lower {w : World} {base base' : Nat} {v : Value} {bs : List UInt8} (h : BytesAt w base v bs) (hb : base' ≤ base) : BytesAt w base' v bs := by
  obtain ⟨⟨h1, h2⟩, h3⟩ := h
  refine ⟨⟨h1, ?_⟩, h3⟩
  rcases h2 with h2 | ⟨g, cap, cur, hv, hg, rest⟩
  · exact .inl h2
  · exact .inr ⟨g, cap, cur, hv, Nat.le_trans hb hg, rest⟩
theorem BytesAt.move {w w' : World} {base : Nat} {v : Value} {bs : List UInt8} (h : BytesAt w base v bs) (hm : ∀ (k : Nat) (c : Array Value) (f : Nat × Nat), w.heap[k]? = some (.cells c 5 f) → w'.heap[k]? = some (.cells c 5 f)) : BytesAt w' base v bs := by
  obtain ⟨⟨h1, h2⟩, h3⟩ := h
  refine ⟨⟨h1, ?_⟩, h3⟩
  rcases h2 with h2 | ⟨g, cap, cur, hv, hg, hh, rest⟩
  · exact .inl h2
  · exact .inr ⟨g, cap, cur, hv, hg, hm _ _ _ hh, rest⟩
theorem BytesAt.below {w w' : World} {base : Nat} {v : Value} {bs : List UInt8} (h : BytesAt w base v bs) (hb : Below w.heap.size w w') : BytesAt w' base v bs :=
  h.move fun k c f hk => (hb.block k (lt_of_heap hk)).trans hk
theorem BytesAt.keeps {w w' : World} {base B : Nat} {v : Value} {bs : List UInt8} (h : BytesAt w base v bs) {S : Nat → Prop} (hb : Keeps S B w w') (hS : ∀ (k : Nat) (c : Array Value) (f : Nat × Nat), w.heap[k]? = some (.cells c 5 f) → ¬ S k) : BytesAt w' base v bs :=
  h.move fun k c f hk => hb.keep k _ hk (hS k c f hk)
theorem BytesAt.one {w : World} {base : Nat} {v : Value} {bs : List UInt8} (h : BytesAt w base v bs) : v.oneCell' = true := by
  rcases h.1.2 with ⟨rfl, _⟩ | ⟨g, cap, cur, rfl, _⟩ <;> rfl

/-- Behind the statement 'x := item{pos, slices.Clone(b)}'. -/
def Cut5 (w : World) (p : Int) (b : List UInt8) (s7 : Value) (wx : World) : Prop :=
  ∃ (gx : Nat) (v : Value), s7 = .pointer (some ⟨gx, 0, none⟩) ∧ w.heap.size < gx ∧ wx.heap[gx]? = some (.cells #[.int .i64 p, v] 54 (0, 0)) ∧ BytesAt wx w.heap.size v b ∧ Below w.heap.size w wx ∧ wx.heap[w.heap.size]? = some (.cells #[.int .i64 p] 3 (0, 0))
theorem cut5_alloc {w w1 : World} {p : Int} {b : List UInt8} {v : Value} (hb : Below (w.alloc (.cells #[.int .i64 p] 3)).drew.heap.size (w.alloc (.cells #[.int .i64 p] 3)).drew w1) (ho : BytesAt w1 (w.alloc (.cells #[.int .i64 p] 3)).drew.heap.size v b) :
    Cut5 w p b (.pointer (some ⟨w1.heap.size, 0, none⟩)) (w1.alloc (.cells #[.int .i64 p, v] 54)) := by
  have hsz : w.heap.size + 1 ≤ w1.heap.size := by simpa using hb.size
  have h0 : Below w.heap.size w (w.alloc (.cells #[.int .i64 p] 3)).drew := ((Below.refl _ _).alloc (Nat.le_refl _) _).drew
  refine ⟨w1.heap.size, v, rfl, by omega, heap_alloc_new w1 _, ?_, (h0.trans (hb.mono (by simp))).alloc (by omega) _, ?_⟩
  · exact (ho.lower (by simp)).below ((Below.refl _ _).alloc (Nat.le_refl _) _)
  · have hlt : w.heap.size < w1.heap.size := by omega
    have e1 : (w1.alloc (.cells #[.int .i64 p, v] 54)).heap[w.heap.size]? = w1.heap[w.heap.size]? := Below.heap_alloc w1 _ _ hlt
    have e2 : w1.heap[w.heap.size]? = (w.alloc (.cells #[.int .i64 p] 3)).drew.heap[w.heap.size]? := hb.block _ (by simp)
    have e3 : (w.alloc (.cells #[.int .i64 p] 3)).drew.heap[w.heap.size]? = some (.cells #[.int .i64 p] 3 (0, 0)) := heap_alloc_new w _
    exact e1.trans (e2.trans e3)
theorem cut5_set {w w1 : World} {p : Int} {b : List UInt8} {v z1 z2 : Value} (hb : Below ((w.alloc (.cells #[.int .i64 p] 3)).alloc (.cells #[z1, z2] 54)).drew.heap.size ((w.alloc (.cells #[.int .i64 p] 3)).alloc (.cells #[z1, z2] 54)).drew w1)
    (ho : BytesAt w1 ((w.alloc (.cells #[.int .i64 p] 3)).alloc (.cells #[z1, z2] 54)).drew.heap.size v b) :
    Cut5 w p b (.pointer (some ⟨w.heap.size + 1, 0, none⟩)) ((w1.setCell ⟨w.heap.size + 1, 0, none⟩ (.int .i64 p)).setCell ⟨w.heap.size + 1, 1, none⟩ v) := by
  have hsz : w.heap.size + 1 + 1 ≤ w1.heap.size := by simpa using hb.size
  have h0 : Below w.heap.size w ((w.alloc (.cells #[.int .i64 p] 3)).alloc (.cells #[z1, z2] 54)).drew := (((Below.refl _ _).alloc (Nat.le_refl _) _).alloc (by simp) _).drew
  have e1 : w1.heap[w.heap.size + 1]? = some (.cells #[z1, z2] 54 (0, 0)) := by
    rw [hb.block _ (by simp)]
    have h := heap_alloc_new (w.alloc (.cells #[.int .i64 p] 3)) (.cells #[z1, z2] 54)
    rw [World.size_alloc] at h
    exact h
  have e2 := heap_set_same (j := 0) e1 (.int .i64 p)
  have e3 := heap_set_same (j := 1) e2 v
  refine ⟨w.heap.size + 1, v, rfl, by omega, e3, ?_, ((h0.trans (hb.mono (by simp; omega))).setCell (p := ⟨w.heap.size + 1, 0, none⟩) (by simp) _).setCell (p := ⟨w.heap.size + 1, 1, none⟩) (by simp) _, ?_⟩
  · refine (ho.lower (by simp; omega)).move fun k c f hk => ?_
    have hne : k ≠ w.heap.size + 1 := by
      rintro rfl
      rw [e1] at hk
      injection hk with hk
      injection hk with _ hk
      exact absurd hk (by decide)
    rw [Below.heap_setCell _ ⟨w.heap.size + 1, 1, none⟩ v k hne, Below.heap_setCell _ ⟨w.heap.size + 1, 0, none⟩ _ k hne]
    exact hk
  · have hne : w.heap.size ≠ w.heap.size + 1 := by omega
    have f1 : ((w1.setCell ⟨w.heap.size + 1, 0, none⟩ (.int .i64 p)).setCell ⟨w.heap.size + 1, 1, none⟩ v).heap[w.heap.size]? = w1.heap[w.heap.size]? := by
      rw [Below.heap_setCell _ ⟨w.heap.size + 1, 1, none⟩ v _ hne, Below.heap_setCell _ ⟨w.heap.size + 1, 0, none⟩ _ _ hne]
    have f2 : w1.heap[w.heap.size]? = some (.cells #[.int .i64 p] 3 (0, 0)) := by
      rw [hb.block _ (by simp; omega)]
      exact (Below.heap_alloc _ _ _ (by simp)).trans (heap_alloc_new w _)
    exact f1.trans f2

theorem owns_form {w : World} {base e size n : Nat} {v : Value} {xs : List Value} (h : w.ownsRow base e size v n xs) : ∃ A c, v = .slice A n c := by
  rcases h.2 with ⟨rfl, rfl⟩ | ⟨g, cap, cur, rfl, _⟩
  · exact ⟨_, _, rfl⟩
  · exact ⟨_, _, rfl⟩
theorem clone_slice (v : Value) (bs : List UInt8) (w : World) (hv : BytesIn w v bs) (hn : bs.length ≤ 140737488351232) :
    Calls Try.prog 18 #[v] w fun e w' => ∃ A c, e = .returned (.slice A bs.length c) ∧ BytesAt w' w.heap.size (.slice A bs.length c) bs ∧ Below w.heap.size w w' :=
  (clone_any v bs w hv hn).mono fun e w' ⟨v', he, ho, hb⟩ => by
    obtain ⟨A, c, rfl⟩ := owns_form ho
    exact ⟨A, c, he, ⟨ho, hn⟩, hb⟩

theorem put_low (s : Nat) (most p : Int) (v bv : Value) (w : World) (hs : w.heap[s]? = some (.cells #[.int .i64 most, v] 49 (0, 0))) (hm : 0 < most) (hp : p < 0) :
    Calls Try.prog 9 #[.pointer (some ⟨s, 0, none⟩), .int .i64 p, bv] w fun e w' => e = .returned (.int .i64 2) ∧ Below w.heap.size w w' := by
  have hsl := lt_of_heap hs
  have hs1 := fun o => (Below.heap_alloc w o s hsl).trans hs
  have HS := Lib.hid hs1
  clear hs hs1
  go_enter Try.func9, Try.ntmps9
  go_wp2_with (go_at_call 17; refine (made_some s most v _ (HS.out _) hm).mono ?_; rintro e w' ⟨rfl, rfl⟩)
  go_ret
  exact ⟨rfl, (Below.refl _ _).alloc (Nat.le_refl _) _⟩

theorem pos_set_same {L : List Im} {i : Nat} {x : Im} (h : i < L.length) : pos (L.set i x) i = x.1 := by simp [pos, List.getD_eq_getElem?_getD, List.getElem?_set, h]
theorem vat_set_same {L : List Im} {i : Nat} {x : Im} (h : i < L.length) : vat (L.set i x) i = x.2 := by simp [vat, List.getD_eq_getElem?_getD, List.getElem?_set, h]
theorem pos_set_ne {L : List Im} {i t : Nat} {x : Im} (h : i ≠ t) : pos (L.set i x) t = pos L t := by simp [pos, List.getD_eq_getElem?_getD, List.getElem?_set, h]
theorem vat_set_ne {L : List Im} {i t : Nat} {x : Im} (h : i ≠ t) : vat (L.set i x) t = vat L t := by simp [vat, List.getD_eq_getElem?_getD, List.getElem?_set, h]
theorem items_set {w : World} {g i : Nat} {L : List Im} {cur : Array Value} (hI : ItemsAt w g L) (hg : w.heap[g]? = some (.cells cur 54 (0, 0))) (hi : i < L.length) (hcs : L.length * 2 ≤ cur.size) (x : Im) :
    ∃ cur', ((w.setCell ⟨g, i * 2, none⟩ (.int .i64 x.1)).setCell ⟨g, i * 2 + 1, none⟩ x.2).heap[g]? = some (.cells cur' 54 (0, 0)) ∧ cur'.size = cur.size ∧
      ItemsAt ((w.setCell ⟨g, i * 2, none⟩ (.int .i64 x.1)).setCell ⟨g, i * 2 + 1, none⟩ x.2) g (L.set i x) := by
  have e1 := heap_set_same (j := i * 2) hg (.int .i64 x.1)
  have e2 := heap_set_same (j := i * 2 + 1) e1 x.2
  refine ⟨_, e2, by simp, fun t ht => ?_⟩
  rw [List.length_set] at ht
  rw [cell_of_row _ g _ _ _ _ e2, cell_of_row _ g _ _ _ _ e2]
  by_cases hti : i = t
  · subst hti
    rw [pos_set_same hi, vat_set_same hi]
    constructor
    · rw [Array.getElem?_setIfInBounds_ne (by omega), Array.getElem?_setIfInBounds_self_of_lt (by omega)]
    · rw [Array.getElem?_setIfInBounds_self_of_lt (by simp; omega)]
  · rw [pos_set_ne hti, vat_set_ne hti]
    obtain ⟨h1, h2⟩ := hI t ht
    rw [cell_of_row _ g _ _ _ _ hg] at h1 h2
    constructor
    · rw [Array.getElem?_setIfInBounds_ne (by omega), Array.getElem?_setIfInBounds_ne (by omega), h1]
    · rw [Array.getElem?_setIfInBounds_ne (by omega), Array.getElem?_setIfInBounds_ne (by omega), h2]

theorem Row.below {w w' : World} {base : Nat} {v : Value} {L : List Im} (h : Row w base v L) (hb : Below w.heap.size w w') : Row w' base v L := by
  rcases h with h | ⟨g, cap, cur, hv, hbg, hg, r1, r2, r3, hI⟩
  · exact .inl h
  · exact .inr ⟨g, cap, cur, hv, hbg, (hb.block g (lt_of_heap hg)).trans hg, r1, r2, r3, hI.below hb (lt_of_heap hg)⟩
theorem heap_below {w w' : World} (hb : Below w.heap.size w w') {g : Nat} {o : Obj} (h : w.heap[g]? = some o) : w'.heap[g]? = some o := (hb.block g (lt_of_heap h)).trans h

theorem Keeps.grown {S : Nat → Prop} {base : Nat} {w w' : World} {row : Option Nat} (hg : w.grownBy w' row) (hr : ∀ k, row = some k → base ≤ k ∧ S k) (hb : base ≤ w.heap.size) : Keeps S base w w' :=
  ⟨⟨hg.os, hg.tape, hg.output, hg.size, fun k hk => hg.block k (Nat.lt_of_lt_of_le hk hb) (fun e => by have := (hr k e.symm).1; omega)⟩,
   fun k o hk hn => (hg.block k (lt_of_heap hk) (fun e' => hn (hr k e'.symm).2)).trans hk⟩
theorem row_form {w : World} {base : Nat} {v : Value} {L : List Im} (h : Row w base v L) : ∃ a c, v = .slice a L.length c := by
  rcases h with ⟨rfl, rfl⟩ | ⟨g, cap, cur, rfl, _⟩
  · exact ⟨_, _, rfl⟩
  · exact ⟨_, _, rfl⟩
/-- The call of Insert in Put. -/
theorem ins_call (base i : Nat) (v : Value) (p : Int) (A : Option Addr) (n c : Nat) (L : List Im) (w : World) (hr : Row w base v L) (hO : OneAll L) (hb : base ≤ w.heap.size) (hn : L.length ≤ 64) (hi : i ≤ L.length) :
    Calls Try.prog 20 #[v, .int .i64 i, .slice (some ⟨w.heap.size, 0, none⟩) 1 1] (w.alloc (.cells #[.int .i64 p, .slice A n c] 54)).drew fun e w' =>
      ∃ a' c', e = .returned (.slice a' (L.length + 1) c') ∧ Row w' base (.slice a' (L.length + 1) c') (L.take i ++ (p, .slice A n c) :: L.drop i) ∧ w.grownBy w' v.ownBlock ∧ NewRow w v (.slice a' (L.length + 1) c') := by
  have hh : (w.alloc (.cells #[.int .i64 p, .slice A n c] 54)).drew.heap[w.heap.size]? = some (.cells #[.int .i64 p, .slice A n c] 54 (0, 0)) := heap_alloc_new w _
  have hb1 : Below w.heap.size w (w.alloc (.cells #[.int .i64 p, .slice A n c] 54)).drew := ((Below.refl _ _).alloc (Nat.le_refl _) _).drew
  refine (insert_any base w.heap.size i v (p, .slice A n c) L _ _ (hr.below hb1) hO (by simp; omega) ?_ hh ?_ rfl (by omega) hi).mono ?_
  · intro j u hu
    rw [add_lit, cell_of_row _ _ _ _ _ _ hh]
    simpa [vals] using hu
  · intro g hg
    obtain ⟨_, c', f', hc⟩ := row_block hr g hg
    have := lt_of_heap hc
    omega
  · rintro e w' ⟨v', he, hr', hg, hnr⟩
    obtain ⟨a', c', hv⟩ := row_form hr'
    have hl : (L.take i ++ (p, Value.slice A n c) :: L.drop i).length = L.length + 1 := by simp only [List.length_append, List.length_cons, List.length_take, List.length_drop]; omega
    rw [hl] at hv
    subst hv
    refine ⟨a', c', he, hr', ⟨hg.os, hg.tape, hg.output, ?_, fun k hk hk2 => ?_⟩, fun k hk => (hnr k hk).imp id fun h => by simp at h; omega⟩
    · have := hg.size
      simp at this
      omega
    · exact (hg.block k (by simp; omega) hk2).trans (hb1.block k hk)
/-- Behind the statement 's.l = slices.Insert(s.l, i, x)'. -/
def Cut10 (w1 : World) (S : Nat → Prop) (v : Value) (base s : Nat) (most : Int) (M : List Im) (wx : World) : Prop := ∃ v', wx.heap[s]? = some (.cells #[.int .i64 most, v'] 49 (0, 0)) ∧ Row wx base v' M ∧ Keeps S base w1 wx ∧ NewRow w1 v v'
/-- The blocks of a store: its struct, its row of items. -/
def Foot (s : Nat) (v : Value) : Nat → Prop := fun k => k = s ∨ v.ownBlock = some k
theorem foot5 {w : World} {base s : Nat} {v : Value} {L : List Im} {c : Array Value} {f : Nat × Nat} (hs : w.heap[s]? = some (.cells c 49 f)) (hr : Row w base v L) :
    ∀ (k : Nat) (c : Array Value) (f : Nat × Nat), w.heap[k]? = some (.cells c 5 f) → ¬ Foot s v k := by
  intro k c' f' hk hS
  rcases hS with rfl | hS
  · rw [hs] at hk
    injection hk with hk
    injection hk with _ hk
    exact absurd hk (by decide)
  · obtain ⟨_, c2, f2, h2⟩ := row_block hr k hS
    rw [h2] at hk
    injection hk with hk
    injection hk with _ hk
    exact absurd hk (by decide)
theorem foot_s5 {w : World} {s : Nat} {c : Array Value} {f : Nat × Nat} (hs : w.heap[s]? = some (.cells c 49 f)) : ∀ (k : Nat) (c : Array Value) (f : Nat × Nat), w.heap[k]? = some (.cells c 5 f) → ¬ (k = s) := by
  rintro k c' f' hk rfl
  rw [hs] at hk
  injection hk with hk
  injection hk with _ hk
  exact absurd hk (by decide)
theorem foot_lt {w : World} {base s : Nat} {v : Value} {L : List Im} {o : Obj} (hs : w.heap[s]? = some o) (hr : Row w base v L) : ∀ k, Foot s v k → k < w.heap.size := by
  intro k hS
  rcases hS with rfl | hS
  · exact lt_of_heap hs
  · obtain ⟨_, c2, f2, h2⟩ := row_block hr k hS
    exact lt_of_heap h2
theorem row_set49 {w : World} {base s : Nat} {v : Value} {L : List Im} {c : Array Value} {f : Nat × Nat} (h : Row w base v L) (hs : w.heap[s]? = some (.cells c 49 f)) (j : Nat) (u : Value) : Row (w.setCell ⟨s, j, none⟩ u) base v L := by
  rcases h with h | ⟨g, cap, cur, hv, hbg, hg, r1, r2, r3, hI⟩
  · exact .inl h
  · have hne : g ≠ s := by
      rintro rfl
      rw [hg] at hs
      injection hs with hs
      injection hs with _ hs
      exact absurd hs (by decide)
    have hst := Below.heap_setCell w ⟨s, j, none⟩ u g hne
    exact .inr ⟨g, cap, cur, hv, hbg, hst.trans hg, r1, r2, r3, hI.same hst⟩
theorem not_own {w : World} {base s : Nat} {v : Value} {L : List Im} {c : Array Value} {f : Nat × Nat} (h : Row w base v L) (hs : w.heap[s]? = some (.cells c 49 f)) : some s ≠ v.ownBlock := by
  intro e
  obtain ⟨_, c', f', hc⟩ := row_block h s e.symm
  rw [hs] at hc
  injection hc with hc
  injection hc with _ hc
  exact absurd hc (by decide)
theorem cut10_of {w1 w2 : World} {base s : Nat} {most : Int} {v v' : Value} {L M : List Im} (hs : w1.heap[s]? = some (.cells #[.int .i64 most, v] 49 (0, 0))) (hr : Row w1 base v L) (hbs : base ≤ s) (hb : base ≤ w1.heap.size)
    (hr2 : Row w2 base v' M) (hg : w1.grownBy w2 v.ownBlock) (hnr : NewRow w1 v v') : Cut10 w1 (Foot s v) v base s most M (w2.setCell ⟨s, 1, none⟩ v') := by
  have hs2 : w2.heap[s]? = some (.cells #[.int .i64 most, v] 49 (0, 0)) := (hg.block s (lt_of_heap hs) (not_own hr hs)).trans hs
  exact ⟨v', heap_set_same hs2 v', row_set49 hr2 hs2 1 v', (Keeps.grown hg (fun k hk => ⟨(row_block hr k hk).1, .inr hk⟩) hb).trans (Keeps.set (.inl rfl) hbs v'), hnr⟩

theorem fits_of {L : List Im} (h : ∀ y ∈ L, 0 ≤ y.1 ∧ y.1 ≤ 9223372036854775807) : Fits L := by
  intro t ht
  have : pos L t = (L[t]).1 := by simp [pos, List.getD_eq_getElem?_getD, ht]
  rw [this]
  exact h _ (List.getElem_mem _)
theorem Fits.mem {L : List Im} (h : Fits L) : ∀ y ∈ L, 0 ≤ y.1 ∧ y.1 ≤ 9223372036854775807 := by
  intro y hy
  obtain ⟨t, ht, rfl⟩ := List.getElem_of_mem hy
  have : pos L t = (L[t]).1 := by simp [pos, List.getD_eq_getElem?_getD, ht]
  rw [← this]
  exact h t ht

/-- What Put makes of the items, i the place of the first that is not below p. -/
def putIm (most : Int) (L : List Im) (p : Int) (x : Value) (i : Nat) : List Im :=
  if i < L.length ∧ pos L i = p then L.set i (p, x) else
    if most < (L.length : Int) + 1 then
      let M := L.take i ++ (p, x) :: L.drop i
      let k := if nearTo M p L.length < 0 then i else (nearTo M p L.length).toNat
      M.take k ++ M.drop (k + 1)
    else L.take i ++ (p, x) :: L.drop i

def PutPost (v : Value) (w : World) (base s : Nat) (most p : Int) (b : List UInt8) (L : List Im) (e : Ending) (w' : World) : Prop :=
  e = .returned (.int .i64 0) ∧ ∃ i x v', i ≤ L.length ∧ Low L p i i ∧ w'.heap[s]? = some (.cells #[.int .i64 most, v'] 49 (0, 0)) ∧ Row w' base v' (putIm most L p x i) ∧ BytesAt w' w.heap.size x b ∧ Keeps (Foot s v) base w w' ∧ NewRow w v v'

theorem PutPost.later {v : Value} {w W W' : World} {base s : Nat} {most p : Int} {b : List UInt8} {L : List Im} {e : Ending} (h : PutPost v w base s most p b L e W) (hb : Below W.heap.size W W') (hbw : base ≤ W.heap.size) : PutPost v w base s most p b L e W' := by
  obtain ⟨he, i, x, v', h1, h2, h3, h4, h5, h6, h7⟩ := h
  exact ⟨he, i, x, v', h1, h2, heap_below hb h3, h4.below hb, h5.below hb, h6.trans (Keeps.of_below hb hbw), h7⟩

set_option maxHeartbeats 4000000 in
theorem put_any (base s : Nat) (most p : Int) (v bv : Value) (b : List UInt8) (L : List Im) (w : World) (hs : w.heap[s]? = some (.cells #[.int .i64 most, v] 49 (0, 0))) (hm : 0 < most) (hp : 0 ≤ p) (hp2 : p ≤ 9223372036854775807)
    (hbv : BytesIn w bv b) (hbl : b.length ≤ 140737488351232) (hr : Row w base v L) (hso : Sorted L) (hF : Fits L) (hO : OneAll L) (hn : L.length ≤ 64) (hbs : base ≤ s) (hbw : base ≤ w.heap.size) :
    Calls Try.prog 9 #[.pointer (some ⟨s, 0, none⟩), .int .i64 p, bv] w (PutPost v w base s most p b L) := by
  have hsl := lt_of_heap hs
  have hs1 := fun o => (Below.heap_alloc w o s hsl).trans hs
  have HS := Lib.hid hs1
  have HB := Lib.hid hbv
  have HS0 := Lib.hid hs
  have HR := Lib.hid hr
  have HSO := Lib.hid hso
  have HF := Lib.hid hF
  have HO := Lib.hid hO
  clear hs hs1 hbv hr hso hF hO
  go_enter Try.func9, Try.ntmps9
  go_upto_region 5 with (go_at_call 17; refine (made_some s most v _ (HS.out _) hm).mono ?_; rintro e w' ⟨rfl, rfl⟩)
  go_cut [7] (fun s7 wx => Hid (Cut5 w p b s7 wx))
  case first =>
    go_region_with (go_at_call 18; refine (clone_slice bv b _ (by first | exact (HB.out.alloc _) | exact ((HB.out.alloc _).alloc _)) hbl).mono ?_; rintro e w1 ⟨A1, c1, rfl, ho, hb'⟩; obtain ⟨hq1, hq2, hq3⟩ := bcell hb'; have HO' := Lib.hid ho; have HB' := Lib.hid hb'; clear ho hb'; simp only [World.size_drew, World.size_alloc] at hq1 hq2 hq3; have hq4 : w.heap.size < w1.heap.size := (by first | exact hq3 | exact Nat.lt_of_succ_lt hq3); have hq5 := Nat.ne_of_lt hq4; have hq6 := Nat.ne_of_gt hq4; have hq7 := hq1 w.heap.size 0 (by first | exact Nat.lt_succ_self _ | exact Nat.lt_succ_of_lt (Nat.lt_succ_self _)); try simp only [World.cell?_drew] at hq7)
    all_goals (go_wp2_with fail; go_meet; first | exact cut5_alloc HB'.out HO'.out | exact cut5_set HB'.out HO'.out)
  case rest =>
    obtain ⟨gx, x, rfl, hgx, hx, hxb, hbx, hpb⟩ := hcut.out
    have hpx := cell_of_row _ _ 0 _ _ _ hpb
    obtain ⟨A, c, rfl⟩ := owns_form hxb.1
    have hsx := heap_below hbx HS0.out
    have hrx := HR.out.below hbx
    clear hcut
    have HX := Lib.hid hx
    have HXB := Lib.hid hxb
    have HBX := Lib.hid hbx
    have HSX := Lib.hid hsx
    have HRX := Lib.hid hrx
    have HGX := Lib.hid hgx
    have HPB := Lib.hid hpb
    have HR0 := Lib.hid HR.out
    clear hpb hx hxb hbx hsx hrx hgx HS HR HB
    go_wp2_with fail
    refine (find_any base s most p v L _ HSX.out HRX.out (by omega) HSO.out).mono ?_
    rintro e w1 ⟨i, hi, hl, rfl, hb1⟩
    have HL := Lib.hid hl
    have HB1 := Lib.hid hb1
    have hp1 := (hb1.cell (World.block_lt_of_cell? _ _ hpx)).trans hpx
    have HP1 := Lib.hid (heap_below hb1 HPB.out)
    clear hl hb1 hpx
    by_cases hth : i < L.length ∧ pos L i = p
    · obtain ⟨hth1, hth2⟩ := hth
      have hd : (decide (i < L.length) && decide (pos L i = p)) = true := by simp [hth1, hth2]
      have HT2 := Lib.hid hth2
      clear hth2
      have hs1 := heap_below HB1.out HSX.out
      have hx1 := heap_below HB1.out HX.out
      rcases HRX.out.below HB1.out with ⟨rfl, rfl⟩ | ⟨g, cap, cur, rfl, hbg, hg, hc, hcm, hcs, hI⟩
      · simp at hth1
      · have c1 := cell_of_row w1 s 1 _ _ _ hs1
        have c2 := cell_of_row w1 gx 0 _ _ _ hx1
        have c3 := cell_of_row w1 gx 1 _ _ _ hx1
        obtain ⟨c4, c5⟩ := hI i hth1
        have f4 : w1.frozen? ⟨g, i * 2, none⟩ = false := by simp [World.frozen?, hg]
        have f5 : w1.frozen? ⟨g, i * 2 + 1, none⟩ = false := by simp [World.frozen?, hg]
        have hth3 : (i : Int) < (L.length : Int) := by omega
        obtain ⟨cur', e1, e2, e3⟩ := items_set hI hg hth1 (by omega) (p, .slice A b.length c)
        have k1 : Keeps (Foot s (.slice (some ⟨g, 0, none⟩) L.length cap)) base w1 ((w1.setCell ⟨g, i * 2, none⟩ (.int .i64 p)).setCell ⟨g, i * 2 + 1, none⟩ (.slice A b.length c)) :=
          (Keeps.set (.inr rfl) hbg _).trans (Keeps.set (.inr rfl) hbg _)
        have fin : PutPost (.slice (some ⟨g, 0, none⟩) L.length cap) w base s most p b L (.returned (.int .i64 0)) ((w1.setCell ⟨g, i * 2, none⟩ (.int .i64 p)).setCell ⟨g, i * 2 + 1, none⟩ (.slice A b.length c)) := by
          have hne : s ≠ g := by
            rintro rfl
            rw [hs1] at hg
            injection hg with hg
            injection hg with _ hg
            exact absurd hg (by decide)
          refine ⟨rfl, i, .slice A b.length c, .slice (some ⟨g, 0, none⟩) L.length cap, hi, HL.out, ?_, ?_, (HXB.out.below HB1.out).keeps k1 (foot5 hs1 (HRX.out.below HB1.out)), (Keeps.of_below (HBX.out.trans (HB1.out.mono HBX.out.size)) hbw).trans k1, fun k hk => .inl hk⟩
          · rw [Below.heap_setCell _ ⟨g, i * 2 + 1, none⟩ _ s hne, Below.heap_setCell _ ⟨g, i * 2, none⟩ _ s hne]
            exact hs1
          · rw [putIm, if_pos ⟨hth1, HT2.out⟩]
            exact .inr ⟨g, cap, cur', by simp, hbg, e1, by simpa using hc, hcm, by omega, e3⟩
        have FIN := Lib.hid fin
        have hbw2 : base ≤ w1.heap.size := Nat.le_trans hbw (Nat.le_trans HBX.out.size HB1.out.size)
        clear fin k1 e1 e2 e3 hI hg hs1 hx1
        go_wp2_with fail
        go_region
        all_goals go_wp2
        all_goals go_ret
        all_goals exact FIN.out.later (Below.refl _ _).drew (by simpa using hbw2)
    · have hd : (decide (i < L.length) && decide (pos L i = p)) = false := by
        rcases Classical.not_and_iff_not_or_not.1 hth with h | h <;> simp [h]
      have HTH := Lib.hid hth
      clear hth
      have hs1 := heap_below HB1.out HSX.out
      have hx1 := heap_below HB1.out HX.out
      have hr1 := HRX.out.below HB1.out
      have hbw1 : base ≤ w1.heap.size := Nat.le_trans hbw (Nat.le_trans HBX.out.size HB1.out.size)
      have c1 := cell_of_row w1 s 1 _ _ _ hs1
      have c2 := cell_of_row w1 gx 0 _ _ _ hx1
      have c3 := cell_of_row w1 gx 1 _ _ _ hx1
      have hsl1 := lt_of_heap hs1
      have f1 : w1.frozen? ⟨s, 1, none⟩ = false := by simp [World.frozen?, hs1]
      have hins := ins_call base i v p A b.length c L w1 hr1 HO.out hbw1 hn hi
      have hno := not_own hr1 hs1
      have hcut10 := fun (w2 : World) (v' : Value) (M : List Im) (h1 : Row w2 base v' M) (h2 : w1.grownBy w2 v.ownBlock) (h3 : NewRow w1 v v') => cut10_of hs1 hr1 hbs hbw1 h1 h2 h3
      obtain ⟨av, cv, hv⟩ := row_form hr1
      have hf5 := foot5 hs1 hr1
      have HF5 := Lib.hid hf5
      have HFL := Lib.hid (foot_lt HS0.out HR0.out)
      have HINS := Lib.hid hins
      have HNO := Lib.hid hno
      have HC10 := Lib.hid hcut10
      clear hf5 hins hno hcut10 hs1 hx1 hr1 HSX HRX
      subst hv
      go_upto_region 10 with fail
      go_cut [] (fun wx => Hid (Cut10 w1 (Foot s (.slice av L.length cv)) (.slice av L.length cv) base s most (L.take i ++ (p, .slice A b.length c) :: L.drop i) wx))
      case first =>
        go_region_with (go_at_call 20; refine HINS.out.mono ?_; rintro e w2 ⟨a', c', rfl, hr', hg', hn'⟩; have g1 := hg'.cell c1 HNO.out; have g2 := (hg'.frozen_far ⟨s, 1, none⟩ hsl1 HNO.out).trans f1; have HR2 := Lib.hid hr'; have HG2 := Lib.hid hg'; have HN2 := Lib.hid hn'; clear hr' hg' hn')
        all_goals (go_wp2_with fail; go_meet; exact HC10.out w2 _ _ HR2.out HG2.out HN2.out)
      case rest =>
        obtain ⟨v2, hs2, hr2, hk2, hnr2⟩ := hcut.out
        have hnr0 : NewRow w (.slice av L.length cv) v2 := fun k hk => (hnr2 k hk).imp id fun h => Nat.le_trans (Nat.le_trans HBX.out.size HB1.out.size) h
        have HNR := Lib.hid hnr0
        have hsz2 := Nat.le_trans (Nat.le_trans HBX.out.size HB1.out.size) hk2.below.size
        have HSZ2 := Lib.hid hsz2
        clear hnr2 hnr0 hsz2
        clear hcut
        have hM0 : (L.take i ++ (p, Value.slice A b.length c) :: L.drop i).length = L.length + 1 := by simp only [List.length_append, List.length_cons, List.length_take, List.length_drop]; omega
        have hMO : OneAll (L.take i ++ (p, Value.slice A b.length c) :: L.drop i) := by
          intro y hy
          rcases List.mem_append.1 hy with hy | hy
          · exact HO.out y (List.mem_of_mem_take hy)
          · rcases List.mem_cons.1 hy with rfl | hy
            · rfl
            · exact HO.out y (List.mem_of_mem_drop hy)
        have hMF : Fits (L.take i ++ (p, Value.slice A b.length c) :: L.drop i) := fits_of fun y hy => by
          rcases List.mem_append.1 hy with hy | hy
          · exact HF.out.mem y (List.mem_of_mem_take hy)
          · rcases List.mem_cons.1 hy with rfl | hy
            · exact ⟨hp, hp2⟩
            · exact HF.out.mem y (List.mem_of_mem_drop hy)
        have hpt : putIm most L p (.slice A b.length c) i = if most < (L.length : Int) + 1 then (L.take i ++ (p, Value.slice A b.length c) :: L.drop i).take (if nearTo (L.take i ++ (p, Value.slice A b.length c) :: L.drop i) p L.length < 0 then i else (nearTo (L.take i ++ (p, Value.slice A b.length c) :: L.drop i) p L.length).toNat) ++ (L.take i ++ (p, Value.slice A b.length c) :: L.drop i).drop ((if nearTo (L.take i ++ (p, Value.slice A b.length c) :: L.drop i) p L.length < 0 then i else (nearTo (L.take i ++ (p, Value.slice A b.length c) :: L.drop i) p L.length).toNat) + 1) else L.take i ++ (p, Value.slice A b.length c) :: L.drop i := by
          rw [putIm, if_neg HTH.out]
        have hkw : Keeps (Foot s (.slice av L.length cv)) base w _ := (Keeps.of_below (HBX.out.trans (HB1.out.mono HBX.out.size)) hbw).trans hk2
        have hxb2 := (HXB.out.below HB1.out).keeps hk2 HF5.out
        have hpb2 := hk2.keep _ _ HP1.out (fun hS => Nat.lt_irrefl _ (HFL.out _ hS))
        have hbp2 := cell_of_row _ _ 0 _ _ _ hpb2
        have hbw2 := Nat.le_trans hbw (Nat.le_trans HBX.out.size (Nat.le_trans HB1.out.size hk2.below.size))
        generalize hMe : L.take i ++ (p, Value.slice A b.length c) :: L.drop i = M at hM0 hMO hMF hpt hr2
        obtain ⟨a2, c2, hv2⟩ := row_form hr2
        have d1 := cell_of_row _ _ 1 _ _ _ hs2
        have d0 := cell_of_row _ _ 0 _ _ _ hs2
        rw [hv2, hM0] at d1
        rw [hM0] at hv2
        have HPT := Lib.hid hpt
        have HS2 := Lib.hid hs2
        have HR2 := Lib.hid hr2
        have HMO := Lib.hid hMO
        have HMF := Lib.hid hMF
        have HM0 := Lib.hid hM0
        have HK := Lib.hid hkw
        have HXB2 := Lib.hid hxb2
        have HV2 := Lib.hid hv2
        clear hpt hs2 hr2 hMO hMF hM0 hkw hxb2 hk2 hMe hv2 HC10 HINS HNO
        by_cases hbig : most < (L.length : Int) + 1
        · go_wp2_with fail
          go_quiet (fail)
          go_wp2_with fail
          rcases HR2.out with ⟨_, hnil⟩ | ⟨g, cap, cur, hv3, hbg, hg, hc, hcm, hcs, hI⟩
          · have := HM0.out
            rw [hnil] at this
            simp at this
          · refine (nearest_any s g cap w.heap.size p M _ ?_ ?_ ?_ HMF.out (by rw [HM0.out]; omega) (by rw [HM0.out]; omega) ?_).mono ?_
            · exact hbp2
            · rw [← hv3]
              exact cell_of_row _ _ 1 _ _ _ HS2.out
            · exact hI
            · exact lt_of_heap hg
            · rintro e w3 ⟨rfl, hb3⟩
              have hlm : M.length - 1 = L.length := by rw [HM0.out]; omega
              rw [hlm]
              have hbd := nearTo_bd M p L.length
              have HPT2 := HPT.out
              rw [if_pos hbig] at HPT2
              generalize nearTo M p L.length = k at hbd HPT2
              have HBD := Lib.hid hbd
              have H3 := Lib.hid HPT2
              have hb4 := (below_drewN (Below.refl _ _) _).trans hb3
              have HSZ3 := Lib.hid (Nat.le_trans HSZ2.out hb4.size)
              have HS3 := Lib.hid (heap_below hb4 HS2.out)
              have HR3 := Lib.hid (HR2.out.below hb4)
              have HX3 := Lib.hid (HXB2.out.below hb4)
              have HK3 := Lib.hid (HK.out.trans (Keeps.of_below hb4 hbw2))
              have HW3 := Lib.hid (Nat.le_trans hbw2 hb4.size)
              clear hbd HPT2 hb3 hb4 hI hg hv3 hlm
              by_cases hk : k < 0
              · go_wp2_with fail
                refine (drop_any base s i most v2 M w3 HS3.out HR3.out HMO.out (by rw [HM0.out]; omega) (by rw [HM0.out]; omega) hbs HW3.out).mono ?_
                rintro e w4 ⟨rfl, v4, h1, h2, h3, h4⟩
                have fin : PutPost (.slice av L.length cv) w base s most p b L (.returned (.int .i64 0)) w4 := ⟨rfl, i, .slice A b.length c, v4, hi, HL.out, h1, by rw [H3.out, if_pos hk]; exact h2, HX3.out.keeps h3 (foot_s5 HS3.out), HK3.out.trans (h3.mono fun k hk => .inl hk), fun k hk => (h4 k hk).elim (fun h => HNR.out k h) (fun h => .inr (Nat.le_trans HSZ3.out h))⟩
                have FIN := Lib.hid fin
                clear fin h1 h2 h3 h4
                go_wp2_with fail
                go_ret
                exact FIN.out
              · obtain ⟨j, rfl⟩ : ∃ j : Nat, k = (j : Int) := ⟨k.toNat, by omega⟩
                have hj : j ≤ L.length := by have := HBD.out; omega
                go_wp2_with fail
                refine (drop_any base s j most v2 M w3 HS3.out HR3.out HMO.out (by rw [HM0.out]; omega) (by rw [HM0.out]; omega) hbs HW3.out).mono ?_
                rintro e w4 ⟨rfl, v4, h1, h2, h3, h4⟩
                have fin : PutPost (.slice av L.length cv) w base s most p b L (.returned (.int .i64 0)) w4 := ⟨rfl, i, .slice A b.length c, v4, hi, HL.out, h1, by rw [H3.out, if_neg (by omega)]; exact h2, HX3.out.keeps h3 (foot_s5 HS3.out), HK3.out.trans (h3.mono fun k hk => .inl hk), fun k hk => (h4 k hk).elim (fun h => HNR.out k h) (fun h => .inr (Nat.le_trans HSZ3.out h))⟩
                have FIN := Lib.hid fin
                clear fin h1 h2 h3 h4
                go_wp2_with fail
                go_ret
                exact FIN.out
        · go_wp2_with fail
          go_quiet (fail)
          go_wp2_with fail
          go_ret
          have HPT2 := HPT.out
          rw [if_neg (by omega)] at HPT2
          have fin : PutPost (.slice av L.length cv) w base s most p b L (.returned (.int .i64 0)) _ := ⟨rfl, i, .slice A b.length c, v2, hi, HL.out, HS2.out, by rw [HPT2]; exact HR2.out, HXB2.out, HK.out, HNR.out⟩
          exact fin.later (below_drewN (Below.refl _ _) _) hbw2

end Go.Proofs.Ytnmjcnlhcddokaa.St
