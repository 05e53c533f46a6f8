/- StorePlays: the bundles that its rounds keep. -/
import Derived.Test.YtnmjcnlhcddokaaPl3
namespace Go.Proofs.Ytnmjcnlhcddokaa.St
open Go.RowKit
set_option linter.unusedVariables false
set_option linter.unusedSimpArgs false

structure Both (w : World) (B s g : Nat) (most : Int) (l : List It) (A : Option Addr) (c : Nat) : Prop where
  st : StoreAt w B s most l
  hg : B ≤ g
  cell : w.heap[g]? = some (.cells #[.int .i64 most, .slice A l.length c] 27 (0, 0))
  rf : RefAt w B (.slice A l.length c) l
theorem Both.below {w w' : World} {B s g : Nat} {most : Int} {l : List It} {A : Option Addr} {c : Nat} (h : Both w B s g most l A c) (hb : Below w.heap.size w w') : Both w' B s g most l A c :=
  ⟨h.st.below hb, h.hg, heap_below hb h.cell, h.rf.below hb⟩

/-- Behind the document's Put: both pointers' blocks stand apart from what either store turns. -/
structure Mid (w : World) (B s g h : Nat) (most : Int) (l l1 : List It) (A : Option Addr) (c : Nat) : Prop where
  st : StoreAt w B s most l
  hg : B ≤ g
  cell : ∃ v v', w.heap[g]? = some (.cells #[v, v'] 27 (0, 0))
  hh : B ≤ h
  ne : h ≠ g
  cell1 : w.heap[h]? = some (.cells #[.int .i64 most, .slice A l1.length c] 27 (0, 0))
  rf : RefAt w B (.slice A l1.length c) l1
theorem Mid.below {w w' : World} {B s g h : Nat} {most : Int} {l l1 : List It} {A : Option Addr} {c : Nat} (m : Mid w B s g h most l l1 A c) (hb : Below w.heap.size w w') : Mid w' B s g h most l l1 A c := by
  obtain ⟨h1, h2, ⟨v, v', h3⟩, h4, hn, h5, h6⟩ := m
  exact ⟨h1.below hb, h2, ⟨v, v', heap_below hb h3⟩, h4, hn, heap_below hb h5, h6.below hb⟩
/-- The document's Put turns its own row alone. -/
theorem Both.ref {w w' : World} {B s g : Nat} {most : Int} {l l1 : List It} {A A1 : Option Addr} {c c1 : Nat} (h : Both w B s g most l A c) (hk : Keeps (fun k => some k = (Value.slice A l.length c).ownBlock) B w w')
    (hr : RefAt w' B (.slice A1 l1.length c1) l1) : StoreAt w' B s most l ∧ w'.heap[g]? = some (.cells #[.int .i64 most, .slice A l.length c] 27 (0, 0)) := by
  have hb := h.rf.block
  have key : ∀ (k : Nat) (c' : Array Value) (e : TypeId) (f : Nat × Nat), w.heap[k]? = some (.cells c' e f) → e ≠ 51 → ¬ some k = (Value.slice A l.length c).ownBlock := by
    intro k c' e f hk he hS
    obtain ⟨_, _, c2, h2⟩ := hb k hS
    rw [hk] at h2
    injection h2 with h2
    injection h2 with _ h2
    exact he h2
  refine ⟨(h.st.keeps hk (fun k hF hS => ?_) (fun k c' f hc => key k c' 5 f hc (by decide))).1, hk.keep _ _ h.cell (key _ _ _ _ h.cell (by decide))⟩
  obtain ⟨_, c', e, f, hc, he⟩ := h.st.foot_types k hF
  exact key k c' e f hc (by rcases he with rfl | rfl <;> decide) hS
/-- The program's Put turns its own blocks alone. -/
theorem Mid.put {w w' : World} {B s g h : Nat} {most : Int} {l l1 l2 : List It} {A : Option Addr} {c : Nat} (m : Mid w B s g h most l l1 A c) (hk : Keeps (FootOf w s) B w w') (hs : StoreAt w' B s most l2) : Mid w' B s g h most l2 l1 A c := by
  obtain ⟨h1, h2, ⟨v, v', h3⟩, h4, hn, h5, h6⟩ := m
  have key : ∀ (k : Nat) (c' : Array Value) (e : TypeId) (f : Nat × Nat), w.heap[k]? = some (.cells c' e f) → e ≠ 49 → e ≠ 54 → ¬ FootOf w s k := by
    intro k c' e f hk he1 he2 hS
    obtain ⟨_, c2, e2, f2, h2, he⟩ := h1.foot_types k hS
    rw [hk] at h2
    injection h2 with h2
    injection h2 with _ h2
    rcases he with rfl | rfl
    · exact he1 h2
    · exact he2 h2
  exact ⟨hs, h2, ⟨v, v', hk.keep _ _ h3 (key _ _ _ _ h3 (by decide) (by decide))⟩, h4, hn, hk.keep _ _ h5 (key _ _ _ _ h5 (by decide) (by decide)), h6.keeps hk (fun k c' f hc => key k c' 51 f hc (by decide) (by decide))⟩
/-- m = x. -/
theorem Mid.set {w : World} {B s g h : Nat} {most : Int} {l : List It} {A : Option Addr} {c : Nat} (m : Mid w B s g h most l l A c) :
    Both ((w.setCell ⟨g, 0, none⟩ (.int .i64 most)).setCell ⟨g, 1, none⟩ (.slice A l.length c)) B s g most l A c ∧ Below B w ((w.setCell ⟨g, 0, none⟩ (.int .i64 most)).setCell ⟨g, 1, none⟩ (.slice A l.length c)) := by
  obtain ⟨h1, h2, ⟨v, v', h3⟩, h4, hn, h5, h6⟩ := m
  have hk : Keeps (fun k => k = g) B w ((w.setCell ⟨g, 0, none⟩ (.int .i64 most)).setCell ⟨g, 1, none⟩ (.slice A l.length c)) := (Keeps.set (S := fun k => k = g) rfl h2 _).trans (Keeps.set (S := fun k => k = g) rfl h2 _)
  have key : ∀ (k : Nat) (c' : Array Value) (e : TypeId) (f : Nat × Nat), w.heap[k]? = some (.cells c' e f) → e ≠ 27 → ¬ k = g := by
    rintro k c' e f hk2 he rfl
    rw [h3] at hk2
    injection hk2 with hk2
    injection hk2 with _ hk2
    exact he hk2.symm
  refine ⟨⟨(h1.keeps hk (fun k hF hS => ?_) (fun k c' f hc => key k c' 5 f hc (by decide))).1, h2, ?_, h6.keeps hk (fun k c' f hc => key k c' 51 f hc (by decide))⟩, hk.below⟩
  · obtain ⟨_, c', e, f, hc, he⟩ := h1.foot_types k hF
    exact key k c' e f hc (by rcases he with rfl | rfl <;> decide) hS
  · rw [heap_set_same (heap_set_same h3 _) _]
    simp

theorem mid_alloc {w : World} {B s g : Nat} {most : Int} {l l1 : List It} {A : Option Addr} {c : Nat} {v v' : Value} (hs : StoreAt w B s most l) (hg : B ≤ g) (cg : w.heap[g]? = some (.cells #[v, v'] 27 (0, 0))) (hw : B ≤ w.heap.size) (rf : RefAt w B (.slice A l1.length c) l1) :
    Mid (w.alloc (.cells #[.int .i64 most, .slice A l1.length c] 27)) B s g w.heap.size most l l1 A c := by
  have hb : Below w.heap.size w (w.alloc (.cells #[.int .i64 most, .slice A l1.length c] 27)) := (Below.refl _ _).alloc (Nat.le_refl _) _
  exact ⟨hs.below hb, hg, ⟨v, v', heap_below hb cg⟩, hw, Nat.ne_of_gt (lt_of_heap cg), heap_alloc_new _ _, rf.below hb⟩
theorem mid_set {w : World} {B s g h : Nat} {most : Int} {l l1 : List It} {A : Option Addr} {c : Nat} {v v' x x' : Value} (hs : StoreAt w B s most l) (hg : B ≤ g) (cg : w.heap[g]? = some (.cells #[v, v'] 27 (0, 0))) (hh : B ≤ h) (hne : h ≠ g) (ch : w.heap[h]? = some (.cells #[x, x'] 27 (0, 0))) (rf : RefAt w B (.slice A l1.length c) l1) :
    Mid ((w.setCell ⟨h, 0, none⟩ (.int .i64 most)).setCell ⟨h, 1, none⟩ (.slice A l1.length c)) B s g h most l l1 A c ∧ Below B w ((w.setCell ⟨h, 0, none⟩ (.int .i64 most)).setCell ⟨h, 1, none⟩ (.slice A l1.length c)) := by
  have hk : Keeps (fun k => k = h) B w ((w.setCell ⟨h, 0, none⟩ (.int .i64 most)).setCell ⟨h, 1, none⟩ (.slice A l1.length c)) := (Keeps.set (S := fun k => k = h) rfl hh _).trans (Keeps.set (S := fun k => k = h) rfl hh _)
  have key : ∀ (k : Nat) (c' : Array Value) (e : TypeId) (f : Nat × Nat), w.heap[k]? = some (.cells c' e f) → e ≠ 27 → ¬ k = h := by
    rintro k c' e f hk2 he rfl
    rw [ch] at hk2
    injection hk2 with hk2
    injection hk2 with _ hk2
    exact he hk2.symm
  refine ⟨⟨(hs.keeps hk (fun k hF hS => ?_) (fun k c' f hc => key k c' 5 f hc (by decide))).1, hg, ⟨v, v', hk.keep _ _ cg (fun e => hne e.symm)⟩, hh, hne, ?_, rf.keeps hk (fun k c' f hc => key k c' 51 f hc (by decide))⟩, hk.below⟩
  · obtain ⟨_, c', e, f, hc, he⟩ := hs.foot_types k hF
    exact key k c' e f hc (by rcases he with rfl | rfl <;> decide) hS
  · rw [heap_set_same (heap_set_same ch _) _]
    simp

end Go.Proofs.Ytnmjcnlhcddokaa.St
