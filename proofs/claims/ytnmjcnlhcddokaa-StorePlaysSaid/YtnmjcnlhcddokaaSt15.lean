/- The store's items as plain data: what Put makes of them. -/
import Derived.Test.YtnmjcnlhcddokaaSt14
namespace Go.Proofs.Ytnmjcnlhcddokaa.St
open Go.RowKit
set_option linter.unusedVariables false
set_option linter.unusedSimpArgs false

/-- Item by item: the same position, and the value holds the bytes. -/
def It2 (P : Value → List UInt8 → Prop) : List Im → List It → Prop
  | [], [] => True
  | x :: L, y :: l => x.1 = y.1 ∧ P x.2 y.2 ∧ It2 P L l
  | _, _ => False
namespace It2
variable {P P' : Value → List UInt8 → Prop}
theorem length : ∀ {L : List Im} {l : List It}, It2 P L l → L.length = l.length
  | [], [], _ => rfl
  | x :: L, y :: l, h => by simp [length h.2.2]
  | [], _ :: _, h => h.elim
  | _ :: _, [], h => h.elim
theorem mono (hp : ∀ v b, P v b → P' v b) : ∀ {L : List Im} {l : List It}, It2 P L l → It2 P' L l
  | [], [], _ => trivial
  | x :: L, y :: l, h => ⟨h.1, hp _ _ h.2.1, mono hp h.2.2⟩
  | [], _ :: _, h => h.elim
  | _ :: _, [], h => h.elim
theorem append : ∀ {L M : List Im} {l m : List It}, It2 P L l → It2 P M m → It2 P (L ++ M) (l ++ m)
  | [], _, [], _, _, h => h
  | x :: L, _, y :: l, _, h, k => ⟨h.1, h.2.1, append h.2.2 k⟩
  | [], _, _ :: _, _, h, _ => h.elim
  | _ :: _, _, [], _, h, _ => h.elim
theorem take : ∀ (n : Nat) {L : List Im} {l : List It}, It2 P L l → It2 P (L.take n) (l.take n)
  | 0, _, _, _ => by simp [It2]
  | n + 1, [], [], _ => trivial
  | n + 1, x :: L, y :: l, h => ⟨h.1, h.2.1, take n h.2.2⟩
  | _ + 1, [], _ :: _, h => h.elim
  | _ + 1, _ :: _, [], h => h.elim
theorem drop : ∀ (n : Nat) {L : List Im} {l : List It}, It2 P L l → It2 P (L.drop n) (l.drop n)
  | 0, _, _, h => h
  | n + 1, [], [], _ => trivial
  | n + 1, x :: L, y :: l, h => drop n h.2.2
  | _ + 1, [], _ :: _, h => h.elim
  | _ + 1, _ :: _, [], h => h.elim
theorem set : ∀ (n : Nat) {L : List Im} {l : List It} {x : Im} {y : It}, It2 P L l → x.1 = y.1 → P x.2 y.2 → It2 P (L.set n x) (l.set n y)
  | _, [], [], _, _, _, _, _ => trivial
  | 0, _ :: L, _ :: l, _, _, h, h1, h2 => ⟨h1, h2, h.2.2⟩
  | n + 1, _ :: L, _ :: l, _, _, h, h1, h2 => ⟨h.1, h.2.1, set n h.2.2 h1 h2⟩
  | _, [], _ :: _, _, _, h, _, _ => h.elim
  | _, _ :: _, [], _, _, h, _, _ => h.elim
theorem fst : ∀ {L : List Im} {l : List It}, It2 P L l → L.map (·.1) = l.map (·.1)
  | [], [], _ => rfl
  | x :: L, y :: l, h => by simp [h.1, fst h.2.2]
  | [], _ :: _, h => h.elim
  | _ :: _, [], h => h.elim
theorem get : ∀ {L : List Im} {l : List It} (t : Nat), It2 P L l → t < L.length → P (vat L t) (l.getD t (0, [])).2
  | [], [], t, _, ht => by simp at ht
  | x :: L, y :: l, 0, h, _ => h.2.1
  | x :: L, y :: l, t + 1, h, ht => get t h.2.2 (by simpa using ht)
  | [], _ :: _, _, h, _ => h.elim
  | _ :: _, [], _, h, _ => h.elim
end It2

/-! The positions alone. -/
def ps {α : Type} (L : List (Int × α)) : List Int := L.map (·.1)
def pp (q : List Int) (t : Nat) : Int := q.getD t 0
theorem pos_pp (L : List Im) (t : Nat) : pos L t = pp (ps L) t := by
  simp only [pos, pp, ps, List.getD_eq_getElem?_getD, List.getElem?_map]
  cases L[t]? <;> rfl
def nearQ (q : List Int) (p : Int) : Nat → Int
  | 0 => -1
  | k + 1 => if pp q (k + 1) ≠ p ∧ (nearQ q p k < 0 ∨ pp q (k + 1) - pp q k < pp q (nearQ q p k).toNat - pp q ((nearQ q p k).toNat - 1)) then ((k + 1 : Nat) : Int) else nearQ q p k
theorem nearTo_nearQ (L : List Im) (p : Int) : ∀ k, nearTo L p k = nearQ (ps L) p k
  | 0 => rfl
  | k + 1 => by
    unfold nearTo nearQ nearStep
    rw [nearTo_nearQ L p k]
    simp only [pos_pp, Nat.add_sub_cancel]
/-- What Put makes of items of whatever kind, i the place of the first that is not below p. -/
def putG {α : Type} (most : Int) (L : List (Int × α)) (p : Int) (x : α) (i : Nat) : List (Int × α) :=
  if i < L.length ∧ pp (ps L) i = p then L.set i (p, x) else
    if most < (L.length : Int) + 1 then
      (L.take i ++ (p, x) :: L.drop i).take (if nearQ (ps (L.take i ++ (p, x) :: L.drop i)) p L.length < 0 then i else (nearQ (ps (L.take i ++ (p, x) :: L.drop i)) p L.length).toNat) ++
        (L.take i ++ (p, x) :: L.drop i).drop ((if nearQ (ps (L.take i ++ (p, x) :: L.drop i)) p L.length < 0 then i else (nearQ (ps (L.take i ++ (p, x) :: L.drop i)) p L.length).toNat) + 1)
    else L.take i ++ (p, x) :: L.drop i
theorem putIm_putG (most : Int) (L : List Im) (p : Int) (x : Value) (i : Nat) : putIm most L p x i = putG most L p x i := by
  unfold putIm putG
  simp only [pos_pp, nearTo_nearQ]
theorem ps_insert {P : Value → List UInt8 → Prop} {L : List Im} {l : List It} (h : It2 P L l) (p : Int) (x : Value) (b : List UInt8) (i : Nat) :
    ps (L.take i ++ (p, x) :: L.drop i) = ps (l.take i ++ (p, b) :: l.drop i) := by
  have e := h.fst
  simp only [ps, List.map_append, List.map_cons, List.map_take, List.map_drop, e]
theorem It2.put {P : Value → List UInt8 → Prop} {L : List Im} {l : List It} (h : It2 P L l) (most p : Int) (x : Value) (b : List UInt8) (hx : P x b) (i : Nat) : It2 P (putG most L p x i) (putG most l p b i) := by
  have hl := h.length
  have he : ps L = ps l := h.fst
  unfold putG
  rw [hl, he, ps_insert h p x b i]
  have hins : It2 P (L.take i ++ (p, x) :: L.drop i) (l.take i ++ (p, b) :: l.drop i) := (h.take i).append ⟨rfl, hx, h.drop i⟩
  split
  · exact h.set i rfl hx
  · split
    · exact (hins.take _).append (hins.drop _)
    · exact hins

end Go.Proofs.Ytnmjcnlhcddokaa.St
