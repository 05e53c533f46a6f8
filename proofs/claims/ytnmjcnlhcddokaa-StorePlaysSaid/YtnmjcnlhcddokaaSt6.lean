/- The items of a row as the cells of its block; an append of nothing. -/
import Derived.Test.YtnmjcnlhcddokaaSt5
import Derived.Deep.RegionLawGrows
import Derived.Deep.AppendLies
import Derived.BigRegion
namespace Go.Proofs.Ytnmjcnlhcddokaa.St
open Go.RowKit
set_option linter.unusedVariables false
set_option linter.unusedSimpArgs false

theorem info54 : (Try.prog.info? 54).map (fun i => (i.zero, i.size, i.bytes)) = some (some (.agg #[.int .i64 0, .slice none 0 0]), 2, 32) := by kernel_rfl

def vals : List Im → List Value
  | [] => []
  | x :: r => .int .i64 x.1 :: x.2 :: vals r
theorem vals_length : ∀ L, (vals L).length = L.length * 2
  | [] => rfl
  | _ :: r => by simp only [vals, List.length_cons, vals_length r]; omega
theorem vals_append : ∀ L M, vals (L ++ M) = vals L ++ vals M
  | [], _ => rfl
  | x :: r, M => by simp only [vals, List.cons_append, vals_append r M]
theorem vals_one {L : List Im} (h : ∀ x ∈ L, x.2.oneCell' = true) : ∀ u ∈ vals L, u.oneCell' = true := by
  induction L with
  | nil => intro u hu; cases hu
  | cons x r ih =>
    intro u hu
    simp only [vals, List.mem_cons] at hu
    rcases hu with rfl | rfl | hu
    · rfl
    · exact h x (List.mem_cons_self)
    · exact ih (fun y hy => h y (List.mem_cons_of_mem _ hy)) u hu
theorem vals_even : ∀ (L : List Im) (t : Nat), t < L.length → (vals L)[t * 2]? = some (.int .i64 (pos L t))
  | [], t, h => by simp at h
  | x :: r, 0, _ => by simp [vals, pos]
  | x :: r, t + 1, h => by
    have := vals_even r t (by simpa using h)
    simpa [vals, pos, show (t + 1) * 2 = t * 2 + 1 + 1 by omega] using this
theorem vals_odd : ∀ (L : List Im) (t : Nat), t < L.length → (vals L)[t * 2 + 1]? = some (vat L t)
  | [], t, h => by simp at h
  | x :: r, 0, _ => by simp [vals, vat]
  | x :: r, t + 1, h => by
    have := vals_odd r t (by simpa using h)
    simpa [vals, vat, show (t + 1) * 2 + 1 = t * 2 + 1 + 1 + 1 by omega] using this
theorem add_lit (g j : Nat) : (⟨g, 0, none⟩ : Addr).add j = ⟨g, j, none⟩ := by unfold Addr.add; split <;> simp_all
theorem itemsAt_iff {w : World} {g : Nat} {L : List Im} : ItemsAt w g L ↔ ∀ j u, (vals L)[j]? = some u → w.cell? ⟨g, j, none⟩ = some u := by
  constructor
  · intro h j u hu
    have hj : j < L.length * 2 := by rw [← vals_length]; exact (List.getElem?_eq_some_iff.1 hu).1
    obtain ⟨t, rfl | rfl⟩ : ∃ t, j = t * 2 ∨ j = t * 2 + 1 := ⟨j / 2, by omega⟩
    · rw [vals_even L t (by omega)] at hu
      rw [(h t (by omega)).1, ← hu]
    · rw [vals_odd L t (by omega)] at hu
      rw [(h t (by omega)).2, ← hu]
  · intro h t ht
    exact ⟨h _ _ (vals_even L t ht), h _ _ (vals_odd L t ht)⟩

theorem pos_take {L : List Im} {t n : Nat} (h : t < n) : pos (L.take n) t = pos L t := by simp [pos, List.getD_eq_getElem?_getD, List.getElem?_take, h]
theorem vat_take {L : List Im} {t n : Nat} (h : t < n) : vat (L.take n) t = vat L t := by simp [vat, List.getD_eq_getElem?_getD, List.getElem?_take, h]
theorem pos_drop (L : List Im) (t n : Nat) : pos (L.drop n) t = pos L (n + t) := by simp [pos, List.getD_eq_getElem?_getD, List.getElem?_drop]
theorem vat_drop (L : List Im) (t n : Nat) : vat (L.drop n) t = vat L (n + t) := by simp [vat, List.getD_eq_getElem?_getD, List.getElem?_drop]
theorem ItemsAt.take {w : World} {g : Nat} {L : List Im} (h : ItemsAt w g L) (n : Nat) : ItemsAt w g (L.take n) := by
  intro t ht
  rw [List.length_take] at ht
  rw [pos_take (by omega), vat_take (by omega)]
  exact h t (by omega)
theorem ItemsAt.dropped {w : World} {g : Nat} {L : List Im} (h : ItemsAt w g L) (n : Nat) : ∀ j u, (vals (L.drop n))[j]? = some u → w.cell? ((⟨g, n * 2, none⟩ : Addr).add j) = some u := by
  intro j u hu
  have ha : (⟨g, n * 2, none⟩ : Addr).add j = ⟨g, n * 2 + j, none⟩ := by unfold Addr.add; split <;> simp_all
  rw [ha]
  refine itemsAt_iff.1 h _ _ ?_
  have hj : j < (L.drop n).length * 2 := by rw [← vals_length]; exact (List.getElem?_eq_some_iff.1 hu).1
  rw [List.length_drop] at hj
  rw [← List.take_append_drop n L, vals_append, List.getElem?_append_right (by rw [vals_length, List.length_take]; omega), vals_length, List.length_take, ← hu]
  congr 1
  omega
/-- A row of the call's own, by its items. -/
theorem row_of_owns {w : World} {base : Nat} {v : Value} {L : List Im} (h : w.ownsRow base 54 2 v L.length (vals L)) : Row w base v L := by
  rcases h.2 with ⟨rfl, h0⟩ | ⟨g, cap, cur, rfl, hb, hg, hn, hc, hs, ht⟩
  · exact .inl ⟨rfl, List.eq_nil_of_length_eq_zero h0⟩
  · refine .inr ⟨g, cap, cur, rfl, hb, hg, hn, by unfold maxLen at hc; omega, by omega, itemsAt_iff.2 (fun j u hu => ?_)⟩
    have := h.cells (g := g) rfl j u hu
    rwa [add_lit] at this

theorem run_append_zero {P : Program} (t ty e : TypeId) (i : TypeInfo) (ht : P.underlying t = some (.slice e)) (hi : P.info? e = some i) (a x : Option Addr) (n cap c : Nat) (h : n ≤ cap) (w : World) :
    (Builtin.append_ #[t, t] ty #[.slice a n cap, .slice x 0 c]).run P w = .ok (.slice a n cap) w := by
  have hf : (Builtin.firstCells i.size 0 (.slice x 0 c)).run P w = .ok #[] w := by
    cases x <;> simp [Builtin.firstCells, loadCells, loadCellsFrom]
  cases a <;> simp [Builtin.append_, run_underlying ht, sizeOf, typeInfo, hi, Builtin.lenOf, h, hf, storeCells]

theorem step_append_zero {P : Program} {ops : Array Oper} {o : Oper} {a : Act} {w : World} {K : Act → World → Prop} {Q : Exit → Act → World → Prop} {E : Prop}
    (hg : o.guard = none) (s x : Operand) (t : TypeId) (hop : o.op = Op.call { callee := Callee.builtin Builtin.append, args := #[s, x], argTypes := #[t, t] })
    (e : TypeId) (i : TypeInfo) (h1 : P.underlying t = some (.slice e)) (h2 : P.info? e = some i)
    (b y : Option Addr) (n cap c : Nat) (hs : a.eval s = .slice b n cap) (hx : a.eval x = .slice y 0 c) (hroom : n ≤ cap)
    (hK : K (a.put o.dst (.slice b n cap)) w) :
    if Region.wanted o (yielded ops a.tmps) = true then Oper.wp P o a w K Q else E := by
  have hw : Region.wanted o (yielded ops a.tmps) = true := by simp [Region.wanted, hg]
  rw [if_pos hw]
  have hrun := run_append_zero (P := P) t o.type e i h1 h2 b y n cap c hroom w
  unfold Oper.wp
  simp [execOp, hop, resolve, invoke, builtin, hs, hx, hrun, Result.andThen]
  exact hK

end Go.Proofs.Ytnmjcnlhcddokaa.St
