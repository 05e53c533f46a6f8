/- slices.Clone at []byte: a row of bytes in new memory. -/
import Derived.Test.YtnmjcnlhcddokaaSt1
namespace Go.Proofs.Ytnmjcnlhcddokaa.St
open Go.RowKit
set_option linter.unusedVariables false
set_option linter.unusedSimpArgs false

theorem info5 : (Try.prog.info? 5).map (fun i => (i.zero, i.size, i.bytes)) = some (some (.int .u8 0), 1, 1) := by kernel_rfl

def byteVals (bs : List UInt8) : List Value := bs.map fun b => .int .u8 b.toNat
theorem byteVals_one (bs : List UInt8) : ∀ u ∈ byteVals bs, u.oneCell' = true := by
  intro u hu
  obtain ⟨b, _, rfl⟩ := List.mem_map.1 hu
  rfl
theorem byteVals_length (bs : List UInt8) : (byteVals bs).length = bs.length := by simp [byteVals]

/-- A slice of bytes that is only read. -/
def BytesIn (w : World) (v : Value) (bs : List UInt8) : Prop :=
  (v = .slice none 0 0 ∧ bs = []) ∨ ∃ g c, v = .slice (some ⟨g, 0, none⟩) bs.length c ∧ g < w.heap.size ∧ ∀ j u, (byteVals bs)[j]? = some u → w.cell? ((⟨g, 0, none⟩ : Addr).add j) = some u
theorem BytesIn.below {w w' : World} {v : Value} {bs : List UInt8} (h : BytesIn w v bs) (hb : Below w.heap.size w w') : BytesIn w' v bs := by
  rcases h with h | ⟨g, c, hv, hg, hc⟩
  · exact .inl h
  · refine .inr ⟨g, c, hv, Nat.lt_of_lt_of_le hg hb.size, fun j u hu => (hb.cell ?_).trans (hc j u hu)⟩
    unfold Addr.add; split <;> exact hg
theorem BytesIn.alloc {w : World} {v : Value} {bs : List UInt8} (h : BytesIn w v bs) (o : Obj) : BytesIn (w.alloc o) v bs := h.below ((Below.refl _ _).alloc (Nat.le_refl _) _)
theorem bytesIn_owns {w : World} {base : Nat} {v : Value} {bs : List UInt8} (h : w.ownsRow base 5 1 v bs.length (byteVals bs)) : BytesIn w v bs := by
  rcases h.2 with ⟨rfl, h0⟩ | ⟨g, cap, cur, rfl, hb, hg, rest⟩
  · exact .inl ⟨rfl, List.eq_nil_of_length_eq_zero h0⟩
  · exact .inr ⟨g, cap, rfl, (Array.getElem?_eq_some_iff.1 hg).1, h.cells (g := g) rfl⟩

theorem clone_any (v : Value) (bs : List UInt8) (w : World) (hv : BytesIn w v bs) (hn : bs.length ≤ 140737488351232) :
    Calls Try.prog 18 #[v] w fun e w' => ∃ v', e = .returned v' ∧ w'.ownsRow w.heap.size 5 1 v' bs.length (byteVals bs) ∧ Below w.heap.size w w' := by
  obtain ⟨i0, hi, hz0, hz1, hz2⟩ := info_parts info5
  have heq := fun (w : World) (a : Option Addr) (n c n' c' : Nat) => Lib.run_eql_slice_nil (P := Try.prog) w 36 5 a n c n' c' Try.underlying36
  rcases id hv with ⟨rfl, rfl⟩ | ⟨g, cap, rfl, hg, hce⟩
  · skip
    go_enter Try.func18, Try.ntmps18
    go_wp2
    go_ret
    exact ⟨_, rfl, World.ownsRow_nil _ _ _ _, Below.refl _ _⟩
  · have hcells : ∀ o j u, (byteVals bs)[j]? = some u → (w.alloc o).cell? ((⟨g, 0, none⟩ : Addr).add j) = some u := fun o j u hu =>
      (((Below.refl w.heap.size w).alloc (Nat.le_refl _) o).cell (by unfold Addr.add; split <;> exact hg)).trans (hce j u hu)
    have hown := World.ownsRow_made (base := w.heap.size) (e := 5) (size := 1) w #[] 0 (Nat.le_refl _) (by unfold maxLen; omega) rfl
    have h1 := byteVals_one bs
    have hlen := byteVals_length bs
    have H := Lib.hid hcells
    have HO := Lib.hid hown
    have H1 := Lib.hid h1
    have HL := Lib.hid hlen
    clear hcells hown h1 hlen hv hg hce
    go_enter Try.func18, Try.ntmps18
    go_wp2_with (at_builtin; refine wpList_append_own _ rfl _ _ 36 rfl w.heap.size 5 i0 (.int .u8 0) 1 1 Try.underlying36 hi hz0 hz1 hz2 rfl (by decide) _ 0 [] rfl HO.out ⟨g, 0, none⟩ bs.length cap (byteVals bs) rfl (by rw [HL.out]; simp) (H.out _) H1.out (by unfold maxLen; omega) (by omega) (by simp) ?_; intro v' w1 hown' hgrow _; have HO' := Lib.hid hown'; have HG := Lib.hid hgrow; clear hown' hgrow)
    go_ret
    have ho := HO'.out
    simp only [Nat.zero_add, List.nil_append] at ho
    exact ⟨_, rfl, ho, ((Below.refl _ _).alloc (Nat.le_refl _) _).grown HG.out (by simp) (by intro k hk; injection hk with hk; exact Nat.le_of_eq hk)⟩

end Go.Proofs.Ytnmjcnlhcddokaa.St
