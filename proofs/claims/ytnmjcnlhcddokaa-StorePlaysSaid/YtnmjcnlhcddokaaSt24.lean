/- The arguments opened: acts, bytes. -/
import Derived.Test.YtnmjcnlhcddokaaSt23
import Derived.ProofKit
import Derived.OpenShut
import Derived.ShutString
import Derived.ChangeOld
import Derived.SizedLaws
import Derived.Deep.Slices
import Derived.Deep.Fields
import Derived.ChangeSame
namespace Go.Proofs.Ytnmjcnlhcddokaa.St
open Go.RowKit Go.ChangeShapes Go.WideShapes Go.Deep
set_option linter.unusedVariables false
set_option linter.unusedSimpArgs false

section
variable {H : Type} {enc : TypeId × Value → H} {P : Program} {w : World} {base : Nat} {spare : Nat → Bool} {held : Bool}
/-- An element of two one-cell fields: its two cells, each with its own reading. -/
theorem two_fields {e : TypeId} {f0 f1 : Field} {n : Nat} {a : Addr} {cs : List Value} {y : DataW H × List MemPlace} (he : P.underlying e = some (.struct #[f0, f1])) (hone : oneCellFields P #[f0, f1] = true) (hC : P.cellsOf e = 2)
    (hc : w.cells? base a 2 = some cs) (h : DataW.trod enc P w base spare held n e cs = some y) :
    ∃ (u v : Value) (z0 z1 : DataW H × List MemPlace) (m : Nat), w.cell? (a.add 0) = some u ∧ w.cell? (a.add 1) = some v ∧ y.1 = .agg [z0.1, z1.1] ∧
      DataW.trod enc P w base spare held m f0.type [u] = some z0 ∧ DataW.trod enc P w base spare held m f1.type [v] = some z1 := by
  obtain ⟨xs, m, _, hy, hlen, hxl, hf⟩ := DataW.trod_struct he h
  obtain ⟨_, _, hat⟩ := World.cells?_some hc
  obtain ⟨o0, k0⟩ := hone_of hone 0 f0 rfl
  obtain ⟨o1, k1⟩ := hone_of hone 1 f1 rfl
  match cs, hlen.trans hC, xs, hxl with
  | [u, v], _, [z0, z1], _ =>
    have g0 := hf 0 f0 rfl
    have g1 := hf 1 f1 rfl
    rw [o0, k0] at g0
    rw [o1, k1] at g1
    exact ⟨u, v, z0, z1, m, hat 0 (by decide), hat 1 (by decide), by rw [hy]; rfl, g0, g1⟩

theorem mem_weightsAll {e : TypeId} {d : DataW H} {n : Nat} (hn : n ∈ d.weights P e) : ∀ {l : List (DataW H)}, d ∈ l → n ∈ DataW.weightsAll P e l
  | x :: r, hd => by
    simp only [DataW.weightsAll, List.mem_append]
    rcases List.mem_cons.1 hd with rfl | hd
    · exact .inl hn
    · exact .inr (mem_weightsAll hn hd)
end

theorem exists_list {α : Type} (Q : Nat → α → Prop) : ∀ n, (∀ i, i < n → ∃ x, Q i x) → ∃ l : List α, l.length = n ∧ ∀ i (h : i < l.length), Q i l[i]
  | 0, _ => ⟨[], rfl, fun i h => by simp at h⟩
  | n + 1, h => by
    obtain ⟨l, hl, hq⟩ := exists_list Q n fun i hi => h i (by omega)
    obtain ⟨x, hx⟩ := h n (by omega)
    refine ⟨l ++ [x], by simp [hl], fun i hi => ?_⟩
    by_cases hin : i < l.length
    · rw [List.getElem_append_left hin]
      exact hq i hin
    · obtain rfl : i = l.length := by simp at hi; omega
      simp
      rw [hl]
      exact hx

theorem open_acts {H : Type} {enc : TypeId × Value → H} {W : World} {spare : Nat → Bool} {held : Bool} {a : Option Addr} {len cap : Nat} {d : DataW H} {p : List MemPlace} {ts : List TypeId} {ds : List (DataW H)} {j : Nat}
    (hsz : (DataW.weightsEach Try.prog ts ds).all (· ≤ reachBytes) = true) (ht : ts[j]? = some 22) (hd : ds[j]? = some d)
    (h : DataW.Trod enc Try.prog W 0 spare held 22 (.slice a len cap) d p) : ∃ l : List Ac, l.length = len ∧ ActsIn W a l ∧ ActsOk l ∧ len * 24 ≤ 140737488351232 := by
  obtain ⟨fuel, hf⟩ := h
  rcases open_slice (P := Try.prog) Try.underlying22 hf with ⟨hcs, _⟩ | ⟨x, l, c, m, nf, D, Pl, hcs, hb, hl, hm, hmm, hx, hel⟩
  · simp [Value.cells] at hcs
    obtain ⟨rfl, rfl, rfl⟩ := hcs
    exact ⟨[], rfl, (fun t ht => by simp at ht), (fun x hx => by cases hx), by omega⟩
  · simp [Value.cells] at hcs
    obtain ⟨rfl, rfl, rfl⟩ := hcs
    have hlm : len ≤ m := by rw [hmm]; split <;> omega
    obtain ⟨hx1, _⟩ := Prod.mk.inj hx
    subst hx1
    have hw := sized_slice hsz ht hd Try.underlying22
    have hbytes : Try.prog.bytesOf 33 = 24 := by kernel_rfl
    rw [hbytes] at hw
    have hreach : reachBytes = 140737488351232 := by kernel_rfl
    rw [hreach] at hw
    have key : ∀ i, i < len → ∃ z : Ac, W.cell? (x.add (i * 2)) = some (.int .i64 z.1) ∧ W.cell? (x.add (i * 2 + 1)) = some (.string z.2) ∧ -9223372036854775808 ≤ z.1 ∧ z.1 ≤ 9223372036854775807 ∧ z.2.size ≤ 140737488351232 := by
      intro i hi
      obtain ⟨cs', hcs', htr⟩ := hel i (by omega)
      have h33 : Try.prog.cellsOf 33 = 2 := by kernel_rfl
      rw [h33] at hcs'
      obtain ⟨v0, v1, y0, y1, n, c0, c1, hD, t0, t1⟩ := two_fields (P := Try.prog) Try.underlying33 (by kernel_rfl) h33 hcs' htr
      rw [Go.Deep.add_add] at c0 c1
      simp only [Nat.add_zero] at c0
      obtain ⟨z0, e0, _, w0⟩ := DataW.trod_int Try.underlying3 t0
      obtain ⟨z1, e1, e1', _⟩ := DataW.trod_string Try.underlying9 t1
      injection e0 with e0
      injection e1 with e1
      subst e0 e1
      refine ⟨(z0, z1), c0, c1, (bounds_i64 w0).1, (bounds_i64 w0).2, ?_⟩
      have hmem : z1.data.toList.length ∈ DataW.weightsEach Try.prog ts ds := by
        refine DataW.weights_mem_each ht hd _ ?_
        simp only [DataW.weights, Try.underlying22, List.mem_cons, List.mem_append]
        refine .inr (.inl (mem_weightsAll (d := D i) ?_ (List.mem_map_of_mem (List.mem_range.2 hi))))
        have hD' : D i = .agg [y0.1, y1.1] := hD
        rw [hD']
        simp only [DataW.weights, Try.underlying33]
        refine DataW.weights_mem_each (j := 1) (t := 9) (d := .lit (.string z1.data.toList)) rfl ?_ _ (by simp [DataW.weights])
        rw [e1']
        rfl
      have := List.all_eq_true.1 hsz _ hmem
      rw [hreach] at this
      simpa using this
    obtain ⟨l, hll, hlq⟩ := exists_list _ len key
    refine ⟨l, hll, fun t htl => ?_, fun z hz => ?_, ?_⟩
    · have hsp : x.spot = none := by
        obtain ⟨h0, _⟩ := hlq 0 (by omega)
        have : x.add (0 * 2) = x := by simp [Addr.add]
        rw [this] at h0
        unfold World.cell? at h0
        split at h0
        · split at h0
          · cases h0
          · rename_i hs
            simpa using hs
        · cases h0
      obtain ⟨h0, h1, _⟩ := hlq t htl
      obtain ⟨b, o, sp⟩ := x
      simp only at hsp
      subst hsp
      rw [Addr.add_lit] at h0 h1
      exact ⟨b, o, rfl, World.block_lt_of_cell? W _ h0, h0, h1⟩
    · obtain ⟨t, htl, rfl⟩ := List.getElem_of_mem hz
      obtain ⟨_, _, h2, h3, h4⟩ := hlq t htl
      exact ⟨h2, h3, h4⟩
    · simp only [List.length_map, List.length_range] at hw
      have : len * 24 ≤ (len + (m - len)) * 24 := Nat.mul_le_mul_right _ (by omega)
      omega

theorem open_bytes {H : Type} {enc : TypeId × Value → H} {W : World} {spare : Nat → Bool} {held : Bool} {a : Option Addr} {len cap : Nat} {d : DataW H} {p : List MemPlace} {ts : List TypeId} {ds : List (DataW H)} {j : Nat}
    (hsz : (DataW.weightsEach Try.prog ts ds).all (· ≤ reachBytes) = true) (ht : ts[j]? = some 36) (hd : ds[j]? = some d)
    (h : DataW.Trod enc Try.prog W 0 spare held 36 (.slice a len cap) d p) : ∃ bs : List UInt8, bs.length = len ∧ BytesR W a bs ∧ len ≤ 140737488351232 := by
  obtain ⟨fuel, hf⟩ := h
  rcases open_ints Try.underlying36 Try.underlying5 (by kernel_rfl) hf with ⟨hcs, _⟩ | ⟨x, l, c, zs, hcs, hb, hl, hm, hz, hx, hcell, hwz⟩
  · simp [Value.cells] at hcs
    obtain ⟨rfl, rfl, rfl⟩ := hcs
    exact ⟨[], rfl, .inl rfl, by omega⟩
  · simp [Value.cells] at hcs
    obtain ⟨rfl, rfl, rfl⟩ := hcs
    obtain ⟨hx1, _⟩ := Prod.mk.inj hx
    subst hx1
    have hw := sized_slice hsz ht hd Try.underlying36
    have hbytes : Try.prog.bytesOf 5 = 1 := by kernel_rfl
    rw [hbytes] at hw
    have hreach : reachBytes = 140737488351232 := by kernel_rfl
    rw [hreach] at hw
    have hlz : len ≤ zs.length := by rw [hz]; split <;> omega
    have hbsl : ((zs.take len).map fun n => UInt8.ofNat n.toNat).length = len := by simp; omega
    refine ⟨(zs.take len).map fun n => UInt8.ofNat n.toNat, hbsl, ?_, ?_⟩
    · by_cases h0 : len = 0
      · left
        subst h0
        simp
      · right
        have hc0 := hcell 0 (by omega)
        have hsp : x.spot = none := by
          have : x.add 0 = x := by simp [Addr.add]
          rw [this] at hc0
          unfold World.cell? at hc0
          split at hc0
          · split at hc0
            · cases hc0
            · rename_i hs
              simpa using hs
          · cases hc0
        obtain ⟨b, o, sp⟩ := x
        simp only at hsp
        subst hsp
        refine ⟨b, o, rfl, ?_, fun i u hu => ?_⟩
        · have := World.block_lt_of_cell? W _ hc0
          simpa [Addr.add] using this
        · have hi : i < len := by
            have := (List.getElem?_eq_some_iff.1 hu).1
            rw [byteVals_length, hbsl] at this
            exact this
          have hci := hcell i (by omega)
          rw [Addr.add_lit] at hci
          rw [hci, ← hu]
          have hzi : zs.getD i 0 = zs[i] := by simp [List.getD_eq_getElem?_getD, (show i < zs.length by omega)]
          have hbd := bounds_u8 (hwz _ (List.getElem_mem (show i < zs.length by omega)))
          rw [hzi]
          simp only [byteVals, List.map_map, List.getElem?_map, List.getElem?_take_of_lt hi, List.getElem?_eq_getElem (show i < zs.length by omega), Option.map_some, Function.comp_apply]
          congr 2
          have : (UInt8.ofNat (zs[i]).toNat).toNat = (zs[i]).toNat := by
            rw [UInt8.toNat_ofNat']
            omega
          rw [this]
          omega
    · simp only [lits, List.length_map, List.length_take, List.length_drop] at hw
      omega

end Go.Proofs.Ytnmjcnlhcddokaa.St
