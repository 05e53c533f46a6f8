/- done: a store behind puts. -/
import Derived.Test.YtnmjcnlhcddokaaSt20
namespace Go.Proofs.Ytnmjcnlhcddokaa.St
open Go.RowKit
set_option linter.unusedVariables false
set_option linter.unusedSimpArgs false

/-- Acts that came in: the cells of a row. -/
abbrev Ac := Int × ByteArray
def ActsIn (w : World) (A : Option Addr) (l : List Ac) : Prop :=
  ∀ t (ht : t < l.length), ∃ b o, A = some ⟨b, o, none⟩ ∧ b < w.heap.size ∧ w.cell? ⟨b, o + t * 2, none⟩ = some (.int .i64 (l[t]).1) ∧ w.cell? ⟨b, o + t * 2 + 1, none⟩ = some (.string (l[t]).2)
def ActsOk (l : List Ac) : Prop := ∀ x ∈ l, -9223372036854775808 ≤ x.1 ∧ x.1 ≤ 9223372036854775807 ∧ x.2.size ≤ 140737488351232
theorem ActsIn.below {w w' : World} {A : Option Addr} {l : List Ac} {B : Nat} (h : ActsIn w A l) (hb : Below B w w') (hB : w.heap.size ≤ B) : ActsIn w' A l := by
  intro t ht
  obtain ⟨b, o, hA, hlt, h1, h2⟩ := h t ht
  exact ⟨b, o, hA, Nat.lt_of_lt_of_le hlt hb.size, (hb.cell (p := ⟨b, o + t * 2, none⟩) (Nat.lt_of_lt_of_le hlt hB)).trans h1, (hb.cell (p := ⟨b, o + t * 2 + 1, none⟩) (Nat.lt_of_lt_of_le hlt hB)).trans h2⟩
/-- The store behind the first k puts. -/
def doneS (most : Int) (l : List Ac) : Nat → List It
  | 0 => []
  | k + 1 => match l[k]? with
    | some x => putS most (doneS most l k) x.1 x.2.data.toList
    | none => doneS most l k
theorem doneS_succ {most : Int} {l : List Ac} {k : Nat} (h : k < l.length) : doneS most l (k + 1) = putS most (doneS most l k) (l[k]).1 (l[k]).2.data.toList := by
  simp [doneS, h]
def clampM (n : Int) : Int := if n < 1 then 1 else if 64 < n then 64 else n

theorem bytesIn_conv (w : World) (s : ByteArray) : BytesIn (Lib.bytesWorld w 5 s) (.slice (some ⟨w.heap.size, 0, none⟩) s.data.toList.length (grownCap w s.size 0 5)) s.data.toList := by
  refine .inr ⟨w.heap.size, _, rfl, by rw [Lib.bytesWorld_size]; omega, fun j u hu => ?_⟩
  have hj : j < s.data.toList.length := by
    have := (List.getElem?_eq_some_iff.1 hu).1
    rwa [byteVals_length] at this
  rw [add_lit, Lib.bytesWorld_cell w 5 s j (by simpa using hj), ← hu]
  simp only [byteVals, List.getElem?_map, List.getElem?_eq_getElem hj, Option.map_some, List.getD_eq_getElem?_getD, Option.getD_some]
theorem below_conv (w : World) (s : ByteArray) : Below w.heap.size w (Lib.bytesWorld w 5 s) :=
  ⟨rfl, rfl, rfl, by rw [Lib.bytesWorld_size]; omega, fun k hk => Lib.bytesWorld_at_old w 5 s k hk⟩

set_option maxHeartbeats 2000000 in
theorem done_any (n : Int) (A : Option Addr) (c : Nat) (l : List Ac) (w : World) (hA : ActsIn w A l) (hok : ActsOk l) (hl : l.length ≤ 300) :
    Calls Try.prog 15 #[.int .i64 n, .slice A l.length c] w fun e w' => ∃ s, e = .returned (.pointer (some ⟨s, 0, none⟩)) ∧ StoreAt w' w.heap.size s (clampM n) (doneS (clampM n) l l.length) ∧ Below w.heap.size w w' := by
  have HA := Lib.hid hA
  have HOK := Lib.hid hok
  clear hA hok
  go_enter Try.func15, Try.ntmps15
  go_wp2_with fail
  refine (new_at n _).mono ?_
  rintro e w1 ⟨rfl, h1, b1⟩
  have H1 := Lib.hid (show StoreAt w1 w.heap.size w.heap.size (clampM n) (doneS (clampM n) l 0) from h1)
  have B1 := Lib.hid b1
  clear h1 b1
  obtain ⟨s, hs⟩ : ∃ s, s = w.heap.size := ⟨_, rfl⟩
  have HS := Lib.hid hs
  rw [← hs]
  clear hs
  go_wp2_with fail
  go_loopg [6] l.length (fun kx s6 wr => ∃ k : Nat, s6 = .int .i64 k ∧ k ≤ l.length ∧ l.length - k ≤ kx ∧ Hid (StoreAt wr w.heap.size s (clampM n) (doneS (clampM n) l k)) ∧ Hid (Below w.heap.size w wr))
  case atStart => exact ⟨0, rfl, Nat.zero_le _, by omega, by rw [HS.out]; exact H1.out, B1.out⟩
  case round =>
    clear H1 B1
    obtain ⟨k, rfl, hk, hkx, HSt, HB⟩ := hrel
    by_cases hlt : k < l.length
    · have hds := doneS_succ (most := clampM n) hlt
      obtain ⟨ok1, ok2, ok3⟩ := HOK.out _ (List.getElem_mem hlt)
      obtain ⟨b, o, rfl, hb0, d1, d2⟩ := HA.out k hlt
      have c1 := (HB.out.cell (p := ⟨b, o + k * 2, none⟩) hb0).trans d1
      have c2 := (HB.out.cell (p := ⟨b, o + k * 2 + 1, none⟩) hb0).trans d2
      clear d1 d2
      generalize l[k] = y at c1 c2 hds ok1 ok2 ok3
      obtain ⟨p, str⟩ := y
      simp only at c1 c2 hds ok1 ok2 ok3
      have HDS := Lib.hid hds
      have hcv := fun W => Lib.run_convert_string_bytes (P := Try.prog) W 9 36 5 str Try.underlying9 Try.underlying36 Try.underlying5
      have hlt' : (k : Int) < (l.length : Int) := by omega
      have hbw := HB.out.size
      have hbl' : b < wr.drew.heap.size := Nat.lt_of_lt_of_le hb0 hbw
      have q1 : (Lib.bytesWorld wr.drew 5 str).cell? ⟨b, o + k * 2, none⟩ = some (.int .i64 p) := ((below_conv wr.drew str).cell (p := ⟨b, o + k * 2, none⟩) hbl').trans c1
      have q2 : (Lib.bytesWorld wr.drew 5 str).cell? ⟨b, o + k * 2 + 1, none⟩ = some (.string str) := ((below_conv wr.drew str).cell (p := ⟨b, o + k * 2 + 1, none⟩) hbl').trans c2
      have hput := put_at w.heap.size s (clampM n) p (.slice (some ⟨wr.heap.size, 0, none⟩) str.size (grownCap wr.drew str.size 0 5)) str.data.toList (doneS (clampM n) l k) (Lib.bytesWorld wr.drew 5 str) (HSt.out.below (show Below wr.heap.size wr _ from ((Below.refl _ _).drew).trans (below_conv wr.drew str))) (bytesIn_conv wr.drew str) (by simpa using ok3) (Nat.le_trans hbw (below_conv wr.drew str).size) ok2
      have HPUT := Lib.hid hput
      clear hds hput
      go_wp2_with fail
      go_region_with (go_at_call 9; refine HPUT.out.mono ?_; rintro e w2 ⟨he, hst, hkp, _⟩; obtain ⟨rv, rfl⟩ : ∃ rv : Int, e = .returned (.int .i64 rv) := ⟨_, he⟩; have HST2 := Lib.hid hst; have HKP := Lib.hid hkp.below; clear he hst hkp)
      all_goals go_wp2
      all_goals go_roundg (l.length - (k + 1))
      all_goals first | omega | skip
      all_goals exact ⟨k + 1, by go_num, by omega, Nat.le_refl _, by rw [HDS.out]; exact HST2.out, (HB.out.drew.trans (below_conv wr.drew str |>.mono hbw)).trans HKP.out⟩
    · obtain rfl : k = l.length := by omega
      go_wp2
      go_ret
      exact ⟨s, rfl, HSt.out, HB.out⟩

end Go.Proofs.Ytnmjcnlhcddokaa.St
