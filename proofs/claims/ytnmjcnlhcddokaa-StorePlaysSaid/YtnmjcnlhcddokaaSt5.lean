/- The gap between two neighbours; the nearest of those that may go. -/
import Derived.Test.YtnmjcnlhcddokaaSt4
namespace Go.Proofs.Ytnmjcnlhcddokaa.St
open Go.RowKit
set_option linter.unusedVariables false
set_option linter.unusedSimpArgs false

def Fits (L : List Im) : Prop := ∀ t, t < L.length → 0 ≤ pos L t ∧ pos L t ≤ 9223372036854775807

theorem gap_any (bx s g cap i : Nat) (L : List Im) (w : World) (hbx : w.cell? ⟨bx, 0, none⟩ = some (.pointer (some ⟨s, 0, none⟩)))
    (hs : w.cell? ⟨s, 1, none⟩ = some (.slice (some ⟨g, 0, none⟩) L.length cap)) (hI : ItemsAt w g L) (hF : Fits L) (hn : L.length ≤ 100000) (hi : i + 1 < L.length) :
    Calls Try.prog 29 #[.int .i64 ((i : Int) + 1), .pointer (some ⟨bx, 0, none⟩)] w fun e w' => e = .returned (.int .i64 (pos L (i + 1) - pos L i)) ∧ Below w.heap.size w w' := by
  have a1 := (hI (i + 1) hi).1
  have a0 := (hI i (by omega)).1
  have f1 := hF (i + 1) hi
  have f0 := hF i (by omega)
  clear hI hF
  go_enter Try.func29, Try.ntmps29
  go_wp2
  go_quiet (fail)
  go_wp2
  go_ret
  exact ⟨rfl, below_drewN (Below.refl _ _) _⟩


theorem cellsOf {w w' : World} (hb : Below w.heap.size w w') {p q : Addr} {u v : Value} (h1 : w.cell? p = some u) (h2 : w.cell? q = some v) : w'.cell? p = some u ∧ w'.cell? q = some v :=
  ⟨(hb.cell (World.block_lt_of_cell? w _ h1)).trans h1, (hb.cell (World.block_lt_of_cell? w _ h2)).trans h2⟩

def nearStep (L : List Im) (p : Int) (g : Int) (i : Nat) : Int :=
  if pos L i ≠ p ∧ (g < 0 ∨ pos L i - pos L (i - 1) < pos L g.toNat - pos L (g.toNat - 1)) then (i : Int) else g
/-- What 'nearest' has found behind so many rounds. -/
def nearTo (L : List Im) (p : Int) : Nat → Int
  | 0 => -1
  | k + 1 => nearStep L p (nearTo L p k) (k + 1)
theorem nearTo_bd (L : List Im) (p : Int) (k : Nat) : nearTo L p k = -1 ∨ 1 ≤ nearTo L p k ∧ nearTo L p k ≤ k := by
  induction k with
  | zero => exact .inl rfl
  | succ k ih =>
    unfold nearTo nearStep
    split
    · right; omega
    · rcases ih with h | h
      · exact .inl h
      · right; omega

set_option maxHeartbeats 1000000 in
theorem nearest_any (s g cap bp : Nat) (p : Int) (L : List Im) (w : World) (hbp : w.cell? ⟨bp, 0, none⟩ = some (.int .i64 p))
    (hs : w.cell? ⟨s, 1, none⟩ = some (.slice (some ⟨g, 0, none⟩) L.length cap)) (hI : ItemsAt w g L) (hF : Fits L) (hn : L.length ≤ 100000) (hn1 : 1 ≤ L.length) (hg : g < w.heap.size) :
    Calls Try.prog 21 #[.pointer (some ⟨s, 0, none⟩), .func (.func 22) #[] #[.pointer (some ⟨bp, 0, none⟩)]] w fun e w' => e = .returned (.int .i64 (nearTo L p (L.length - 1))) ∧ Below w.heap.size w w' := by
  have hbl := World.block_lt_of_cell? w _ hbp
  have hsl := World.block_lt_of_cell? w _ hs
  obtain ⟨W0, hW0⟩ : ∃ W0 : World, W0 = w.alloc (.cells #[.pointer (some ⟨s, 0, none⟩)] 23) := ⟨_, rfl⟩
  have hB0 : Below w.heap.size w W0 := by rw [hW0]; exact (Below.refl _ _).alloc (Nat.le_refl _) _
  have hsz : W0.heap.size = w.heap.size + 1 := by rw [hW0]; simp
  have cbx : W0.cell? ⟨w.heap.size, 0, none⟩ = some (.pointer (some ⟨s, 0, none⟩)) := by rw [hW0]; exact cell_of_row _ _ 0 _ _ _ (heap_alloc_new _ _)
  have cbp := (hB0.cell (p := ⟨bp, 0, none⟩) hbl).trans hbp
  have cs := (hB0.cell (p := ⟨s, 1, none⟩) hsl).trans hs
  have HI := Lib.hid (hI.below hB0 hg)
  have HF := Lib.hid hF
  have HB0 := Lib.hid hB0
  have HCbx := Lib.hid cbx
  have HCbp := Lib.hid cbp
  have HCs := Lib.hid cs
  clear hI hF hB0 cbx cbp cs hbp hs
  have hgW : g < W0.heap.size := by omega
  go_enter Try.func21, Try.ntmps21
  go_wp2_with fail
  rw [← hW0]
  have HW0 := Lib.hid hW0
  have HSZ := Lib.hid hsz
  have hbxl : w.heap.size < W0.heap.size := by omega
  have hbpl : bp < W0.heap.size := Nat.lt_of_lt_of_le hbl HB0.out.size
  have hsl' : s < W0.heap.size := Nat.lt_of_lt_of_le hsl HB0.out.size
  clear hW0 hsz hbl hsl
  go_loopg [5, 7] L.length (fun kx s5 s7 wr => ∃ k : Nat, s7 = .int .i64 ((k : Int) + 1) ∧ s5 = .int .i64 (nearTo L p k) ∧ k + 1 ≤ L.length ∧ L.length - 1 - k ≤ kx ∧ Hid (Below W0.heap.size W0 wr))
  case atStart => exact ⟨0, rfl, rfl, hn1, by omega, Below.refl _ _⟩
  case round =>
    obtain ⟨k, rfl, rfl, hk, hkx, HB⟩ := hrel
    have c1 := (HB.out.cell (p := ⟨w.heap.size, 0, none⟩) hbxl).trans HCbx.out
    have c2 := (HB.out.cell (p := ⟨bp, 0, none⟩) hbpl).trans HCbp.out
    have c3 := (HB.out.cell (p := ⟨s, 1, none⟩) hsl').trans HCs.out
    have HIr := Lib.hid (HI.out.below HB.out hgW)
    by_cases hlt : k + 1 < L.length
    · have hc := HIr.out (k + 1) hlt
      obtain ⟨d1, d2⟩ := hc
      have hbd := nearTo_bd L p k
      have hst : nearTo L p (k + 1) = nearStep L p (nearTo L p k) (k + 1) := rfl
      generalize nearTo L p k = x at *
      by_cases hpp : pos L (k + 1) = p
      · have HN : Hid (nearTo L p (k + 1) = x) := Lib.hid (by rw [hst, nearStep, if_neg (fun h => h.1 hpp)])
        have HP := Lib.hid hpp
        clear hst hbd hpp
        go_wp2_with (go_at_call 22; refine (put1_no _ p _ _ _ c2 HP.out).mono ?_; rintro e w' ⟨rfl, hb'⟩)
        go_roundg (L.length - 1 - (k + 1))
        case measure => omega
        case rel => exact ⟨k + 1, by go_num, by rw [HN.out], by omega, Nat.le_refl _, HB.out.trans (hb'.mono HB.out.size)⟩
      · have HP := Lib.hid hpp
        by_cases hx : x < 0
        · have HN : Hid (nearTo L p (k + 1) = (k : Int) + 1) := Lib.hid (by rw [hst, nearStep, if_pos ⟨hpp, .inl hx⟩]; rfl)
          clear hst hbd hpp
          go_wp2_with (go_at_call 22; refine (put1_yes _ p _ _ _ c2 HP.out).mono ?_; rintro e w' ⟨rfl, hb'⟩)
          go_roundg (L.length - 1 - (k + 1))
          case measure => omega
          case rel => exact ⟨k + 1, by go_num, by rw [HN.out], by omega, Nat.le_refl _, HB.out.trans (hb'.mono HB.out.size)⟩
        · obtain ⟨j, rfl⟩ : ∃ j : Nat, x = (j : Int) + 1 := ⟨(x - 1).toNat, by omega⟩
          have hj : j + 1 < L.length := by omega
          have hst' : nearStep L p ((j : Int) + 1) (k + 1) = if pos L (k + 1) - pos L k < pos L (j + 1) - pos L j then (k : Int) + 1 else (j : Int) + 1 := by
            unfold nearStep
            rw [show ((j : Int) + 1).toNat = j + 1 by omega]
            simp only [Nat.add_sub_cancel]
            by_cases hq : pos L (k + 1) - pos L k < pos L (j + 1) - pos L j
            · rw [if_pos ⟨hpp, .inr hq⟩, if_pos hq]; rfl
            · rw [if_neg (fun h => by rcases h.2 with h | h <;> omega), if_neg hq]
          by_cases hq : pos L (k + 1) - pos L k < pos L (j + 1) - pos L j
          · skip
            have HN : Hid (nearTo L p (k + 1) = (k : Int) + 1) := Lib.hid (by rw [hst, hst', if_pos hq])
            clear hst hst' hpp
            go_wp2_with (go_at_call 22; refine (put1_yes _ p _ _ _ c2 HP.out).mono ?_; rintro e w' ⟨rfl, hb'⟩)
            obtain ⟨e1, e3⟩ := cellsOf hb' (h1 := c1) (h2 := c3)
            have hgr : g < wr.heap.size := Nat.lt_of_lt_of_le hgW HB.out.size
            refine (gap_any _ s g cap k L _ e1 e3 (HIr.out.below hb' hgr) HF.out hn hlt).mono ?_
            rintro e w2 ⟨rfl, hb2⟩
            have hB2 := hb'.trans (hb2.mono hb'.size)
            obtain ⟨f1, f3⟩ := cellsOf hB2 (h1 := c1) (h2 := c3)
            go_wp2_with fail
            refine (gap_any _ s g cap j L _ f1 f3 (HIr.out.below hB2 hgr) HF.out hn hj).mono ?_
            rintro e w3 ⟨rfl, hb3⟩
            have hB3 := hB2.trans (hb3.mono hB2.size)
            have HB3 := Lib.hid (HB.out.trans (hB3.mono HB.out.size))
            clear hB3 hB2 hb2 hb3 hb' e1 e3 f1 f3
            go_wp2
            go_roundg (L.length - 1 - (k + 1))
            case measure => omega
            case rel => exact ⟨k + 1, by go_num, by rw [HN.out], by omega, Nat.le_refl _, HB3.out⟩
          · have hq' : ¬ pos L (k + 1) - pos L k < pos L (j + 1) - pos L j := hq
            have HN : Hid (nearTo L p (k + 1) = (j : Int) + 1) := Lib.hid (by rw [hst, hst', if_neg hq])
            clear hst hst' hpp
            go_wp2_with (go_at_call 22; refine (put1_yes _ p _ _ _ c2 HP.out).mono ?_; rintro e w' ⟨rfl, hb'⟩)
            obtain ⟨e1, e3⟩ := cellsOf hb' (h1 := c1) (h2 := c3)
            have hgr : g < wr.heap.size := Nat.lt_of_lt_of_le hgW HB.out.size
            refine (gap_any _ s g cap k L _ e1 e3 (HIr.out.below hb' hgr) HF.out hn hlt).mono ?_
            rintro e w2 ⟨rfl, hb2⟩
            have hB2 := hb'.trans (hb2.mono hb'.size)
            obtain ⟨f1, f3⟩ := cellsOf hB2 (h1 := c1) (h2 := c3)
            go_wp2_with fail
            refine (gap_any _ s g cap j L _ f1 f3 (HIr.out.below hB2 hgr) HF.out hn hj).mono ?_
            rintro e w3 ⟨rfl, hb3⟩
            have hB3 := hB2.trans (hb3.mono hB2.size)
            have HB3 := Lib.hid (HB.out.trans (hB3.mono HB.out.size))
            clear hB3 hB2 hb2 hb3 hb' e1 e3 f1 f3
            go_wp2
            go_roundg (L.length - 1 - (k + 1))
            case measure => omega
            case rel => exact ⟨k + 1, by go_num, by rw [HN.out], by omega, Nat.le_refl _, HB3.out⟩
    · obtain rfl : k = L.length - 1 := by omega
      go_wp2
      go_ret
      exact ⟨rfl, HB0.out.trans (HB.out.mono HB0.out.size)⟩

end Go.Proofs.Ytnmjcnlhcddokaa.St
