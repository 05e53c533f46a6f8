/- The document's examples: lives answers true. -/
import Derived.Test.YtnmjcnlhcddokaaSt19
namespace Go.Proofs.Ytnmjcnlhcddokaa.St
open Go.RowKit
set_option linter.unusedVariables false
set_option linter.unusedSimpArgs false

def stL : Nat → List It
  | 0 => []
  | 1 => [(0, [0])]
  | 2 => [(0, [0]), (10, [10])]
  | 3 => [(0, [0]), (10, [10]), (20, [20])]
  | _ => [(0, [0]), (20, [20]), (30, [30])]
theorem st1 : putS 3 (stL 0) 0 [0] = stL 1 := by decide
theorem st2 : putS 3 (stL 1) 10 [10] = stL 2 := by decide
theorem st3 : putS 3 (stL 2) 20 [20] = stL 3 := by decide
theorem st4 : putS 3 (stL 3) 30 [30] = stL 4 := by decide
theorem st5 : putS 3 (stL 4) 25 [] = [(0, [0]), (20, [20]), (25, [])] := by decide
theorem sf5 : floorS [(0, [0]), (20, [20]), (25, [])] 24 = some (20, [20]) := by decide
theorem sx1 : putS 1 [] 5 [] = [(5, [])] := by decide
theorem sx2 : putS 1 [(5, [])] 7 [] = [(5, [])] := by decide
theorem sx3 : putS 1 [(5, [])] 3 [] = [(3, [])] := by decide

theorem bytesIn_nil (w : World) : BytesIn w (.slice none 0 0) [] := .inl ⟨rfl, rfl⟩

/-- One round of the first loop. -/
theorem lives_put (B s x k : Nat) (p : Int) (b : UInt8) (w : World) (h : Pair w B s x 3 1 (stL k) []) (hbw : B ≤ w.heap.size) (hp0 : 0 ≤ p) (hp : p ≤ 9223372036854775807) (n : Int) (hn : n = b.toNat) (hst : putS 3 (stL k) p [b] = stL (k + 1)) :
    Calls Try.prog 9 #[.pointer (some ⟨s, 0, none⟩), .int .i64 p, .slice (some ⟨w.heap.size, 0, none⟩) 1 1] (w.alloc (.cells #[.int .u8 n] 5)) fun e w' => e = .returned (.int .i64 0) ∧ Pair w' B s x 3 1 (stL (k + 1)) [] ∧ TKeeps B w w' := by
  have hb : Below w.heap.size w (w.alloc (.cells #[.int .u8 n] 5)) := (Below.refl _ _).alloc (Nat.le_refl _) _
  refine (put_one B s x 3 1 p _ [b] (stL k) [] _ (h.below hb) (bytesIn_new w b n hn) (by simp) (by simp; omega) hp).mono ?_
  rintro e w' ⟨rfl, h1, h2⟩
  rw [hst] at h1
  exact ⟨by rw [if_neg (by omega)], h1, (TKeeps.of_below hb hbw).trans h2⟩

set_option maxHeartbeats 4000000 in
theorem lives_any (w : World) : Calls Try.prog 7 #[] w fun e w' => e = .returned (.bool true) ∧ Below w.heap.size w w' := by
  go_enter Try.func7, Try.ntmps7
  go_wp2_with fail
  refine (new_at 3 _).mono ?_
  rintro e w1 ⟨rfl, h1, b1⟩
  go_wp2_with fail
  refine (new_at 1 _).mono ?_
  rintro e w2 ⟨rfl, h2, b2⟩
  have hp : Pair w2 w.heap.size w.heap.size w1.heap.size 3 1 (stL 0) [] := pair_new h1 h2 b2 b1.size
  have hk := (TKeeps.of_below b1 (Nat.le_refl _)).trans (TKeeps.of_below b2 b1.size)
  have HP := Lib.hid hp
  have HK := Lib.hid hk
  clear h1 h2 b1 b2 hp hk
  generalize w1.heap.size = x at HP
  go_wp2_with fail
  have b3 : Below w2.heap.size w2 (w2.alloc (.cells #[.int .i64 0, .int .i64 10, .int .i64 20, .int .i64 30] 3)) := (Below.refl _ _).alloc (Nat.le_refl _) _
  have HP3 := Lib.hid (HP.out.below b3)
  have HK3 := Lib.hid (HK.out.trans (TKeeps.of_below b3 HK.out.below.size))
  have HG3 := Lib.hid (heap_alloc_new w2 (.cells #[.int .i64 0, .int .i64 10, .int .i64 20, .int .i64 30] 3))
  clear b3
  go_loopg [4, 21] 4 (fun kx s4 s21 wr => ∃ k : Nat, s21 = .int .i64 k ∧ k ≤ 4 ∧ 4 - k ≤ kx ∧ Hid (Pair wr w.heap.size w.heap.size x 3 1 (stL k) []) ∧ Hid (TKeeps w.heap.size w wr) ∧ Hid (wr.heap[w2.heap.size]? = some (.cells #[.int .i64 0, .int .i64 10, .int .i64 20, .int .i64 30] 3 (0, 0))))
  case atStart => exact ⟨0, rfl, by omega, by omega, HP3.out, HK3.out, HG3.out⟩
  case round =>
    clear HP3 HK3 HG3 HP HK
    obtain ⟨k, rfl, hk, hkx, HPr, HKr, HG⟩ := hrel
    by_cases hlt : k < 4
    · have hcs : k = 0 ∨ k = 1 ∨ k = 2 ∨ k = 3 := by omega
      rcases hcs with rfl | rfl | rfl | rfl
      · have c1 : wr.cell? ⟨w2.heap.size, 0, none⟩ = some (.int .i64 0) := cell_of_row _ _ 0 _ _ _ HG.out
        go_wp2_with fail
        refine (lives_put w.heap.size w.heap.size x 0 0 0 wr HPr.out HKr.out.below.size (by decide) (by decide) _ (by decide) st1).mono ?_
        rintro e w' ⟨rfl, hp', hk'⟩
        have HP' := Lib.hid hp'
        have HK' := Lib.hid (HKr.out.trans hk')
        have HG' := Lib.hid (hk'.keep _ _ _ _ HG.out (by decide) (by decide))
        clear hp' hk' c1
        go_wp2
        go_roundg (4 - 1)
        case measure => omega
        case rel => exact ⟨1, rfl, by omega, Nat.le_refl _, HP'.out, HK'.out, HG'.out⟩
      · have c1 : wr.cell? ⟨w2.heap.size, 1, none⟩ = some (.int .i64 10) := cell_of_row _ _ 1 _ _ _ HG.out
        go_wp2_with fail
        refine (lives_put w.heap.size w.heap.size x 1 10 10 wr HPr.out HKr.out.below.size (by decide) (by decide) _ (by decide) st2).mono ?_
        rintro e w' ⟨rfl, hp', hk'⟩
        have HP' := Lib.hid hp'
        have HK' := Lib.hid (HKr.out.trans hk')
        have HG' := Lib.hid (hk'.keep _ _ _ _ HG.out (by decide) (by decide))
        clear hp' hk' c1
        go_wp2
        go_roundg (4 - 2)
        case measure => omega
        case rel => exact ⟨2, rfl, by omega, Nat.le_refl _, HP'.out, HK'.out, HG'.out⟩
      · have c1 : wr.cell? ⟨w2.heap.size, 2, none⟩ = some (.int .i64 20) := cell_of_row _ _ 2 _ _ _ HG.out
        go_wp2_with fail
        refine (lives_put w.heap.size w.heap.size x 2 20 20 wr HPr.out HKr.out.below.size (by decide) (by decide) _ (by decide) st3).mono ?_
        rintro e w' ⟨rfl, hp', hk'⟩
        have HP' := Lib.hid hp'
        have HK' := Lib.hid (HKr.out.trans hk')
        have HG' := Lib.hid (hk'.keep _ _ _ _ HG.out (by decide) (by decide))
        clear hp' hk' c1
        go_wp2
        go_roundg (4 - 3)
        case measure => omega
        case rel => exact ⟨3, rfl, by omega, Nat.le_refl _, HP'.out, HK'.out, HG'.out⟩
      · have c1 : wr.cell? ⟨w2.heap.size, 3, none⟩ = some (.int .i64 30) := cell_of_row _ _ 3 _ _ _ HG.out
        go_wp2_with fail
        refine (lives_put w.heap.size w.heap.size x 3 30 30 wr HPr.out HKr.out.below.size (by decide) (by decide) _ (by decide) st4).mono ?_
        rintro e w' ⟨rfl, hp', hk'⟩
        have HP' := Lib.hid hp'
        have HK' := Lib.hid (HKr.out.trans hk')
        have HG' := Lib.hid (hk'.keep _ _ _ _ HG.out (by decide) (by decide))
        clear hp' hk' c1
        go_wp2
        go_roundg (4 - 4)
        case measure => omega
        case rel => exact ⟨4, rfl, by omega, Nat.le_refl _, HP'.out, HK'.out, HG'.out⟩
    · obtain rfl : k = 4 := by omega
      go_wp2_with fail
      refine (all_at _ _ _ _ _ HPr.out.one).mono ?_
      rintro e wa ⟨va, rfl, ha, hba⟩
      have HPa := Lib.hid (HPr.out.below hba)
      have HKa := Lib.hid (HKr.out.trans (TKeeps.of_below hba HKr.out.below.size))
      have HA := Lib.hid ha
      clear ha hba HPr HKr HG
      go_wp2_with fail
      refine (put_one _ _ _ _ _ 25 _ [] _ _ _ HPa.out (bytesIn_nil _) (by simp) HKa.out.below.size (by decide)).mono ?_
      rintro e wb ⟨rfl, hpb, hkb⟩
      rw [st5] at hpb
      have HPb := Lib.hid hpb
      have HKb := Lib.hid (HKa.out.trans hkb)
      have HAb := Lib.hid (owns3_tkeeps HA.out hkb)
      clear hpb hkb HPa HKa HA
      go_wp2_with fail
      refine (floor_at _ _ _ 24 _ _ HPb.out.one).mono ?_
      rintro e wc ⟨hbc, hfl⟩
      rw [sf5] at hfl
      obtain ⟨Af, cf, rfl, hbf⟩ := hfl
      have HPc := Lib.hid (HPb.out.below hbc)
      have HKc := Lib.hid (HKb.out.trans (TKeeps.of_below hbc HKb.out.below.size))
      have HAc := Lib.hid (owns3_tkeeps HAb.out (TKeeps.of_below hbc (Nat.le_refl _)))
      have HF := Lib.hid hbf
      clear hbc hbf HPb HKb HAb
      go_wp2_with fail
      refine (put_two _ _ _ _ _ 5 _ [] _ _ _ HPc.out (bytesIn_nil _) (by simp) HKc.out.below.size (by decide)).mono ?_
      rintro e wd ⟨rfl, hpd, hkd⟩
      rw [sx1] at hpd
      have HPd := Lib.hid hpd
      have HKd := Lib.hid (HKc.out.trans hkd)
      have HAd := Lib.hid (owns3_tkeeps HAc.out hkd)
      have HFd := Lib.hid (HF.out.tkeeps hkd)
      clear hpd hkd HPc HKc HAc HF
      go_wp2_with fail
      refine (put_two _ _ _ _ _ 7 _ [] _ _ _ HPd.out (bytesIn_nil _) (by simp) HKd.out.below.size (by decide)).mono ?_
      rintro e we ⟨rfl, hpe, hke⟩
      rw [sx2] at hpe
      have HPe := Lib.hid hpe
      have HKe := Lib.hid (HKd.out.trans hke)
      have HAe := Lib.hid (owns3_tkeeps HAd.out hke)
      have HFe := Lib.hid (HFd.out.tkeeps hke)
      clear hpe hke HPd HKd HAd HFd
      go_wp2_with fail
      refine (all_at _ _ _ _ _ HPe.out.two).mono ?_
      rintro e wf ⟨vf, rfl, hcf, hbf⟩
      have HPf := Lib.hid (HPe.out.below hbf)
      have HKf := Lib.hid (HKe.out.trans (TKeeps.of_below hbf HKe.out.below.size))
      have HAf := Lib.hid (owns3_tkeeps HAe.out (TKeeps.of_below hbf (Nat.le_refl _)))
      have HFf := Lib.hid (HFe.out.tkeeps (TKeeps.of_below hbf (Nat.le_refl _)))
      have HC := Lib.hid hcf
      clear hcf hbf HPe HKe HAe HFe
      go_wp2_with fail
      refine (put_two _ _ _ _ _ 3 _ [] _ _ _ HPf.out (bytesIn_nil _) (by simp) HKf.out.below.size (by decide)).mono ?_
      rintro e wg ⟨rfl, hpg, hkg⟩
      rw [sx3] at hpg
      have HPg := Lib.hid hpg
      have HKg := Lib.hid (HKf.out.trans hkg)
      have HAg := Lib.hid (intsAt_owns (owns3_tkeeps HAf.out hkg))
      have HFg := Lib.hid (bytesIn_owns (HFf.out.tkeeps hkg).1)
      have HCg := Lib.hid (intsAt_owns (owns3_tkeeps HC.out hkg))
      clear hpg hkg HPf HKf HAf HFf HC
      go_wp2_with fail
      refine (same_true _ _ _ _ (HAg.out.below ((Below.refl _ _).alloc (Nat.le_refl _) _)) (intsAt_new wg [0, 20, 30] 3) (by decide)).mono ?_
      rintro e wh ⟨rfl, hbh⟩
      have hbh' := ((Below.refl wg.heap.size wg).alloc (Nat.le_refl _) _).trans (hbh.mono (by simp))
      have HPh := Lib.hid (HPg.out.below hbh')
      have HKh := Lib.hid (HKg.out.trans (TKeeps.of_below hbh' HKg.out.below.size))
      have HFh := Lib.hid (HFg.out.below hbh')
      have HCh := Lib.hid (HCg.out.below hbh')
      clear hbh hbh' HPg HKg HFg HCg HAg
      go_wp2_with fail
      refine (all_at _ _ _ _ _ HPh.out.one).mono ?_
      rintro e wi ⟨vi, rfl, hci, hbi⟩
      have HPi := Lib.hid (HPh.out.below hbi)
      have HKi := Lib.hid (HKh.out.trans (TKeeps.of_below hbi HKh.out.below.size))
      have HFi := Lib.hid (HFh.out.below hbi)
      have HCi := Lib.hid (HCh.out.below hbi)
      have HI := Lib.hid (intsAt_owns hci)
      clear hci hbi HPh HKh HFh HCh
      go_wp2_with fail
      refine (same_true _ _ _ _ (HI.out.below ((Below.refl _ _).alloc (Nat.le_refl _) _)) (intsAt_new wi [0, 20, 25] 3) (by decide)).mono ?_
      rintro e wj ⟨rfl, hbj⟩
      have hbj' := ((Below.refl wi.heap.size wi).alloc (Nat.le_refl _) _).trans (hbj.mono (by simp))
      have HPj := Lib.hid (HPi.out.below hbj')
      have HKj := Lib.hid (HKi.out.trans (TKeeps.of_below hbj' HKi.out.below.size))
      have HFj := Lib.hid (HFi.out.below hbj')
      have HCj := Lib.hid (HCi.out.below hbj')
      clear hbj hbj' HPi HKi HFi HCi HI
      have hcv : (convert 36 9 (.slice Af 1 cf)).run Try.prog wj = .ok (.string ⟨#[20]⟩) wj := run_string_of (P := Try.prog) 36 9 5 Try.underlying36 Try.underlying5 Try.underlying9 wj _ [20] _ HFj.out
      go_wp2_with fail
      clear hcv
      refine (same_true _ _ _ _ (HCj.out.below ((Below.refl _ _).alloc (Nat.le_refl _) _)) (intsAt_new wj [5] 1) (by decide)).mono ?_
      rintro e wk ⟨rfl, hbk⟩
      have hbk' := ((Below.refl wj.heap.size wj).alloc (Nat.le_refl _) _).trans (hbk.mono (by simp))
      have HPk := Lib.hid (HPj.out.below hbk')
      have HKk := Lib.hid (HKj.out.trans (TKeeps.of_below hbk' HKj.out.below.size))
      clear hbk hbk' HPj HKj HFj HCj
      go_wp2_with fail
      refine (all_at _ _ _ _ _ HPk.out.two).mono ?_
      rintro e wl ⟨vl, rfl, hcl, hbl⟩
      have HKl := Lib.hid (HKk.out.trans (TKeeps.of_below hbl HKk.out.below.size))
      have HL := Lib.hid (intsAt_owns hcl)
      clear hcl hbl HPk HKk
      go_wp2_with fail
      refine (same_true _ _ _ _ (HL.out.below ((Below.refl _ _).alloc (Nat.le_refl _) _)) (intsAt_new wl [3] 1) (by decide)).mono ?_
      rintro e wm ⟨rfl, hbm⟩
      have hbm' := ((Below.refl wl.heap.size wl).alloc (Nat.le_refl _) _).trans (hbm.mono (by simp))
      have HKm := Lib.hid (HKl.out.trans (TKeeps.of_below hbm' HKl.out.below.size))
      clear hbm hbm' HKl HL
      go_wp2
      go_ret
      exact ⟨rfl, HKm.out.below⟩

end Go.Proofs.Ytnmjcnlhcddokaa.St
