/- StorePlays answers true. -/
import Derived.Test.YtnmjcnlhcddokaaPl4
import Derived.Deep.RegionHeld3
import Derived.Deep.RegionHeld
namespace Go.Proofs.Ytnmjcnlhcddokaa.St
open Go.RowKit
set_option linter.unusedVariables false
set_option linter.unusedSimpArgs false

theorem row_free {w : World} {g : Nat} {c : Array Value} {e : TypeId} (h : w.heap[g]? = some (.cells c e (0, 0))) (j : Nat) : w.frozen? ⟨g, j, none⟩ = false := by simp [World.frozen?, h]
theorem plays_many (n pos : Int) (A : Option Addr) (c k : Nat) (w : World) (hk : 300 < k) (hk2 : k ≤ 9223372036854775807) :
    Calls Try.prog 3 #[.int .i64 n, .slice A k c, .int .i64 pos] w fun e w' => e = .returned (.bool true) ∧ Below w.heap.size w w' := by
  have h300 : (300 : Int) < (k : Int) := by omega
  go_enter Try.func3, Try.ntmps3
  go_wp2_with fail
  refine (new_at n _).mono ?_
  rintro e w1 ⟨rfl, h1, b1⟩
  have B1 := Lib.hid b1
  clear h1 b1
  go_wp2_with fail
  refine (ref_new w.heap.size n _ B1.out.size).mono ?_
  rintro e w2 ⟨A2, c2, rfl, h2, b2⟩
  have B2 := Lib.hid (B1.out.trans (b2.mono B1.out.size))
  clear h2 b2
  go_wp2_with fail
  refine (lives_any _).mono ?_
  rintro e w3 ⟨rfl, b3⟩
  have B3 := Lib.hid (B2.out.trans (((Below.refl w2.heap.size w2).alloc (Nat.le_refl _) _ |>.trans (b3.mono (by simp))).mono B2.out.size))
  clear b3
  go_wp2
  go_ret
  exact ⟨rfl, B3.out⟩

set_option maxHeartbeats 8000000 in
set_option maxRecDepth 100000 in
theorem plays_few (n pos : Int) (A : Option Addr) (c : Nat) (l : List Ac) (w : World) (hA : ActsIn w A l) (hok : ActsOk l) (hl : l.length ≤ 300) (hp : pos ≤ 9223372036854775807) :
    Calls Try.prog 3 #[.int .i64 n, .slice A l.length c, .int .i64 pos] w fun e w' => e = .returned (.bool true) ∧ Below w.heap.size w w' := by
  have h300 : ¬ (300 : Int) < (l.length : Int) := by omega
  have HA := Lib.hid hA
  have HOK := Lib.hid hok
  clear hA hok
  go_enter Try.func3, Try.ntmps3
  go_wp2_with fail
  refine (new_at n _).mono ?_
  rintro e w1 ⟨rfl, h1, b1⟩
  have H1 := Lib.hid (show StoreAt w1 w.heap.size w.heap.size (clampM n) (doneS (clampM n) l 0) from h1)
  have B1 := Lib.hid b1
  clear h1 b1
  obtain ⟨s, hs⟩ : ∃ s, s = w.heap.size := ⟨_, rfl⟩
  have HS := Lib.hid hs
  rw [← hs]
  clear hs
  go_wp2_with fail
  refine (ref_new w.heap.size n _ B1.out.size).mono ?_
  rintro e w2 ⟨A2, c2, rfl, h2, b2⟩
  have H2 := Lib.hid h2
  have B2 := Lib.hid b2
  clear h2 b2
  go_wp2_with fail
  have hb0 : Both (w2.alloc (.cells #[.int .i64 (clampM n), .slice A2 0 c2] 27)) w.heap.size s w2.heap.size (clampM n) (doneS (clampM n) l 0) A2 c2 := by
    have hbb := B2.out.trans ((Below.refl w2.heap.size w2).alloc (Nat.le_refl _) (.cells #[.int .i64 (clampM n), .slice A2 0 c2] 27) |>.mono B2.out.size)
    exact ⟨by rw [HS.out]; exact H1.out.below hbb, Nat.le_trans B1.out.size B2.out.size, heap_alloc_new _ _, H2.out.below ((Below.refl w2.heap.size w2).alloc (Nat.le_refl _) _)⟩
  have hbw := B1.out.trans ((B2.out.trans ((Below.refl w2.heap.size w2).alloc (Nat.le_refl _) (.cells #[.int .i64 (clampM n), .slice A2 0 c2] 27) |>.mono B2.out.size)).mono B1.out.size)
  have HB0 := Lib.hid hb0
  have HW0 := Lib.hid hbw
  clear hb0 hbw H1 B1 H2 B2 HS
  generalize w2.alloc (.cells #[.int .i64 (clampM n), .slice A2 0 c2] 27) = w3 at HB0 HW0 ⊢
  generalize w2.heap.size = g at HB0 ⊢
  go_loopg [9] l.length (fun kx s9 wr => ∃ k : Nat, s9 = .int .i64 k ∧ k ≤ l.length ∧ l.length - k ≤ kx ∧ Hid (∃ Ar cr, Both wr w.heap.size s g (clampM n) (doneS (clampM n) l k) Ar cr) ∧ Hid (Below w.heap.size w wr))
  case atStart => exact ⟨0, rfl, Nat.zero_le _, by omega, ⟨_, _, HB0.out⟩, HW0.out⟩
  case round =>
    clear HB0 HW0
    obtain ⟨k, rfl, hk, hkx, HE, HB⟩ := hrel
    obtain ⟨Ar, cr, hbo⟩ := HE.out
    have HBO := Lib.hid hbo
    clear hbo HE
    obtain ⟨wo, hwo⟩ : ∃ wo : World, wo = wr := ⟨_, rfl⟩
    subst hwo
    by_cases hlt : k < l.length
    · have hds := doneS_succ (most := clampM n) hlt
      obtain ⟨ok1, ok2, ok3⟩ := HOK.out _ (List.getElem_mem hlt)
      have hAr := HA.out.below HB.out (Nat.le_refl _)
      obtain ⟨b, o, rfl, hb0, d1, d2⟩ := HA.out k hlt
      have c1 := (HB.out.cell (p := ⟨b, o + k * 2, none⟩) hb0).trans d1
      have c2 := (HB.out.cell (p := ⟨b, o + k * 2 + 1, none⟩) hb0).trans d2
      clear hAr
      generalize l[k] = y at c1 c2 hds ok1 ok2 ok3 d1 d2
      obtain ⟨p, str⟩ := y
      simp only at c1 c2 hds ok1 ok2 ok3 d1 d2
      have D1 := Lib.hid d1
      have D2 := Lib.hid d2
      clear d1 d2
      generalize doneS (clampM n) l k = L at HBO hds
      have HDS := Lib.hid hds
      have hlt' : (k : Int) < (l.length : Int) := by omega
      have m0 := cell_of_row _ _ 0 _ _ _ HBO.out.cell
      have m1 := cell_of_row _ _ 1 _ _ _ HBO.out.cell
      obtain ⟨f, hf⟩ : ∃ f : Int, f = if p < 0 then 2 else 0 := ⟨_, rfl⟩
      have hput : ∀ W, Below wo.heap.size wo W → Calls Try.prog 8 #[.agg #[.int .i64 (clampM n), .slice Ar L.length cr], .int .i64 p, .string str] W fun e w' => ∃ A1 c1, e = .returned (.tuple #[.agg #[.int .i64 (clampM n), .slice A1 (putS (clampM n) L p str.data.toList).length c1], .int .i64 (if p < 0 then 2 else 0)]) ∧
          RefAt w' w.heap.size (.slice A1 (putS (clampM n) L p str.data.toList).length c1) (putS (clampM n) L p str.data.toList) ∧ (StoreAt w' w.heap.size s (clampM n) L ∧ w'.heap[g]? = some (.cells #[.int .i64 (clampM n), .slice Ar L.length cr] 27 (0, 0)) ∧ Below w.heap.size w w') ∧ (∀ o, W.heap[wo.heap.size]? = some o → w'.heap[wo.heap.size]? = some o) ∧
          (w'.cell? ⟨g, 0, none⟩ = some (.int .i64 (clampM n)) ∧ w'.cell? ⟨g, 1, none⟩ = some (.slice Ar L.length cr) ∧ w'.cell? ⟨b, o + k * 2, none⟩ = some (.int .i64 p) ∧ w'.cell? ⟨b, o + k * 2 + 1, none⟩ = some (.string str)) := by
        intro W hb
        refine (ref_put w W (.slice Ar L.length cr) (clampM n) p str L (HBO.out.rf.below hb) (HB.out.trans (hb.mono HB.out.size)) HBO.out.st.good HBO.out.st.le ok2).mono ?_
        rintro e w' ⟨A1, cc1, h1, h2, h3⟩
        have hgn : ¬ some g = (Value.slice Ar L.length cr).ownBlock := fun hS => by
          obtain ⟨_, _, c', hc'⟩ := HBO.out.rf.block _ hS
          rw [HBO.out.cell] at hc'
          injection hc' with hc'
          injection hc' with _ hc'
          exact absurd hc' (by decide)
        have hg' := h3.keep _ _ ((hb.block g (lt_of_heap HBO.out.cell)).trans HBO.out.cell) hgn
        have hbl : b < wo.heap.size := Nat.lt_of_lt_of_le hb0 HB.out.size
        refine ⟨A1, cc1, h1, h2, ⟨((HBO.out.below hb).ref h3 h2).1, hg', (HB.out.trans (hb.mono HB.out.size)).trans h3.below⟩, fun o ho => h3.keep _ _ ho fun hS => ?_, cell_of_row _ _ 0 _ _ _ hg', cell_of_row _ _ 1 _ _ _ hg', ?_, ?_⟩
        · have := (HBO.out.rf.block _ hS).2.1
          omega
        · exact (h3.below.cell (p := ⟨b, o + k * 2, none⟩) hb0).trans ((hb.cell (p := ⟨b, o + k * 2, none⟩) hbl).trans c1)
        · exact (h3.below.cell (p := ⟨b, o + k * 2 + 1, none⟩) hb0).trans ((hb.cell (p := ⟨b, o + k * 2 + 1, none⟩) hbl).trans c2)
      rw [← hf] at hput
      have HF := Lib.hid hf
      have HPUT := Lib.hid hput
      clear hds hf hput
      go_upto_region 7 with fail
      go_cut [10, 11] (fun s10 s11 wx => Hid (∃ h A1 c1, s10 = .pointer (some ⟨h, 0, none⟩) ∧ s11 = .int .i64 f ∧ Mid wx w.heap.size s g h (clampM n) L (putS (clampM n) L p str.data.toList) A1 c1 ∧ Below w.heap.size w wx))
      case first =>
        have n0 := World.new_ne wo _ m0
        have n1 := World.new_ne wo _ m1
        have n2 := World.new_ne wo _ c1
        have n3 := World.new_ne wo _ c2
        go_region_held3 (fun W => W.cell? ⟨g, 0, none⟩ = some (.int .i64 (clampM n)) ∧ W.cell? ⟨g, 1, none⟩ = some (.slice Ar L.length cr) ∧ W.cell? ⟨b, o + k * 2, none⟩ = some (.int .i64 p) ∧ W.cell? ⟨b, o + k * 2 + 1, none⟩ = some (.string str)) (first | exact ⟨q0, q1, q2, q3⟩ | go_keep)
          (first | (go_at_call 8; refine (HPUT.out _ (by repeat (first | exact Below.refl _ _ | apply below_drew | apply below_drewN | (refine Below.alloc ?_ (by simp) _)))).mono ?_; rintro e w4 ⟨A4, c4, rfl, hr4, ⟨hs4, hc4, hb4⟩, hfr, q0, q1, q2, q3⟩; have HR4 := Lib.hid hr4; have HS4 := Lib.hid hs4; have HC4 := Lib.hid hc4; have HB4 := Lib.hid hb4; (try (have q := hfr _ (heap_alloc_new _ _); have qa := cell_of_row _ _ 0 _ _ _ q; have qb := cell_of_row _ _ 1 _ _ _ q; have qf := row_free q; have HQ := Lib.hid q; clear q)); clear hr4 hs4 hc4 hb4 hfr))
        · go_wp2_with fail
          go_meet
          exact ⟨_, A4, c4, rfl, rfl, mid_alloc HS4.out HBO.out.hg HC4.out HB4.out.size HR4.out, HB4.out.trans ((Below.refl _ _).alloc HB4.out.size _)⟩
        · go_wp2_with fail
          go_meet
          have hm := mid_set HS4.out HBO.out.hg HC4.out HB.out.size (Nat.ne_of_gt (lt_of_heap HBO.out.cell)) HQ.out HR4.out
          exact ⟨_, A4, c4, rfl, rfl, hm.1, HB4.out.trans hm.2⟩
      case rest =>
        clear HBO HPUT m0 m1 c1 c2
        obtain ⟨h, A1, cc, rfl, rfl, hmid, hbel⟩ := hcut.out
        clear hcut
        have HBEL := Lib.hid hbel
        clear hbel
        obtain ⟨L1, hL1⟩ : ∃ L1, putS (clampM n) L p str.data.toList = L1 := ⟨_, rfl⟩
        have HL1 := Lib.hid hL1
        have hd1 := HDS.out
        rw [hL1] at hd1 hmid
        have HDS := Lib.hid hd1
        have HMID := Lib.hid hmid
        clear hL1 hd1 hmid
        have HOKP := Lib.hid ok3
        clear ok1 ok3
        go_wp2_with fail
        have hbw := HBEL.out.size
        have hbl' : b < wc.drew.heap.size := Nat.lt_of_lt_of_le hb0 hbw
        have z1 := (HBEL.out.cell (p := ⟨b, o + k * 2, none⟩) hb0).trans D1.out
        have z2 := (HBEL.out.cell (p := ⟨b, o + k * 2 + 1, none⟩) hb0).trans D2.out
        have q1 : (Lib.bytesWorld wc.drew 5 str).cell? ⟨b, o + k * 2, none⟩ = some (.int .i64 p) := ((below_conv wc.drew str).cell (p := ⟨b, o + k * 2, none⟩) hbl').trans z1
        have q2 : (Lib.bytesWorld wc.drew 5 str).cell? ⟨b, o + k * 2 + 1, none⟩ = some (.string str) := ((below_conv wc.drew str).cell (p := ⟨b, o + k * 2 + 1, none⟩) hbl').trans z2
        have hbc : Below wc.heap.size wc (Lib.bytesWorld wc.drew 5 str) := ((Below.refl wc.heap.size wc).drew).trans (below_conv wc.drew str)
        have hput : Calls Try.prog 9 #[.pointer (some ⟨s, 0, none⟩), .int .i64 p, .slice (some ⟨wc.heap.size, 0, none⟩) str.size (grownCap wc.drew str.size 0 5)] (Lib.bytesWorld wc.drew 5 str) fun e w' => e = .returned (.int .i64 f) ∧ Mid w' w.heap.size s g h (clampM n) L1 L1 A1 cc ∧ Below w.heap.size w w' := by
          refine (put_at w.heap.size s (clampM n) p (.slice (some ⟨wc.heap.size, 0, none⟩) str.size (grownCap wc.drew str.size 0 5)) str.data.toList L (Lib.bytesWorld wc.drew 5 str) (HMID.out.below hbc).st (bytesIn_conv wc.drew str) (by simpa using HOKP.out) (Nat.le_trans hbw hbc.size) ok2).mono ?_
          rintro e w' ⟨h1, h2, h3, _⟩
          rw [HL1.out] at h2
          rw [HF.out]
          exact ⟨h1, (HMID.out.below hbc).put h3 h2, (HBEL.out.trans (hbc.mono hbw)).trans h3.below⟩
        have HPUT := Lib.hid hput
        have hcv := fun W => Lib.run_convert_string_bytes (P := Try.prog) W 9 36 5 str Try.underlying9 Try.underlying36 Try.underlying5
        clear hput hbc
        go_upto_region 8 with fail
        go_cut [75] (fun s75 wx => Hid (s75 = .bool false ∧ Mid wx w.heap.size s g h (clampM n) L1 L1 A1 cc ∧ Below w.heap.size w wx))
        case first =>
          go_region_with (go_at_call 9; refine HPUT.out.mono ?_; rintro e w5 ⟨rfl, hm5, hb5⟩; have HM5 := Lib.hid hm5; have HB5 := Lib.hid hb5; clear hm5 hb5)
          all_goals (go_wp2_with fail; go_meet; exact ⟨by simp, HM5.out, HB5.out⟩)
        case rest =>
          clear HPUT hcv q1 q2 z1 z2 hbl' HMID HBEL
          obtain ⟨rfl, hm6, hb6⟩ := hcut.out
          clear hcut
          obtain ⟨v6, v7, hg6⟩ := hm6.cell
          have hset := hm6.set
          have m0 := cell_of_row _ _ 0 _ _ _ hm6.cell1
          have m1 := cell_of_row _ _ 1 _ _ _ hm6.cell1
          have m2 := cell_of_row _ _ 0 _ _ _ hg6
          have m3 := cell_of_row _ _ 1 _ _ _ hg6
          have m4 := row_free hg6 0
          have m5 := row_free hg6 1
          have HB6 := Lib.hid hb6
          have HSET := Lib.hid hset
          have e1 := ((hb6.trans hset.2).cell (p := ⟨b, o + k * 2, none⟩) hb0).trans D1.out
          have e2 := (hb6.cell (p := ⟨b, o + k * 2, none⟩) hb0).trans D1.out
          clear hm6 hg6 hset hb6
          go_wp2_with fail
          clear e1 e2
          have HB7 := Lib.hid (HB6.out.trans HSET.out.2)
          have HBO := Lib.hid HSET.out.1
          refine (floor_at2 _ _ _ p _ _ HBO.out.st).mono ?_
          rintro e w8 ⟨A8, c8, rfl, hy8, hb8⟩
          have HY8 := Lib.hid hy8
          have HB8 := Lib.hid (HB7.out.trans (hb8.mono HB7.out.size))
          have HBO8 := Lib.hid (HBO.out.below hb8)
          clear hy8 hb8 HBO HSET HB7 HB6 m0 m1 m2 m3 m4 m5
          have m0 := cell_of_row _ _ 0 _ _ _ HBO8.out.cell
          have m1 := cell_of_row _ _ 1 _ _ _ HBO8.out.cell
          have d1 := (HB8.out.cell (p := ⟨b, o + k * 2, none⟩) hb0).trans D1.out
          have hlen : L1.length < 1000 := by
            have h1 := HBO8.out.st.good.len
            have h2 := HBO8.out.st.le
            rw [ps_length] at h1
            omega
          go_wp2_with fail
          have hfl := fun (W : World) (hb : Below w8.heap.size w8 W) => ref_floor W w.heap.size (.slice A1 L1.length cc) (clampM n) p L1 (HBO8.out.below hb).rf hlen
          have HFL := Lib.hid hfl
          have HLEN := Lib.hid hlen
          clear hfl hlen
          go_upto_region 12 with fail
          go_cut [15, 16, 17] (fun s15 s16 s17 wx => Hid (s15 = .int .i64 (fI L1 p) ∧ s16 = .string ⟨(fB L1 p).toArray⟩ ∧ s17 = .bool (fO L1 p) ∧ Below w8.heap.size w8 wx))
          case first =>
            go_region_with (go_at_call 11; refine (HFL.out _ (by repeat (first | exact Below.refl _ _ | apply below_drew | apply below_drewN | (refine Below.alloc ?_ (by simp) _)))).mono ?_; rintro e w9 ⟨rfl, hb9⟩; have HB9 := Lib.hid hb9; clear hb9)
            all_goals (go_wp2_with fail; go_meet; exact ⟨rfl, rfl, rfl, by first | exact HB9.out | exact ((Below.refl w8.heap.size w8).drew).trans HB9.out | exact (((Below.refl w8.heap.size w8).drew).drew).trans HB9.out | exact (below_drewN (Below.refl w8.heap.size w8) _).trans HB9.out⟩)
          case rest =>
            obtain ⟨rfl, rfl, rfl, hb9⟩ := hcut.out
            have HBO9 := Lib.hid (HBO8.out.below hb9)
            have HB9 := Lib.hid (HB8.out.trans (hb9.mono HB8.out.size))
            have HY9 := Lib.hid (HY8.out.below hb9)
            clear hcut hb9 m0 m1 d1 HFL HY8 HB8 HBO8
            have m0 := cell_of_row _ _ 0 _ _ _ HBO9.out.cell
            have m1 := cell_of_row _ _ 1 _ _ _ HBO9.out.cell
            have hcl := fun (W : World) (hb : Below wc.heap.size wc W) => (show W.cell? ⟨g, 0, none⟩ = some (.int .i64 (clampM n)) ∧ W.cell? ⟨g, 1, none⟩ = some (.slice A1 L1.length cc) from ⟨cell_of_row _ _ 0 _ _ _ (HBO9.out.below hb).cell, cell_of_row _ _ 1 _ _ _ (HBO9.out.below hb).cell⟩)
            have hall : ∀ W, Below wc.heap.size wc W → Calls Try.prog 13 #[.pointer (some ⟨s, 0, none⟩)] W fun e w' => ∃ A c, e = .returned (.slice A L1.length c) ∧ IntsAt w' (.slice A L1.length c) (ps L1) ∧ Below wc.heap.size wc w' ∧ (∀ v, IntsAt W v (ps L1) → IntsAt w' v (ps L1)) ∧ w'.cell? ⟨g, 0, none⟩ = some (.int .i64 (clampM n)) ∧ w'.cell? ⟨g, 1, none⟩ = some (.slice A1 L1.length cc) := by
              intro W hb
              refine (all_at _ _ _ _ _ (HBO9.out.below hb).st).mono ?_
              rintro e w' ⟨v', rfl, ho, hb'⟩
              obtain ⟨A', c', rfl⟩ := owns_form ho
              have hbb := hb.trans (hb'.mono hb.size)
              refine ⟨A', c', rfl, ?_, hbb, fun v hv => hv.below hb', (hcl _ hbb).1, (hcl _ hbb).2⟩
              rw [← ps_length L1] at ho ⊢
              exact intsAt_owns ho
            have href : ∀ W, Below wc.heap.size wc W → Calls Try.prog 14 #[.agg #[.int .i64 (clampM n), .slice A1 L1.length cc]] W fun e w' => ∃ A c, e = .returned (.slice A L1.length c) ∧ IntsAt w' (.slice A L1.length c) (ps L1) ∧ Below wc.heap.size wc w' ∧ (∀ v, IntsAt W v (ps L1) → IntsAt w' v (ps L1)) ∧ w'.cell? ⟨g, 0, none⟩ = some (.int .i64 (clampM n)) ∧ w'.cell? ⟨g, 1, none⟩ = some (.slice A1 L1.length cc) := by
              intro W hb
              refine (ref_all W w.heap.size (.slice A1 L1.length cc) (clampM n) L1 (HBO9.out.below hb).rf HLEN.out).mono ?_
              rintro e w' ⟨A', c', rfl, hi, hb'⟩
              have hbb := hb.trans (hb'.mono hb.size)
              exact ⟨A', c', rfl, hi, hbb, fun v hv => hv.below hb', (hcl _ hbb).1, (hcl _ hbb).2⟩
            have hsame : ∀ W v v', IntsAt W v (ps L1) → IntsAt W v' (ps L1) → Below wc.heap.size wc W → Calls Try.prog 12 #[v, v'] W fun e w' => e = .returned (.bool true) ∧ Below wc.heap.size wc w' ∧ w'.cell? ⟨g, 0, none⟩ = some (.int .i64 (clampM n)) ∧ w'.cell? ⟨g, 1, none⟩ = some (.slice A1 L1.length cc) := by
              intro W v v' h1 h2 hb
              refine (same_true v v' (ps L1) W h1 h2 (by rw [ps_length]; have := HLEN.out; omega)).mono ?_
              rintro e w' ⟨rfl, hb'⟩
              have hbb := hb.trans (hb'.mono hb.size)
              exact ⟨rfl, hbb, (hcl _ hbb).1, (hcl _ hbb).2⟩
            have hcvb : ∀ W, Below wc.heap.size wc W → (convert 36 9 (.slice A8 (fB L1 p).length c8)).run Try.prog W = .ok (.string ⟨(fB L1 p).toArray⟩) W := fun W hb => run_string_of (P := Try.prog) 36 9 5 Try.underlying36 Try.underlying5 Try.underlying9 _ _ (fB L1 p) _ (HY9.out.below hb)
            have HALL := Lib.hid hall
            have HREF := Lib.hid href
            have HSAME := Lib.hid hsame
            have HCV := Lib.hid hcvb
            clear hall href hsame hcvb hcl
            generalize fI L1 p = vi at *
            generalize fO L1 p = vo at *
            generalize fB L1 p = vb at *
            go_wp2_with fail
            go_region_held (fun W => W.cell? ⟨g, 0, none⟩ = some (.int .i64 (clampM n)) ∧ W.cell? ⟨g, 1, none⟩ = some (.slice A1 L1.length cc)) (first | exact ⟨t0, t1⟩ | go_keep)
              (first
                | (go_at_call 13; refine (HALL.out _ (by first | ((repeat (first | exact Below.refl _ _ | apply below_drew | apply below_drewN | (refine Below.alloc ?_ (by simp) _))); done) | exact B6.out)).mono ?_; rintro e w5 ⟨A5, c5, rfl, i5, b5, k5, t0, t1⟩; have I5 := Lib.hid i5; have B5 := Lib.hid b5; (try have I6 := Lib.hid (k5 _ I6.out)); clear i5 b5 k5)
                | (go_at_call 14; refine (HREF.out _ (by first | ((repeat (first | exact Below.refl _ _ | apply below_drew | apply below_drewN | (refine Below.alloc ?_ (by simp) _))); done) | exact B5.out)).mono ?_; rintro e w6 ⟨A6, c6, rfl, i6, b6, k6, t0, t1⟩; have I6 := Lib.hid i6; have B6 := Lib.hid b6; (try have I5 := Lib.hid (k6 _ I5.out)); clear i6 b6 k6)
                | (go_at_call 12; refine (HSAME.out _ _ _ I5.out I6.out (by first | exact B6.out | exact B5.out)).mono ?_; rintro e w7 ⟨rfl, b7, t0, t1⟩; have B7 := Lib.hid b7; have hcv := HCV.out _ b7; clear b7))
            go_wp2_with fail
            go_roundg (l.length - (k + 1))
            case measure => omega
            case rel => exact ⟨k + 1, by go_num, by omega, Nat.le_refl _, ⟨A1, cc, by rw [HDS.out]; exact HBO9.out.below B7.out⟩, HB9.out.trans (B7.out.mono HB9.out.size)⟩
    · obtain rfl : k = l.length := by omega
      generalize doneS (clampM n) l l.length = L at HBO
      have hlen : L.length < 1000 := by
        have h1 := HBO.out.st.good.len
        have h2 := HBO.out.st.le
        rw [ps_length] at h1
        omega
      go_wp2_with fail
      refine (floor_at2 _ _ _ pos _ _ HBO.out.st).mono ?_
      rintro e w4 ⟨A4, c4, rfl, hy4, hb4⟩
      have HY4 := Lib.hid hy4
      have HB4 := Lib.hid (HB.out.trans (hb4.mono HB.out.size))
      have HBO4 := Lib.hid (HBO.out.below hb4)
      clear hy4 hb4 HBO HB
      have m0 := cell_of_row _ _ 0 _ _ _ HBO4.out.cell
      have m1 := cell_of_row _ _ 1 _ _ _ HBO4.out.cell
      go_wp2_with fail
      refine (ref_floor _ w.heap.size (.slice Ar L.length cr) (clampM n) pos L HBO4.out.rf hlen).mono ?_
      rintro e w5 ⟨rfl, hb5⟩
      have hcv : (convert 36 9 (.slice A4 (fB L pos).length c4)).run Try.prog w5 = .ok (.string ⟨(fB L pos).toArray⟩) w5 := run_string_of (P := Try.prog) 36 9 5 Try.underlying36 Try.underlying5 Try.underlying9 _ _ (fB L pos) _ (HY4.out.below hb5)
      have HB5 := Lib.hid (HB4.out.trans (hb5.mono HB4.out.size))
      clear hb5 m0 m1 HY4 HBO4 HB4
      generalize fI L pos = vi at *
      generalize fO L pos = vo at *
      generalize fB L pos = vb at *
      go_wp2_with fail
      refine (lives_any _).mono ?_
      rintro e w6 ⟨rfl, hb6⟩
      have HB6 := Lib.hid (HB5.out.trans (hb6.mono HB5.out.size))
      clear hb6
      go_wp2
      go_ret
      exact ⟨rfl, HB6.out⟩
end Go.Proofs.Ytnmjcnlhcddokaa.St
