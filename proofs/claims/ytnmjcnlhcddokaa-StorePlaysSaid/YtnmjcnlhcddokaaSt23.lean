/- StoreKept answers true. -/
import Derived.Test.YtnmjcnlhcddokaaSt22
namespace Go.Proofs.Ytnmjcnlhcddokaa.St
open Go.RowKit
set_option linter.unusedVariables false
set_option linter.unusedSimpArgs false

/-- A slice of bytes that came in. -/
def BytesR (w : World) (B : Option Addr) (bs : List UInt8) : Prop :=
  bs = [] ∨ ∃ b o, B = some ⟨b, o, none⟩ ∧ b < w.heap.size ∧ ∀ j u, (byteVals bs)[j]? = some u → w.cell? ⟨b, o + j, none⟩ = some u
/-- A row of bytes that is written: from B on. -/
def MutAt (B : Nat) (w : World) (A : Option Addr) (n : Nat) : Prop :=
  n = 0 ∨ ∃ g cur, A = some ⟨g, 0, none⟩ ∧ B ≤ g ∧ w.heap[g]? = some (.cells cur 5 (0, 0)) ∧ ∀ j, j < n → ∃ m, cur[j]? = some (.int .u8 m)
theorem mutAt_owns {w : World} {B c : Nat} {A : Option Addr} {bs : List UInt8} (h : w.ownsRow B 5 1 (.slice A bs.length c) bs.length (byteVals bs)) : MutAt B w A bs.length := by
  rcases h.2 with ⟨_, h0⟩ | ⟨g, cap, cur, hv, hb, hg, _, _, _, ht⟩
  · exact .inl h0
  · injection hv with h1 h2 h3
    subst h1
    refine .inr ⟨g, cur, rfl, hb, hg, fun j hj => ⟨((bs[j]'hj).toNat : Int), ?_⟩⟩
    have h4 : (cur.toList.take (bs.length * 1))[j]? = (byteVals bs)[j]? := by rw [ht]
    rw [List.getElem?_take_of_lt (by omega)] at h4
    simpa [byteVals, hj] using h4
theorem mutAt_set {w : World} {B n g j : Nat} {cur : Array Value} {m : Int} (hB : B ≤ g) (hg : w.heap[g]? = some (.cells cur 5 (0, 0))) (hc : ∀ j, j < n → ∃ m, cur[j]? = some (.int .u8 m)) (hj : j < n) :
    MutAt B (w.setCell ⟨g, j, none⟩ (.int .u8 m)) (some ⟨g, 0, none⟩) n := by
  refine .inr ⟨g, _, rfl, hB, heap_set_same (j := j) hg (.int .u8 m), fun i hi => ?_⟩
  by_cases hij : j = i
  · subst hij
    obtain ⟨m0, h0⟩ := hc j hj
    have : j < cur.size := (Array.getElem?_eq_some_iff.1 h0).1
    exact ⟨m, by rw [Array.getElem?_setIfInBounds_self_of_lt this]⟩
  · obtain ⟨m0, h0⟩ := hc i hi
    exact ⟨m0, by rw [Array.getElem?_setIfInBounds_ne hij]; exact h0⟩

theorem BytesR.below {w w' : World} {B : Option Addr} {bs : List UInt8} {b : Nat} (h : BytesR w B bs) (hb : Below b w w') (hB : w.heap.size ≤ b) : BytesR w' B bs := by
  rcases h with h | ⟨g, o, hv, hg, hc⟩
  · exact .inl h
  · exact .inr ⟨g, o, hv, Nat.lt_of_lt_of_le hg hb.size, fun j u hu => (hb.cell (p := ⟨g, o + j, none⟩) (Nat.lt_of_lt_of_le hg hB)).trans (hc j u hu)⟩
theorem run_string_R {P : Program} (src dst e : TypeId) (hs : P.underlying src = some (.slice e)) (he : P.underlying e = some (.int .u8)) (hd : P.underlying dst = some .string) (w : World) (A : Option Addr) (bs : List UInt8) (c : Nat)
    (h : BytesR w A bs) : (convert src dst (.slice A bs.length c)).run P w = .ok (.string ⟨bs.toArray⟩) w := by
  rcases h with rfl | ⟨g, o, rfl, hg, hc⟩
  · rw [run_convert_bytes_string w src dst e _ _ c hs he hd]
    rcases A with _ | a
    · rfl
    · rw [run_bytesToString w a _ c [] (by simp [loadCells, loadCellsFrom, Sem.run_pure])]
      rfl
  · have e1 : strOfNums (bs.map fun b => (b.toNat : Int)) = ⟨bs.toArray⟩ := by
      simp [strOfNums, Function.comp_def]
    rw [← e1]
    refine run_convert_bytes_arg w src e hs he g o bs.length c (bs.map fun b => (b.toNat : Int)) (by simp) (fun i hi => ?_) dst hd
    have := hc i (.int .u8 ((bs[i]'hi).toNat : Int)) (by simp [byteVals, hi])
    rw [this]
    simp [List.getD_eq_getElem?_getD, hi]

/-- One item in a store that had none. -/
theorem put_first (base s : Nat) (most p : Int) (bv : Value) (b : List UInt8) (w : World) (h : StoreAt w base s most []) (hb : BytesIn w bv b) (hbl : b.length ≤ 140737488351232) (hbw : base ≤ w.heap.size) (hp0 : 0 ≤ p) (hp : p ≤ 9223372036854775807) :
    Calls Try.prog 9 #[.pointer (some ⟨s, 0, none⟩), .int .i64 p, bv] w fun e w' => e = .returned (.int .i64 0) ∧
      ∃ x v', w'.heap[s]? = some (.cells #[.int .i64 most, v'] 49 (0, 0)) ∧ Row w' base v' [(p, x)] ∧ BytesAt w' w.heap.size x b ∧ TKeeps base w w' := by
  have h0 := h
  obtain ⟨h1, h2, h3, h4, v, L, h5, h6, h7⟩ := h
  have hL : L = [] := List.eq_nil_of_length_eq_zero h7.length
  subst hL
  refine (put_any base s most p v bv b [] w h5 h1 hp0 hp hb hbl h6 (fun a b _ hb => by simp at hb) (fun t ht => by simp at ht) (fun x hx => by cases hx) (by simp) h3 hbw).mono ?_
  rintro e w' ⟨rfl, i, x, v', hi, hl, g1, g2, g3, g4, g5⟩
  obtain rfl : i = 0 := by simpa using hi
  have e1 : putIm most [] p x 0 = [(p, x)] := by
    unfold putIm
    rw [if_neg (by simp), if_neg (by simp; omega)]
    rfl
  rw [e1] at g2
  exact ⟨rfl, x, v', g1, g2, g3, h0.tkeeps (g4.mono fun k hk => (footOf_eq h5 k).2 hk)⟩
/-- It bears a write into a row of bytes that is elder. -/
theorem first_grown {w w' : World} {base s B : Nat} {most p : Int} {x v' u : Value} {b : List UInt8} (h1 : 0 < most) (h2 : most ≤ 64) (hbs : base ≤ s) (hp0 : 0 ≤ p) (hp : p ≤ 9223372036854775807)
    (g1 : w.heap[s]? = some (.cells #[.int .i64 most, v'] 49 (0, 0))) (g2 : Row w base v' [(p, x)]) (g3 : BytesAt w B x b) (hB : base ≤ B) (hg : w.grownBy w' u.ownBlock) (hu : ∀ k, u.ownBlock = some k → k < B ∧ ∃ c f, w.heap[k]? = some (.cells c 5 f)) :
    StoreAt w' base s most [(p, b)] := by
  have hne : ∀ (k : Nat) (c : Array Value) (e : TypeId) (f : Nat × Nat), w.heap[k]? = some (.cells c e f) → e ≠ 5 → w'.heap[k]? = some (.cells c e f) := fun k c e f hk he =>
    (hg.block k (lt_of_heap hk) (fun e' => by
      obtain ⟨_, c', f', hc⟩ := hu k e'.symm
      rw [hk] at hc
      injection hc with hc
      injection hc with _ hc
      exact he hc)).trans hk
  refine ⟨h1, h2, hbs, ⟨by simp [ps], fun y hy => by simp [ps] at hy; omega, by simp [ps]; omega⟩, v', [(p, x)], hne _ _ _ _ g1 (by decide), ?_, rfl, ?_, trivial⟩
  · rcases g2 with g2 | ⟨g, cap, cur, hv, hbg, hgg, r1, r2, r3, hI⟩
    · exact .inl g2
    · have h' := hne _ _ _ _ hgg (by decide)
      exact .inr ⟨g, cap, cur, hv, hbg, h', r1, r2, r3, hI.same (h'.trans hgg.symm)⟩
  · obtain ⟨⟨b1, b2⟩, b3⟩ := g3
    refine ⟨⟨b1, ?_⟩, b3⟩
    rcases b2 with b2 | ⟨g, cap, cur, hv, hbg, hgg, rest⟩
    · exact .inl b2
    · refine .inr ⟨g, cap, cur, hv, Nat.le_trans hB hbg, ?_, rest⟩
      exact (hg.block g (lt_of_heap hgg) (fun e' => by have := (hu g e'.symm).1; omega)).trans hgg

theorem kept_many (n : Int) (A B : Option Addr) (c m d k : Nat) (w : World) (hk : 300 < k) (hk2 : k ≤ 9223372036854775807) :
    Calls Try.prog 4 #[.int .i64 n, .slice A k c, .slice B m d] w fun e w' => e = .returned (.bool true) ∧ Below w.heap.size w w' := by
  have h300 : (300 : Int) < (k : Int) := by omega
  go_enter Try.func4, Try.ntmps4
  go_wp2_with (go_at_call 7; refine (lives_any _).mono ?_; rintro e w' ⟨rfl, hb⟩)
  go_ret
  exact ⟨rfl, hb⟩

set_option maxHeartbeats 8000000 in
set_option maxRecDepth 100000 in
theorem kept_few (n : Int) (A B : Option Addr) (c d : Nat) (l : List Ac) (bs : List UInt8) (w : World) (hA : ActsIn w A l) (hok : ActsOk l) (hl : l.length ≤ 300) (hB : BytesR w B bs) (hbs : bs.length ≤ 140737488351232) :
    Calls Try.prog 4 #[.int .i64 n, .slice A l.length c, .slice B bs.length d] w fun e w' => e = .returned (.bool true) ∧ Below w.heap.size w w' := by
  have h300 : ¬ (300 : Int) < (l.length : Int) := by omega
  have HA := Lib.hid hA
  have HOK := Lib.hid hok
  have HBB := Lib.hid hB
  clear hA hok hB
  go_enter Try.func4, Try.ntmps4
  go_wp2_with fail
  refine (done_any n A c l w HA.out HOK.out hl).mono ?_
  rintro e w1 ⟨s, rfl, hs, hb1⟩
  have HS := Lib.hid hs
  have HB1 := Lib.hid hb1
  clear hs hb1
  go_wp2_with fail
  refine (all_at _ _ _ _ _ HS.out).mono ?_
  rintro e w2 ⟨va, rfl, ha, hb2⟩
  have hg := HS.out.good
  have hst := doneS_last (most := clampM n) HS.out.pos HOK.out l.length
  generalize doneS (clampM n) l l.length = L at HS ha hg hst
  obtain ⟨Aa, ca, rfl⟩ := owns_form ha
  have HS2 := Lib.hid (HS.out.below hb2)
  have HB2 := Lib.hid (HB1.out.trans (hb2.mono HB1.out.size))
  have hia : IntsAt w2 (.slice Aa L.length ca) (ps L) := by
    have h := ha
    rw [← ps_length L] at h ⊢
    exact intsAt_owns h
  have HAA := Lib.hid hia
  have HG := Lib.hid hg
  have HST := Lib.hid hst
  have hL64 : L.length ≤ 64 := by have h1 := hg.len; have h2 := HS.out.le; rw [ps_length] at h1; omega
  clear ha hia hb2 hg hst HS HB1
  go_wp2_with fail
  go_loopg [9] L.length (fun kx s9 wr => ∃ k : Nat, s9 = .int .i64 k ∧ k ≤ L.length ∧ L.length - k ≤ kx ∧ Hid (StoreAt wr w.heap.size s (clampM n) L) ∧ Hid (Below w2.heap.size w2 wr))
  case atStart => exact ⟨0, rfl, Nat.zero_le _, by omega, HS2.out, Below.refl _ _⟩
  case round =>
    clear HS2
    obtain ⟨k, rfl, hk, hkx, HSr, HBr⟩ := hrel
    obtain ⟨wo, rfl⟩ : ∃ wo : World, wo = wr := ⟨_, rfl⟩
    by_cases hlt : k < L.length
    · have hx := floorS_there HG.out.sorted hlt
      have hw := HST.out _ (List.getElem_mem hlt)
      have hpk : (ps L).getD k 0 = (L[k]).1 := by simp [ps, List.getD_eq_getElem?_getD, hlt]
      rcases HAA.out.below HBr.out with ⟨hv, he⟩ | ⟨ga, ca', hv, hga, hca⟩
      · have : L.length = 0 := by rw [← ps_length L, he]; rfl
        omega
      injection hv with hv1 hv2 hv3
      subst hv1
      have hcell := hca k (by rw [ps_length]; exact hlt)
      rw [hpk] at hcell
      generalize L[k] = y at hx hw hcell
      obtain ⟨p, xb⟩ := y
      simp only at hx hw hcell
      have hk1 : (k : Int) < (L.length : Int) := by omega
      have HX := Lib.hid hx
      have HW := Lib.hid hw
      clear hx hw hpk hv2 hv3 hca
      go_wp2_with fail
      refine (floor_at _ _ _ p _ _ HSr.out).mono ?_
      rintro e w3 ⟨hb3, hf3⟩
      rw [HX.out] at hf3
      obtain ⟨A3, c3, rfl, hy3⟩ := hf3
      have HS3 := Lib.hid (HSr.out.below hb3)
      have HB3 := Lib.hid (HBr.out.trans (hb3.mono HBr.out.size))
      have HY3 := Lib.hid hy3
      have HO3 := Lib.hid hb3
      have hxl := hy3.2
      have hc3 := (hb3.cell (p := ⟨ga, k, none⟩) hga).trans hcell
      clear hb3 hy3
      go_wp2_with fail
      have ha3 := HA.out.below (HB2.out.trans (HB3.out.mono HB2.out.size)) (Nat.le_refl _)
      have HA3 := Lib.hid ha3
      clear ha3
      go_loopg [13, 14] l.length (fun kx s13 s14 wq => ∃ q : Nat, s14 = .int .i64 q ∧ q ≤ l.length ∧ l.length - q ≤ kx ∧ s13 = .string (wantS l p q) ∧ Hid (∃ n, wq = w3.drewN n))
      case atStart => exact ⟨0, rfl, Nat.zero_le _, by omega, rfl, ⟨0, rfl⟩⟩
      case round =>
        obtain ⟨q, rfl, hq, hqx, rfl, HD⟩ := hrel
        obtain ⟨nd, rfl⟩ := HD.out
        by_cases hql : q < l.length
        · obtain ⟨b0, o0, rfl, hb0, c1, c2⟩ := HA3.out q hql
          have hws : wantS l p (q + 1) = if (l[q]).1 = p then (l[q]).2 else wantS l p q := by simp [wantS, hql]
          generalize l[q] = z at c1 c2 hws
          obtain ⟨pz, sz⟩ := z
          simp only at c1 c2 hws
          have hq1 : (q : Int) < (l.length : Int) := by omega
          by_cases hpz : pz = p
          · subst hpz
            rw [if_pos rfl] at hws
            have HWS := Lib.hid hws
            clear hws
            go_wp2_with fail
            go_quiet (fail)
            go_wp2
            go_roundg (l.length - (q + 1))
            case measure => omega
            case rel => exact ⟨q + 1, by go_num, by omega, Nat.le_refl _, by rw [HWS.out], ⟨_, rfl⟩⟩
          · rw [if_neg hpz] at hws
            have HWS := Lib.hid hws
            have hpf : (pz == p) = false := by simpa using hpz
            clear hws hpz
            go_wp2_with fail
            go_quiet (fail)
            go_wp2
            go_roundg (l.length - (q + 1))
            case measure => omega
            case rel => exact ⟨q + 1, by go_num, by omega, Nat.le_refl _, by rw [HWS.out], ⟨_, rfl⟩⟩
        · obtain rfl : q = l.length := by omega
          have hws : wantS l p l.length = ⟨xb.toArray⟩ := by rw [HW.out]
          rw [hws]
          clear hws
          have hbd := below_drewN (Below.refl w3.heap.size w3) nd
          have hcv : (convert 36 9 (.slice A3 xb.length c3)).run Try.prog (w3.drewN nd) = .ok (.string ⟨xb.toArray⟩) (w3.drewN nd) := run_string_of (P := Try.prog) 36 9 5 Try.underlying36 Try.underlying5 Try.underlying9 _ _ xb _ ((bytesIn_owns HY3.out.1).below hbd)
          have HS4 := Lib.hid (HS3.out.below hbd)
          have HB4 := Lib.hid (HB3.out.trans (hbd.mono HB3.out.size))
          have HY4 := Lib.hid (HY3.out.below hbd)
          have HO4 := Lib.hid (HO3.out.trans (hbd.mono HO3.out.size))
          have hc4 : (w3.drewN nd).cell? ⟨ga, k, none⟩ = some (.int .i64 p) := hc3
          clear hbd HA3 HD hc3 hcell
          generalize w3.drewN nd = w4 at hcv HS4 HB4 HY4 HO4 hc4 ⊢
          have hmu := mutAt_owns HY4.out.1
          have HMU := Lib.hid hmu
          clear hmu
          go_wp2_with fail
          clear hcv
          go_loopg [15] xb.length (fun kx s15 wz => ∃ j : Nat, s15 = .int .i64 j ∧ j ≤ xb.length ∧ xb.length - j ≤ kx ∧ Hid (MutAt wo.heap.size wz A3 xb.length) ∧ Hid (Below wo.heap.size w4 wz))
          case atStart => exact ⟨0, rfl, Nat.zero_le _, by omega, HMU.out, Below.refl _ _⟩
          case round =>
            obtain ⟨j, rfl, hj, hjx, HM, HBz⟩ := hrel
            by_cases hjl : j < xb.length
            · rcases HM.out with h0 | ⟨g, cur, rfl, hgB, hgc, hcur⟩
              · omega
              obtain ⟨m, hm⟩ := hcur j hjl
              have e1 := cell_of_row wr g j _ _ _ hgc
              rw [hm] at e1
              have e2 : wr.frozen? ⟨g, j, none⟩ = false := by simp [World.frozen?, hgc]
              have hj1 : (j : Int) < (xb.length : Int) := by omega
              have HSET := Lib.hid (fun m' => mutAt_set (m := m') hgB hgc hcur hjl)
              clear hgc hcur hm
              go_wp2_with fail
              go_roundg (xb.length - (j + 1))
              case measure => omega
              case rel => exact ⟨j + 1, by go_num, by omega, Nat.le_refl _, HSET.out _, HBz.out.setCell (p := ⟨g, j, none⟩) hgB _⟩
            · obtain rfl : j = xb.length := by omega
              have hz := HBz.out
              have hsz := HBr.out.size
              have hz4 := HB4.out
              have hc5 := (hz.cell (p := ⟨ga, k, none⟩) hga).trans hc4
              have hO5 := HO4.out.trans hz
              have HS5 := Lib.hid (HSr.out.below hO5)
              have HB5 := Lib.hid (HBr.out.trans (hO5.mono hsz))
              clear hc4 HM hz hsz hz4 hO5 HS4 HS3 HB3 HB4 HY3 HY4 HO3 HO4 HBz HMU
              go_wp2_with fail
              refine (floor_at _ _ _ p _ _ HS5.out).mono ?_
              rintro e w6 ⟨hb6, hf6⟩
              rw [HX.out] at hf6
              obtain ⟨A6, c6, rfl, hy6⟩ := hf6
              have hcv6 : (convert 36 9 (.slice A6 xb.length c6)).run Try.prog w6 = .ok (.string ⟨xb.toArray⟩) w6 := run_string_of (P := Try.prog) 36 9 5 Try.underlying36 Try.underlying5 Try.underlying9 _ _ xb _ (bytesIn_owns hy6.1)
              have HS6 := Lib.hid (HS5.out.below hb6)
              have HB6 := Lib.hid (HB5.out.trans (hb6.mono HB5.out.size))
              clear hb6 hy6 HS5 HB5 hc5
              go_wp2_with fail
              go_roundg (L.length - (k + 1))
              case measure => omega
              case rel => exact ⟨k + 1, by go_num, by omega, Nat.le_refl _, HS6.out, HB6.out⟩
    · obtain rfl : k = L.length := by omega
      have hww := Nat.le_trans HB2.out.size HBr.out.size
      have hbw0 := HB2.out.trans (HBr.out.mono HB2.out.size)
      have HW0 := Lib.hid hbw0
      clear HSr HBr HAA HST HG hbw0
      go_wp2_with fail
      refine (new_at 5 _).mono ?_
      rintro e w7 ⟨rfl, h7, hb7⟩
      have HS7 := Lib.hid (show StoreAt w7 wo.heap.size wo.heap.size 5 [] from h7)
      have HB7 := Lib.hid hb7
      have hb70 := HW0.out.trans (hb7.mono hww)
      have HR7 := Lib.hid (HBB.out.below hb70 (Nat.le_refl _))
      clear h7 hb7 hb70
      obtain ⟨i0, hi, hz0, hz1, hz2⟩ := info_parts info5
      have hown := World.ownsRow_made (base := w7.heap.size) (e := 5) (size := 1) w7 #[] 0 (Nat.le_refl _) (by unfold maxLen; omega) rfl
      have HO := Lib.hid hown
      clear hown
      have hap : ∃ Ao co w8, (Builtin.append_ #[36, 36] 36 #[.slice (some ⟨w7.heap.size, 0, none⟩) 0 0, .slice B bs.length d]).run Try.prog (w7.alloc (.cells #[] 5)) = .ok (.slice Ao bs.length co) w8 ∧
          BytesAt w8 w7.heap.size (.slice Ao bs.length co) bs ∧ Below w7.heap.size w7 w8 := by
        rcases HR7.out with rfl | ⟨g, o, rfl, ha1, ha3⟩
        · refine ⟨some ⟨w7.heap.size, 0, none⟩, 0, _, run_append_zero 36 36 5 i0 Try.underlying36 hi _ B 0 0 d (Nat.le_refl _) _, ⟨HO.out, by simp⟩, (Below.refl _ _).alloc (Nat.le_refl _) _⟩
        · obtain ⟨v', w8, hr, ho, hgr, _⟩ := run_append_own (P := Try.prog) (w7.alloc (.cells #[] 5)) w7.heap.size 36 36 5 i0 (.int .u8 0) 1 1 Try.underlying36 hi hz0 hz1 hz2 rfl (by decide) _ 0 [] HO.out ⟨g, o, none⟩ bs.length d (byteVals bs) (by rw [byteVals_length]; simp)
            (fun j u hu => by rw [Addr.add_lit]; exact (((Below.refl w7.heap.size w7).alloc (Nat.le_refl _) _).cell (p := ⟨g, o + j, none⟩) ha1).trans (ha3 j u hu)) (byteVals_one bs) (by unfold maxLen; omega) (by omega) (by simp)
          rw [Nat.zero_add, List.nil_append] at ho
          obtain ⟨Ao, co, rfl⟩ := owns_form ho
          exact ⟨Ao, co, w8, hr, ⟨ho, hbs⟩, ((Below.refl _ _).alloc (Nat.le_refl _) _).grown hgr (by simp) (by intro k hk; injection hk with hk; exact Nat.le_of_eq hk)⟩
      obtain ⟨Ao, co, w8, hr8, hy8, hb8⟩ := hap
      have HRUN := Lib.hid hr8
      have HY8 := Lib.hid hy8
      have HB8 := Lib.hid hb8
      have HS8 := Lib.hid (HS7.out.below hb8)
      clear hr8 hy8 hb8 HO hz0 hz1 hz2 hi HS7
      go_wp2_with (at_builtin; refine Lib.wpList_append_run _ rfl _ _ _ _ rfl _ _ rfl rfl _ _ HRUN.out ?_)
      have hw7 : wo.heap.size ≤ w7.heap.size := HB7.out.size
      refine (put_first _ _ 5 0 _ bs _ HS8.out (bytesIn_owns HY8.out.1) hbs (Nat.le_trans hw7 HB8.out.size) (by decide) (by decide)).mono ?_
      rintro e w9 ⟨rfl, x, v9, k1, k2, k3, k4⟩
      have hy9 := HY8.out.tkeeps k4
      have hown9 : ∀ k, (Value.slice Ao bs.length co).ownBlock = some k → k < w8.heap.size ∧ w7.heap.size ≤ k ∧ ∃ c f, w9.heap[k]? = some (.cells c 5 f) := by
        intro k hk
        rcases HY8.out.1.2 with ⟨hv, _⟩ | ⟨g, cap, cur, hv, hbg, hgg, _⟩
        · rw [hv] at hk; cases hk
        · rw [hv] at hk
          injection hk with hk
          subst hk
          exact ⟨lt_of_heap hgg, hbg, _, _, k4.keep _ _ 5 _ hgg (by decide) (by decide)⟩
      have FIN := Lib.hid (fun (wz : World) (hg : w9.grownBy wz (Value.slice Ao bs.length co).ownBlock) => first_grown (by decide) (by decide) (Nat.le_refl _) (by decide) (by decide) k1 k2 k3 (Nat.le_trans hw7 HB8.out.size) hg (fun k hk => ⟨(hown9 k hk).1, (hown9 k hk).2.2⟩))
      have HOWN := Lib.hid (fun k hk => (hown9 k hk).2.1)
      have hmu := mutAt_owns hy9.1
      have HMU := Lib.hid hmu
      have hb9 := (HB8.out.mono hw7).trans k4.below
      have HB9 := Lib.hid (HB7.out.trans hb9)
      have HR9 := Lib.hid (HW0.out.trans ((HB7.out.trans hb9).mono hww))
      clear hmu hy9 hown9 k1 k2 k3 k4 hb9 HS8 HY8 HB8 HRUN HB7
      go_wp2_with fail
      go_loopg [21] bs.length (fun kx s21 wz => ∃ j : Nat, s21 = .int .i64 j ∧ j ≤ bs.length ∧ bs.length - j ≤ kx ∧ Hid (MutAt w7.heap.size wz Ao bs.length) ∧ Hid (w9.grownBy wz (Value.slice Ao bs.length co).ownBlock))
      case atStart => exact ⟨0, rfl, Nat.zero_le _, by omega, HMU.out, ⟨rfl, rfl, rfl, Nat.le_refl _, fun _ _ _ => rfl⟩⟩
      case round =>
        obtain ⟨j, rfl, hj, hjx, HM, HGz⟩ := hrel
        by_cases hjl : j < bs.length
        · rcases HM.out with h0 | ⟨g, cur, rfl, hgB, hgc, hcur⟩
          · omega
          obtain ⟨m, hm⟩ := hcur j hjl
          have e1 := cell_of_row wr g j _ _ _ hgc
          rw [hm] at e1
          have e2 : wr.frozen? ⟨g, j, none⟩ = false := by simp [World.frozen?, hgc]
          have hj1 : (j : Int) < (bs.length : Int) := by omega
          have HSET := Lib.hid (fun m' => mutAt_set (m := m') hgB hgc hcur hjl)
          have hgrow : ∀ u, w9.grownBy (wr.setCell ⟨g, j, none⟩ u) (some g) := fun u =>
            ⟨HGz.out.os, HGz.out.tape, HGz.out.output, by have := HGz.out.size; simpa [World.setCell] using this, fun k hk hne => by
              have hkg : k ≠ g := fun e => hne (by rw [e])
              rw [Below.heap_setCell wr ⟨g, j, none⟩ u k hkg]
              exact HGz.out.block k hk hne⟩
          have HGR := Lib.hid hgrow
          clear hgc hcur hm hgrow
          go_wp2_with fail
          go_roundg (bs.length - (j + 1))
          case measure => omega
          case rel => exact ⟨j + 1, by go_num, by omega, Nat.le_refl _, HSET.out _, HGR.out _⟩
        · obtain rfl : j = bs.length := by omega
          have hst := FIN.out _ HGz.out
          have hbz : Below w.heap.size w wr := HR9.out.trans ⟨HGz.out.os, HGz.out.tape, HGz.out.output, HGz.out.size, fun k hk => HGz.out.block k (Nat.lt_of_lt_of_le hk HR9.out.size) (fun e => by have := HOWN.out k e.symm; omega)⟩
          have HSTz := Lib.hid hst
          have HBz := Lib.hid hbz
          clear hst hbz HM HGz HMU HB9 HR9 HOWN FIN HR7
          go_wp2_with fail
          refine (floor_at _ _ _ 0 _ _ HSTz.out).mono ?_
          rintro e w10 ⟨hb10, hf10⟩
          rw [show floorS [((0 : Int), bs)] 0 = some (0, bs) from floorS_some (l := [((0 : Int), bs)]) (j := 0) (by simp) (Int.le_refl _) (fun t ht h0 => by simp at ht; omega)] at hf10
          obtain ⟨A10, c10, rfl, hy10⟩ := hf10
          have hb10' := HBz.out.trans (hb10.mono HBz.out.size)
          have hcv1 : (convert 36 9 (.slice A10 bs.length c10)).run Try.prog w10 = .ok (.string ⟨bs.toArray⟩) w10 := run_string_of (P := Try.prog) 36 9 5 Try.underlying36 Try.underlying5 Try.underlying9 _ _ bs _ (bytesIn_owns hy10.1)
          have hcv2 : (convert 36 9 (.slice B bs.length d)).run Try.prog w10 = .ok (.string ⟨bs.toArray⟩) w10 := run_string_R (P := Try.prog) 36 9 5 Try.underlying36 Try.underlying5 Try.underlying9 _ _ bs _ (HBB.out.below hb10' (Nat.le_refl _))
          have HB10 := Lib.hid hb10'
          clear hb10 hb10' hy10 HSTz HBz
          go_wp2_with fail
          refine (lives_any _).mono ?_
          rintro e w11 ⟨rfl, hb11⟩
          have hb12 := HB10.out.trans (hb11.mono HB10.out.size)
          have HB12 := Lib.hid hb12
          clear hb11 hb12
          go_wp2
          go_ret
          exact ⟨rfl, HB12.out⟩

end Go.Proofs.Ytnmjcnlhcddokaa.St
