/- What stays as it was; drop: an item is taken out. -/
import Derived.Test.YtnmjcnlhcddokaaSt6
namespace Go.Proofs.Ytnmjcnlhcddokaa.St
open Go.RowKit
set_option linter.unusedVariables false
set_option linter.unusedSimpArgs false

/-- Below base nothing turns; elsewhere the blocks of S alone. -/
structure Keeps (S : Nat → Prop) (base : Nat) (w w' : World) : Prop where
  below : Below base w w'
  keep : ∀ (k : Nat) (o : Obj), w.heap[k]? = some o → ¬ S k → w'.heap[k]? = some o
theorem Keeps.refl (S : Nat → Prop) (base : Nat) (w : World) : Keeps S base w w := ⟨Below.refl _ _, fun _ _ h _ => h⟩
theorem Keeps.trans {S : Nat → Prop} {base : Nat} {a b c : World} (h : Keeps S base a b) (k : Keeps S base b c) : Keeps S base a c :=
  ⟨h.below.trans k.below, fun i o hi hs => k.keep i o (h.keep i o hi hs) hs⟩
theorem Keeps.mono {S S' : Nat → Prop} {base : Nat} {a b : World} (h : Keeps S base a b) (hs : ∀ k, S k → S' k) : Keeps S' base a b :=
  ⟨h.below, fun i o hi hn => h.keep i o hi (fun e => hn (hs i e))⟩
theorem Keeps.of_below {S : Nat → Prop} {base : Nat} {w w' : World} (h : Below w.heap.size w w') (hb : base ≤ w.heap.size) : Keeps S base w w' :=
  ⟨h.mono hb, fun k o hk _ => (h.block k (lt_of_heap hk)).trans hk⟩
theorem heap_set_same {w : World} {g j : Nat} {c : Array Value} {e : TypeId} {f : Nat × Nat} (h : w.heap[g]? = some (.cells c e f)) (v : Value) :
    (w.setCell ⟨g, j, none⟩ v).heap[g]? = some (.cells (c.setIfInBounds j v) e f) := by
  simp [World.setCell, Array.getElem?_modify, h]
theorem Keeps.set {S : Nat → Prop} {base : Nat} {w : World} {g j : Nat} (hS : S g) (hb : base ≤ g) (v : Value) : Keeps S base w (w.setCell ⟨g, j, none⟩ v) :=
  ⟨(Below.refl _ _).setCell (p := ⟨g, j, none⟩) hb v, fun k o hk hn => by
    have hne : k ≠ g := by
      rintro rfl
      exact hn hS
    rw [Below.heap_setCell w ⟨g, j, none⟩ v k hne]
    exact hk⟩
theorem ItemsAt.same {w w' : World} {g : Nat} {L : List Im} (h : ItemsAt w g L) (hg : w'.heap[g]? = w.heap[g]?) : ItemsAt w' g L := by
  intro t ht
  rw [World.cell?_of_block (a := ⟨g, t * 2, none⟩) hg, World.cell?_of_block (a := ⟨g, t * 2 + 1, none⟩) hg]
  exact h t ht

set_option maxHeartbeats 1000000 in
theorem drop_last (s g cap i : Nat) (most : Int) (w : World)
    (hs : w.heap[s]? = some (.cells #[.int .i64 most, .slice (some ⟨g, 0, none⟩) (i + 1) cap] 49 (0, 0)))
    (hc : i + 1 ≤ cap) (hm : cap ≤ 9223372036854775807) (hn : i ≤ 100000) :
    Calls Try.prog 23 #[.pointer (some ⟨s, 0, none⟩), .int .i64 i] w fun e w' => e = .returned (.tuple #[]) ∧ ∃ n, w' = (w.setCell ⟨s, 1, none⟩ (.slice (some ⟨g, 0, none⟩) i i)).drewN n := by
  have h0 : w.cell? ⟨s, 0, none⟩ = some (.int .i64 most) := cell_of_row w s 0 _ _ _ hs
  have h1 : w.cell? ⟨s, 1, none⟩ = some (.slice (some ⟨g, 0, none⟩) (i + 1) cap) := cell_of_row w s 1 _ _ _ hs
  have f1 : w.frozen? ⟨s, 1, none⟩ = false := by simp [World.frozen?, hs]
  obtain ⟨i0, hi, hz0, hz1, hz2⟩ := info_parts info54
  have hic : i ≤ cap := by omega
  have h0i : 0 ≤ (i : Int) + 1 := by omega
  have hwr : IntKind.i64.wrap ((i : Int) + 1) = (i : Int) + 1 := IntWalk.i64_in _ (by omega)
  clear hs hz0 hz1 hz2
  go_enter Try.func23, Try.ntmps23
  go_wp2
  go_region_law (refine step_append_zero rfl (.tmp 11) (.tmp 18) 47 rfl 54 i0 Try.underlying47 hi (some ⟨g, 0, none⟩) _ i i _ rfl rfl (Nat.le_refl _) ?_)
  all_goals go_end0
  all_goals exact ⟨rfl, 1, rfl⟩


def OneAll (L : List Im) : Prop := ∀ x ∈ L, x.2.oneCell' = true

set_option maxHeartbeats 1000000 in
theorem drop_mid (base s g cap i : Nat) (most : Int) (L : List Im) (cur : Array Value) (w : World) (hI : ItemsAt w g L) (hO : OneAll L)
    (hs : w.heap[s]? = some (.cells #[.int .i64 most, .slice (some ⟨g, 0, none⟩) L.length cap] 49 (0, 0))) (hg : w.heap[g]? = some (.cells cur 54 (0, 0)))
    (hc : L.length ≤ cap) (hm : cap ≤ 9223372036854775807) (hn : L.length ≤ 100001) (hi1 : i + 1 < L.length) (hbs : base ≤ s) (hbw : base ≤ w.heap.size) :
    Calls Try.prog 23 #[.pointer (some ⟨s, 0, none⟩), .int .i64 i] w fun e w' => e = .returned (.tuple #[]) ∧
      ∃ v', w'.heap[s]? = some (.cells #[.int .i64 most, v'] 49 (0, 0)) ∧ Row w' w.heap.size v' (L.take i ++ L.drop (i + 1)) ∧ Keeps (fun k => k = s) base w w' := by
  have h0 : w.cell? ⟨s, 0, none⟩ = some (.int .i64 most) := cell_of_row w s 0 _ _ _ hs
  have h1 : w.cell? ⟨s, 1, none⟩ = some (.slice (some ⟨g, 0, none⟩) L.length cap) := cell_of_row w s 1 _ _ _ hs
  have f1 : w.frozen? ⟨s, 1, none⟩ = false := by simp [World.frozen?, hs]
  obtain ⟨i0, hi, hz0, hz1, hz2⟩ := info_parts info54
  have hic : i ≤ cap := by omega
  have h0i : 0 ≤ (i : Int) + 1 := by omega
  have h0l : (i : Int) + 1 ≤ (L.length : Int) := by omega
  have hne : ¬ cap = i + 1 := by omega
  have hwr : IntKind.i64.wrap ((i : Int) + 1) = (i : Int) + 1 := IntWalk.i64_in _ (by omega)
  have hsl := lt_of_heap hs
  have hgl := lt_of_heap hg
  have A1 : (vals (L.take i)).length = i * 2 := by rw [vals_length, List.length_take]; omega
  have A2 : ∀ b, some (⟨g, 0, none⟩ : Addr) = some b → ∀ j u, (vals (L.take i))[j]? = some u → w.drew.cell? (b.add j) = some u := by
    rintro b hb j u hu
    injection hb with hb
    subst hb
    rw [add_lit]
    exact itemsAt_iff.1 (hI.take i) j u hu
  have A3 : (vals (L.drop (i + 1))).length = (L.length - (i + 1)) * 2 := by rw [vals_length, List.length_drop]
  have A4 : ∀ j u, (vals (L.drop (i + 1)))[j]? = some u → w.drew.cell? ((⟨g, (i + 1) * 2, none⟩ : Addr).add j) = some u := hI.dropped (i + 1)
  have A5 : ∀ u ∈ vals (L.drop (i + 1)), u.oneCell' = true := vals_one fun x hx => hO x (List.mem_of_mem_drop hx)
  have H1 := Lib.hid A1
  have H2 := Lib.hid A2
  have H3 := Lib.hid A3
  have H4 := Lib.hid A4
  have H5 := Lib.hid A5
  have HS := Lib.hid hs
  clear A1 A2 A3 A4 A5 hs hI hO hg
  have fin : ∀ (v' : Value) (w1 : World), w1.ownsRow w.drew.heap.size 54 2 v' (i + (L.length - (i + 1))) (vals (L.take i) ++ vals (L.drop (i + 1))) → w.drew.grownBy w1 none →
      ∃ v'', (w1.setCell ⟨s, 1, none⟩ v').heap[s]? = some (.cells #[.int .i64 most, v''] 49 (0, 0)) ∧ Row (w1.setCell ⟨s, 1, none⟩ v') w.heap.size v'' (L.take i ++ L.drop (i + 1)) ∧ Keeps (fun k => k = s) base w (w1.setCell ⟨s, 1, none⟩ v') := by
    intro v' w1 hown hgrow
    have hs1 : w1.heap[s]? = some (.cells #[.int .i64 most, .slice (some ⟨g, 0, none⟩) L.length cap] 49 (0, 0)) := (hgrow.block s hsl (by simp)).trans HS.out
    have hk1 : Keeps (fun k => k = s) base w w1 := Keeps.of_below (((Below.refl _ _).drew).grown hgrow (Nat.le_refl _) (fun k hk => by cases hk)) hbw
    rw [← vals_append] at hown
    have hlen : i + (L.length - (i + 1)) = (L.take i ++ L.drop (i + 1)).length := by simp only [List.length_append, List.length_take, List.length_drop]; omega
    rw [hlen] at hown
    refine ⟨v', heap_set_same hs1 v', ?_, hk1.trans (Keeps.set (S := fun k => k = s) rfl hbs v')⟩
    rcases row_of_owns hown with h | ⟨gn, capn, curn, hv, hb, hgn, hl, hcm', hcn, hIn⟩
    · exact .inl h
    · have hne : gn ≠ s := by have : s < w.drew.heap.size := hsl; omega
      have hst : (w1.setCell ⟨s, 1, none⟩ v').heap[gn]? = w1.heap[gn]? := Below.heap_setCell w1 ⟨s, 1, none⟩ v' gn hne
      exact .inr ⟨gn, capn, curn, hv, hb, hst.trans hgn, hl, hcm', hcn, hIn.same hst⟩
  have FIN := Lib.hid fin
  clear fin
  go_enter Try.func23, Try.ntmps23
  go_wp2
  go_region_law (refine step_append_grows rfl (.tmp 11) (.tmp 18) 47 rfl 54 i0 _ 2 32 Try.underlying47 hi hz0 hz1 hz2 rfl (by decide) (some ⟨g, 0, none⟩) i i (vals (L.take i)) rfl (by simp) H1.out H2.out ⟨g, (i + 1) * 2, none⟩ (L.length - (i + 1)) _ (vals (L.drop (i + 1))) rfl H3.out H4.out H5.out (by omega) (by unfold maxLen; omega) (by omega) ?_; intro v' w1 hown hgrow; obtain ⟨gn, capn, hv, hgb, hgn⟩ := hown.form (by omega); rw [hv] at hown ⊢; have HO' := Lib.hid hown; have HG := Lib.hid hgrow; have g1 : w1.cell? ⟨s, 1, none⟩ = some (.slice (some ⟨g, 0, none⟩) L.length cap) := hgrow.cell h1 (by simp); have g2 : w1.frozen? ⟨s, 1, none⟩ = false := (hgrow.frozen_far ⟨s, 1, none⟩ hsl (by simp)).trans f1; clear hown hgrow hv)
  all_goals go_end0
  all_goals exact ⟨rfl, FIN.out _ _ HO'.out HG.out⟩

theorem Keeps.drewN {S : Nat → Prop} {base : Nat} {a b : World} (h : Keeps S base a b) (n : Nat) : Keeps S base a (b.drewN n) :=
  ⟨below_drewN h.below n, fun k o hk hn => h.keep k o hk hn⟩
/-- drop, whole. -/
theorem drop_any (base s k : Nat) (most : Int) (v : Value) (M : List Im) (w : World) (hs : w.heap[s]? = some (.cells #[.int .i64 most, v] 49 (0, 0))) (hr : Row w base v M) (hO : OneAll M) (hn : M.length ≤ 100000) (hk : k < M.length) (hbs : base ≤ s) (hbw : base ≤ w.heap.size) :
    Calls Try.prog 23 #[.pointer (some ⟨s, 0, none⟩), .int .i64 k] w fun e w' => e = .returned (.tuple #[]) ∧
      ∃ v', w'.heap[s]? = some (.cells #[.int .i64 most, v'] 49 (0, 0)) ∧ Row w' base v' (M.take k ++ M.drop (k + 1)) ∧ Keeps (fun k => k = s) base w w' ∧ NewRow w v v' := by
  rcases hr with ⟨rfl, rfl⟩ | ⟨g, cap, cur, rfl, hbg, hg, hc, hcm, hcs, hI⟩
  · simp at hk
  · by_cases hl : k + 1 = M.length
    · rw [← hl] at hs hc
      refine (drop_last s g cap k most w hs hc hcm (by omega)).mono ?_
      rintro e w' ⟨rfl, n, rfl⟩
      have hne : g ≠ s := by
        rintro rfl
        rw [hg] at hs
        injection hs with hs
        injection hs with _ hs
        exact absurd hs (by decide)
      have hst := Below.heap_setCell w ⟨s, 1, none⟩ (.slice (some ⟨g, 0, none⟩) k k) g hne
      have hd : M.take k ++ M.drop (k + 1) = M.take k := by rw [List.drop_of_length_le (by omega), List.append_nil]
      have hlt : (M.take k).length = k := by rw [List.length_take]; omega
      refine ⟨rfl, .slice (some ⟨g, 0, none⟩) k k, ?_, ?_, (Keeps.set (S := fun k => k = s) rfl hbs _).drewN n, fun k hk => .inl hk⟩
      · exact heap_set_same (j := 1) hs (.slice (some ⟨g, 0, none⟩) k k)
      · rw [hd]
        exact .inr ⟨g, k, cur, by rw [hlt], hbg, hst.trans hg, by omega, by omega, by omega, (hI.take k).same hst⟩
    · refine (drop_mid base s g cap k most M cur w hI hO hs hg hc hcm (by omega) (by omega) hbs hbw).mono ?_
      rintro e w' ⟨rfl, v', h1, h2, h3⟩
      refine ⟨rfl, v', h1, ?_, h3, fun k hk => .inr (row_block h2 k hk).1⟩
      rcases h2 with h2 | ⟨gn, capn, curn, hv, hb, rest⟩
      · exact .inl h2
      · exact .inr ⟨gn, capn, curn, hv, Nat.le_trans hbw hb, rest⟩

end Go.Proofs.Ytnmjcnlhcddokaa.St
