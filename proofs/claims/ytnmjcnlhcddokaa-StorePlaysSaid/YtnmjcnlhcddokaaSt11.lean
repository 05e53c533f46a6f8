/- slices.Insert of one item ahead of others, into new memory; slices.Insert, whole. -/
import Derived.Test.YtnmjcnlhcddokaaSt10
namespace Go.Proofs.Ytnmjcnlhcddokaa.St
open Go.RowKit
set_option linter.unusedVariables false
set_option linter.unusedSimpArgs false

theorem splice_grow (A Z X B : List Value) (hX : X.length = 2) (hZ : 2 + B.length ≤ Z.length) (k : Nat) (hk : A.length = k * 2) :
    splice (splice (A ++ Z) (k * 2) X) ((k + 1) * 2) B = A ++ (X ++ B) ++ Z.drop (2 + B.length) := by
  unfold splice
  have e1 : (k + 1) * 2 = k * 2 + 2 := by omega
  rw [e1, hX, ← hk, List.take_left]
  have e2 : (A ++ Z).drop (A.length + 2) = Z.drop 2 := by rw [← List.drop_drop, List.drop_left]
  rw [e2]
  have e3 : (A ++ (X ++ Z.drop 2)).take (A.length + 2) = A ++ X := by
    rw [← List.append_assoc, List.take_append_of_le_length (by rw [List.length_append]; omega), List.take_of_length_le (by rw [List.length_append]; omega)]
  have e4 : (A ++ (X ++ Z.drop 2)).drop (A.length + 2 + B.length) = Z.drop (2 + B.length) := by
    have : A.length + 2 + B.length = (A ++ X).length + B.length := by rw [List.length_append, hX]
    rw [this, ← List.append_assoc, ← List.drop_drop, List.drop_left, List.drop_drop]
  rw [e3, e4]
  simp [List.append_assoc]

set_option maxHeartbeats 2000000 in
theorem insert_mid_grow (base g cap gx i : Nat) (x : Im) (L : List Im) (cur : Array Value) (w : World) (hI : ItemsAt w g L) (hO : OneAll L) (hg : w.heap[g]? = some (.cells cur 54 (0, 0))) (hb : base ≤ w.heap.size)
    (hx : One w gx x) (hgx : gx < w.heap.size) (hx1 : x.2.oneCell' = true) (hn : L.length ≤ 100000) (hc : L.length ≤ cap) (hcap : cap < L.length + 1) (hi1 : i < L.length) :
    Calls Try.prog 20 #[.slice (some ⟨g, 0, none⟩) L.length cap, .int .i64 i, .slice (some ⟨gx, 0, none⟩) 1 1] w (Inserted w base (.slice (some ⟨g, 0, none⟩) L.length cap) (L.take i ++ x :: L.drop i)) := by
  obtain ⟨i0, hi, hz0, hz1, hz2⟩ := info_parts info54
  have hgl := lt_of_heap hg
  have hcast : ((L.length + 1 - i : Nat) : Int) = (L.length : Int) + 1 - (i : Int) := by omega
  have hil : i + (L.length + 1 - i) = L.length + 1 := by omega
  have hrun := run_append_zeros_grow (P := Try.prog) w 47 3 47 54 i0 _ .i64 .i64 Try.underlying47 Try.underlying3 hi hz0 ⟨g, 0, none⟩ i cap (vals (L.take i)) (by rw [vals_length, List.length_take, hz1]; omega)
    (fun j u hj => by rw [add_lit]; exact itemsAt_iff.1 (hI.take i) j u hj) (L.length + 1 - i) (by omega) (by omega) (by omega) (by omega) (growslice_fits (by omega) (by rw [hz2]; omega)) (by rw [hz2]; omega)
  rw [hcast, hil] at hrun
  have hC := grownCap_ge w (L.length + 1) cap 54
  have hCm := grownCap_le_maxLen w (L.length + 1) cap 54 (by unfold maxLen; omega)
  generalize grownCap w (L.length + 1) cap 54 = C at hrun hC hCm
  unfold maxLen at hCm
  obtain ⟨Z, hZ⟩ : ∃ Z : List Value, Z = (Builtin.zeroCells (Value.agg #[.int .i64 0, .slice none 0 0]).cells (L.length + 1 - i) ++ Builtin.zeroCells (Value.agg #[.int .i64 0, .slice none 0 0]).cells (C - (L.length + 1))).toList := ⟨_, rfl⟩
  have hZl : Z.length = (C - i) * 2 := by
    rw [hZ]
    simp only [Array.length_toList, Array.size_append, size_zeroCells, Value.cells, List.size_toArray, List.length_cons, List.length_nil]
    omega
  have hblk : (vals (L.take i)).toArray ++ Builtin.zeroCells (Value.agg #[.int .i64 0, .slice none 0 0]).cells (L.length + 1 - i) ++ Builtin.zeroCells (Value.agg #[.int .i64 0, .slice none 0 0]).cells (C - (L.length + 1)) = (vals (L.take i) ++ Z).toArray := by
    rw [hZ]
    simp [Array.append_assoc]
  rw [hblk] at hrun
  obtain ⟨W1, hW1⟩ : ∃ W1, W1 = w.drew.alloc (.cells (vals (L.take i) ++ Z).toArray 54) := ⟨_, rfl⟩
  rw [← hW1] at hrun
  have b1 : Below w.heap.size w W1 := by rw [hW1]; exact ((Below.refl _ _).drew).alloc (Nat.le_refl _) _
  have g1 : W1.heap[w.heap.size]? = some (.cells (vals (L.take i) ++ Z).toArray 54 (0, 0)) := by rw [hW1]; exact heap_alloc_new w.drew _
  have hA : (vals (L.take i)).length = i * 2 := by rw [vals_length, List.length_take]; omega
  have hB : (vals (L.drop i)).length = (L.length - i) * 2 := by rw [vals_length, List.length_drop]
  have hX : (vals [x]).length = 2 := by rw [vals_length]; rfl
  obtain ⟨W2, hW2⟩ : ∃ W2, W2 = W1.setRow w.heap.size (splice (vals (L.take i) ++ Z) (i * 2) (vals [x])).toArray := ⟨_, rfl⟩
  have g2 : W2.heap[w.heap.size]? = some (.cells (splice (vals (L.take i) ++ Z) (i * 2) (vals [x])).toArray 54 (0, 0)) := by rw [hW2]; exact setRow_new g1
  have b2 : Below w.heap.size w W2 := by rw [hW2]; exact below_setRow b1 (Nat.le_refl _) _
  obtain ⟨W3, hW3⟩ : ∃ W3, W3 = W2.drew.setRow w.heap.size (splice (splice (vals (L.take i) ++ Z) (i * 2) (vals [x])) ((i + 1) * 2) (vals (L.drop i))).toArray := ⟨_, rfl⟩
  have hsl : (splice (vals (L.take i) ++ Z) (i * 2) (vals [x])).length = (vals (L.take i) ++ Z).length := length_splice _ _ _ (by rw [hX, List.length_append]; omega)
  have hsp := splice_grow (vals (L.take i)) Z (vals [x]) (vals (L.drop i)) hX (by omega) i hA
  have g3 : W3.heap[w.heap.size]? = some (.cells (vals (L.take i ++ x :: L.drop i) ++ Z.drop (2 + (vals (L.drop i)).length)).toArray 54 (0, 0)) := by
    rw [hW3, vals_append, show vals (x :: L.drop i) = vals [x] ++ vals (L.drop i) from rfl, ← hsp]
    exact setRow_new (w := W2.drew) g2
  have b3 : Below w.heap.size w W3 := by rw [hW3]; exact below_setRow b2.drew (Nat.le_refl _) _
  have fin : Row W3 base (.slice (some ⟨w.heap.size, 0, none⟩) (L.length + 1) C) (L.take i ++ x :: L.drop i) := by
    have hl : (L.take i ++ x :: L.drop i).length = L.length + 1 := by simp only [List.length_append, List.length_cons, List.length_take, List.length_drop]; omega
    exact .inr ⟨w.heap.size, C, _, by rw [hl], hb, g3, by omega, by omega, by simp only [List.size_toArray, List.length_append, vals_length, hl, List.length_drop, hB, hZl]; omega, items_of_block g3⟩
  have x1 : One W1 gx x := fun j u hu => (b1.cell (by rw [add_lit]; exact hgx)).trans (hx j u hu)
  have d2 : ∀ j v, (vals (L.drop i))[j]? = some v → W2.drew.cell? ((⟨g, i * 2, none⟩ : Addr).add j) = some v := (hI.below b2 hgl).dropped i
  have H1 := Lib.hid (vals_one (L := L.drop i) fun y hy => hO y (List.mem_of_mem_drop hy))
  have H2 := Lib.hid (vals_one (L := [x]) (by simpa using hx1))
  have HR := Lib.hid hrun
  have G1 := Lib.hid g1
  have G2 := Lib.hid (show W2.drew.heap[w.heap.size]? = some (.cells (splice (vals (L.take i) ++ Z) (i * 2) (vals [x])).toArray 54 (0, 0)) from g2)
  have X1 := Lib.hid x1
  have D2 := Lib.hid d2
  have FIN := Lib.hid fin
  have B3 := Lib.hid b3
  have HW2 := Lib.hid hW2
  have HW3 := Lib.hid hW3
  have HBl := Lib.hid hB
  have HXl := Lib.hid hX
  have F1 := Lib.hid (show i * 2 + (vals [x]).length ≤ (vals (L.take i) ++ Z).length by rw [hX, List.length_append, hA, hZl]; omega)
  have F2 := Lib.hid (show (i + 1) * 2 + (vals (L.drop i)).length ≤ (splice (vals (L.take i) ++ Z) (i * 2) (vals [x])).length by rw [hsl, hB, List.length_append, hA, hZl]; omega)
  have hb1 : (0 : Int) ≤ (i : Int) + 1 := by omega
  have hb2 : ¬ (C = i + 1) := by omega
  have hb3 : (i : Int) ≤ (L.length : Int) + 1 := by omega
  have hb4 : ¬ (C = i) := by omega
  have hb5 : (i : Int) + 1 ≤ (L.length : Int) + 1 := by omega
  have hb6 : ¬ (cap = i) := by omega
  have hb7 : i ≤ L.length := by omega
  have hb8 : (i : Int) ≤ (L.length : Int) := by omega
  have hw1 : IntKind.i64.wrap ((i : Int) + 1) = (i : Int) + 1 := IntWalk.i64_in _ (by omega)
  clear hI hO hg hx hx1 hrun hW1 g1 b1 hW2 g2 b2 hW3 g3 b3 fin x1 d2 hZ hblk hsp hsl hA hB hX hcast hil
  go_enter Try.func20, Try.ntmps20
  go_wp2_with (first | (at_builtin; refine Lib.wpList_append_run _ rfl _ _ _ _ rfl _ _ rfl rfl _ _ HR.out ?_) | (refine wpList_copy_rows rfl (.tmp 43) (.tmp 44) 47 47 rfl 54 i0 Try.underlying47 hi w.heap.size (i * 2) (L.length + 1 - i) (C - i) ⟨gx, 0, none⟩ 1 1 1 rfl rfl (vals (L.take i) ++ Z) 54 G1.out (vals [x]) (by simp only [Nat.min_def]; split <;> omega) (by rw [hz1]; rfl) X1.out F1.out H2.out ?_; rw [← HW2.out]))
  go_region_law (refine step_copy_rows rfl (.tmp 50) (.tmp 53) 47 47 rfl 54 i0 Try.underlying47 hi w.heap.size ((i + 1) * 2) (L.length - i) (C - (i + 1)) ⟨g, i * 2, none⟩ (L.length - i) (cap - i) (L.length - i) (by simp [Act.eval, Act.put]) (by simp [Act.eval, Act.put]) (splice (vals (L.take i) ++ Z) (i * 2) (vals [x])) 54 G2.out (vals (L.drop i)) (by simp only [Nat.min_def]; split <;> omega) (by rw [HBl.out, hz1]) D2.out F2.out H1.out ?_; rw [← HW3.out])
  go_wp2
  go_ret
  exact ⟨_, rfl, FIN.out, ⟨B3.out.os, B3.out.tape, B3.out.output, B3.out.size, fun k hk _ => B3.out.block k hk⟩, fun k hk => .inr (by injection hk with hk; exact Nat.le_of_eq hk)⟩

/-- slices.Insert of one item, whole. -/
theorem insert_any (base gx i : Nat) (v : Value) (x : Im) (L : List Im) (cx : Array Value) (w : World) (hr : Row w base v L) (hO : OneAll L) (hb : base ≤ w.heap.size)
    (hx : One w gx x) (hgx : w.heap[gx]? = some (.cells cx 54 (0, 0))) (hne : ∀ g, v.ownBlock = some g → gx ≠ g) (hx1 : x.2.oneCell' = true) (hn : L.length ≤ 100000) (hi : i ≤ L.length) :
    Calls Try.prog 20 #[v, .int .i64 i, .slice (some ⟨gx, 0, none⟩) 1 1] w (Inserted w base v (L.take i ++ x :: L.drop i)) := by
  rcases hr with ⟨rfl, rfl⟩ | ⟨g, cap, cur, rfl, hbg, hg, hc, hcm, hcs, hI⟩
  · obtain rfl : i = 0 := by simpa using hi
    exact insert_nil base gx x w hx hx1 hb
  · have hgne : gx ≠ g := hne g rfl
    by_cases hend : i = L.length
    · subst hend
      rw [List.take_length, List.drop_length]
      by_cases hcap : L.length + 1 ≤ cap
      · exact insert_end_room base g cap gx x L cur w hI hg hbg hcs hx hx1 hb hn hc hcm hcap
      · exact insert_end_grow base g cap gx x L cur w hI hg hx hx1 hb hn hc (by omega)
    · by_cases hcap : L.length + 1 ≤ cap
      · exact insert_mid_room base g cap gx i x L cur cx w hI hO hg hbg hcs hcm hx hgx hgne hx1 hn hcap (by omega)
      · exact insert_mid_grow base g cap gx i x L cur w hI hO hg hb hx (lt_of_heap hgx) hx1 hn hc (by omega) (by omega)

end Go.Proofs.Ytnmjcnlhcddokaa.St
