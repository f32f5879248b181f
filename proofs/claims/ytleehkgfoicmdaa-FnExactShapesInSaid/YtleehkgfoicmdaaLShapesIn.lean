/-
  Law FnExactShapesIn: for every input the program's ShapesIn and the reference's return the same. No condition. Written by a program of ours (lawgen.py).
-/
import Derived.Test.YtleehkgfoicmdaaShapesIn
namespace Go.Proofs.Ytleehkgfoicmdaa
open Go.RowKit

set_option maxHeartbeats 3200000 in
theorem lawShapesIn_walk (w : World) (x0 : Int) (hx0 : (Lit.int .i64 x0).wf = true) (x1 : Int) (hx1 : (Lit.int .i64 x1).wf = true) :
    Calls Try.prog 6 #[.int .i64 x0, .int .i64 x1] w fun e w' => e = .returned (.bool true) ∧ Below w.heap.size w w' := by
  obtain ⟨hl0, hu0⟩ : -9223372036854775808 ≤ x0 ∧ x0 ≤ 9223372036854775807 := wf_bounds hx0
  clear hx0
  obtain ⟨hl1, hu1⟩ : -9223372036854775808 ≤ x1 ∧ x1 ≤ 9223372036854775807 := wf_bounds hx1
  clear hx1
  go_enter Try.func6, Try.ntmps6
  have hB0 : Below w.heap.size w w := Below.refl _ _
  obtain ⟨L0, hL0⟩ : ∃ L, List.length (shapesIn x0 x1) = L := ⟨_, rfl⟩
  have hLb0 : L0 ≤ 1048576 := by rw [← hL0]; exact (Nat.le_trans (shapesIn_few x0 x1).1 (by omega))
  have HL0 := Lib.hid hL0; clear hL0
  obtain ⟨Z0, hZ0⟩ : ∃ Z, sz_II (shapesIn x0 x1) = Z := ⟨_, rfl⟩
  have hZb0 : Z0 ≤ 1099511627776 := by rw [← hZ0]; exact (Nat.le_trans (shapesIn_few x0 x1).2.1 (by omega))
  have HZ0 := Lib.hid hZ0; clear hZ0
  go_wp2_with fail
  refine (specShapesIn_any _ _ _ hl0 hu0 hl1 hu1).mono ?_
  rintro e w1 ⟨aw0, nw0, cw0, rfl, ow0, hb1⟩
  have hB1 := hB0.trans (hb1.mono hB0.size)
  have hsz1 : w.heap.size ≤ w1.heap.size := hb1.size
  obtain rfl : L0 = nw0 := by rw [← HL0.out]; exact ow0.len
  go_wp2_with fail
  refine (implShapesIn_any _ _ _ hl0 hu0 hl1 hu1).mono ?_
  rintro e w2 ⟨ag0, ng0, cg0, rfl, og0, hb2⟩
  have hB2 := hB1.trans (hb2.mono hB1.size)
  have hsz2 : w1.heap.size ≤ w2.heap.size := hb2.size
  have ow0_2 := ow0.below hb2; clear ow0
  obtain rfl : L0 = ng0 := by rw [← HL0.out]; exact og0.len
  go_wp2_with fail
  refine (is (eq_II _ _ _ _ _ _ _ _ _ og0.rd ow0_2.rd HL0.out HL0.out (by omega) (shapesIn_few x0 x1).2.2) (by simp : _ = true)).mono ?_
  rintro e w3 ⟨rfl, hd3⟩
  have hb3 : Below w2.heap.size w2 w3 := hd3.below _
  have hB3 := hB2.trans (hb3.mono hB2.size)
  have hsz3 : w2.heap.size ≤ w3.heap.size := hb3.size
  have ow0_3 := ow0_2.below hb3; clear ow0_2
  have og0_3 := og0.below hb3; clear og0
  go_wp2_with fail
  refine (mark_II w1.heap.size w2.heap.size _ _ _ _ _ _ og0_3 (by omega) (by omega) (by omega) HZ0.out (by omega)).mono ?_
  rintro e w4 ⟨rfl, mg0, ho4⟩
  have hB4 := ho4.below hB3 (by omega) (by omega)
  have hsz4 : w3.heap.size ≤ w4.heap.size := ho4.size
  have ow0_4 := ow0_3.only ho4 (by omega); clear ow0_3
  go_wp2_with fail
  refine (held_II _ _ _ _ _ _ mg0 (by omega) (by omega) (by omega) HZ0.out (by omega)).mono ?_
  rintro e w5 ⟨rfl, hd5⟩
  have hb5 : Below w4.heap.size w4 w5 := hd5.below _
  have hB5 := hB4.trans (hb5.mono hB4.size)
  have hsz5 : w4.heap.size ≤ w5.heap.size := hb5.size
  have ow0_5 := ow0_4.below hb5; clear ow0_4
  have og0_5 := mg0.below hb5; clear mg0
  go_wp2_with fail
  refine (implShapesIn_any _ _ _ hl0 hu0 hl1 hu1).mono ?_
  rintro e w6 ⟨ah0, nh0, ch0, rfl, oh0, hb6⟩
  have hB6 := hB5.trans (hb6.mono hB5.size)
  have hsz6 : w5.heap.size ≤ w6.heap.size := hb6.size
  have ow0_6 := ow0_5.below hb6; clear ow0_5
  have og0_6 := og0_5.below hb6; clear og0_5
  obtain rfl : L0 = nh0 := by rw [← HL0.out]; exact oh0.len
  go_wp2_with fail
  refine (is (eq_II _ _ _ _ _ _ _ _ _ oh0.rd ow0_6.rd HL0.out HL0.out (by omega) (shapesIn_few x0 x1).2.2) (by simp : _ = true)).mono ?_
  rintro e w7 ⟨rfl, hd7⟩
  have hb7 : Below w6.heap.size w6 w7 := hd7.below _
  have hB7 := hB6.trans (hb7.mono hB6.size)
  have hsz7 : w6.heap.size ≤ w7.heap.size := hb7.size
  have ow0_7 := ow0_6.below hb7; clear ow0_6
  have og0_7 := og0_6.below hb7; clear og0_6
  have oh0_7 := oh0.below hb7; clear oh0
  go_wp2_with fail
  refine (held_II _ _ _ _ _ _ og0_7 (by omega) (by omega) (by omega) HZ0.out (by omega)).mono ?_
  rintro e w8 ⟨rfl, hd8⟩
  have hb8 : Below w7.heap.size w7 w8 := hd8.below _
  have hB8 := hB7.trans (hb8.mono hB7.size)
  have hsz8 : w7.heap.size ≤ w8.heap.size := hb8.size
  have ow0_8 := ow0_7.below hb8; clear ow0_7
  have og0_8 := og0_7.below hb8; clear og0_7
  have oh0_8 := oh0_7.below hb8; clear oh0_7
  go_wp2
  go_ret
  exact ⟨rfl, hB8⟩
end Go.Proofs.Ytleehkgfoicmdaa
