/-
  Law FnExactLadderMoves: for every input the program's LadderMoves and the reference's return the same. No condition. Written by a program of ours (lawgen.py).
-/
import Derived.Test.YtageojkepoejiaaLadBd
import Derived.Test.YtageojkepoejiaaBuA
namespace Go.Proofs.Ytageojkepoejiaa
open Go.RowKit

set_option maxHeartbeats 3200000 in
theorem lawLadderMoves_walk (w : World) (x0 : Int) (hx0 : (Lit.int .i64 x0).wf = true) (a1 : Option Addr) (n1 c1 : Nat) (x1 : List (Int × Int)) (hr1 : RC w a1 x1) (hn1 : x1.length = n1) (hb1 : Wide_C n1 x1) (_hz1 : Wf_C x1) :
    Calls Try.prog 4 #[.int .i64 x0, .slice a1 n1 c1] w fun e w' => e = .returned (.bool true) ∧ Below w.heap.size w w' := by
  have Hn1 := Lib.hid hn1; clear hn1
  obtain ⟨hl0, hu0⟩ : -9223372036854775808 ≤ x0 ∧ x0 ≤ 9223372036854775807 := wf_bounds hx0
  clear hx0
  obtain ⟨m1, hm1⟩ : ∃ m, ms_C x1 = m := ⟨_, rfl⟩
  have HM1 := Lib.hid hm1
  by_cases hbig : (1048576 : Int) < (m1 : Int)
  · have hq := Lib.hid (leftOf_lt hbig)
    clear hm1
    go_enter Try.func4, Try.ntmps4
    go_wp2_with fail
    refine (isInt (szl_C _ _ _ x1 1048576 _ hr1 Hn1.out (by omega) (by omega) hb1) (by rw [HM1.out, hq.out])).mono ?_
    rintro e w1 ⟨rfl, rfl⟩
    go_wp2
    go_ret
    exact ⟨rfl, Below.refl _ _⟩
  have hnb1 : n1 ≤ 1048576 := by have := ms_C_len x1; have := Hn1.out; omega
  obtain ⟨Zx1, hZx1⟩ : ∃ Z, sz_C x1 = Z := ⟨_, rfl⟩
  have hZxb1 : Zx1 ≤ 2097152 := by have := ms_C_sz x1; omega
  have HS1 := Lib.hid (ms_C_short x1 (by omega))
  have HZx1 := Lib.hid hZx1; clear hZx1 hm1
  obtain ⟨q0, hq0⟩ : ∃ q : Nat, leftOf 1048576 (m1 : Int) = (q : Int) := ⟨1048576 - m1, by rw [leftOf_ge hbig]; omega⟩
  have HQ0 := Lib.hid hq0; clear hq0
  go_enter Try.func4, Try.ntmps4
  have hB0 : Below w.heap.size w w := Below.refl _ _
  go_wp2_with fail
  refine (isInt (szl_C _ _ _ x1 1048576 _ hr1 Hn1.out (by omega) (by omega) hb1) (by rw [HM1.out, HQ0.out])).mono ?_
  rintro e w1 ⟨rfl, rfl⟩
  obtain ⟨L0, hL0⟩ : ∃ L, List.length (ladders x0 x1) = L := ⟨_, rfl⟩
  have hLb0 : L0 ≤ 1048576 := by rw [← hL0]; exact (ladders_len x0 x1)
  have HL0 := Lib.hid hL0; clear hL0
  obtain ⟨Z0, hZ0⟩ : ∃ Z, sz_CC (ladders x0 x1) = Z := ⟨_, rfl⟩
  have hZb0 : Z0 ≤ 1099511627776 := by rw [← hZ0]; exact (ladders_sz x0 x1)
  have HZ0 := Lib.hid hZ0; clear hZ0
  go_wp2_with fail
  refine (conv_C _ _ _ x1 _ (hr1.below hB0) Hn1.out (by omega) HS1.out).mono ?_
  rintro e w1 ⟨as1, cs1, rfl, os1, hb1⟩
  have hB1 := hB0.trans (hb1.mono hB0.size)
  have hsz1 : w.heap.size ≤ w1.heap.size := hb1.size
  go_wp2_with fail
  refine (specLad_any _ _ _ _ x1 _ hl0 hu0 os1.rd Hn1.out (by omega) HS1.out os1.cap).mono ?_
  rintro e w2 ⟨aw0, nw0, cw0, rfl, ow0, hb2⟩
  have hB2 := hB1.trans (hb2.mono hB1.size)
  have hsz2 : w1.heap.size ≤ w2.heap.size := hb2.size
  have os1_2 := os1.below hb2; clear os1
  obtain rfl : L0 = nw0 := by rw [← HL0.out]; exact ow0.len
  clear os1_2
  go_wp2_with fail
  refine (conv_C _ _ _ x1 _ (hr1.below hB2) Hn1.out (by omega) HS1.out).mono ?_
  rintro e w3 ⟨ax1, cx1, rfl, ox1, hb3⟩
  have hB3 := hB2.trans (hb3.mono hB2.size)
  have hsz3 : w2.heap.size ≤ w3.heap.size := hb3.size
  have ow0_3 := ow0.below hb3; clear ow0
  go_wp2_with fail
  refine (implLad_capany _ _ _ _ x1 _ hl0 hu0 ox1.rd Hn1.out (by omega) HS1.out ox1.cap).mono ?_
  rintro e w4 ⟨ag0, ng0, cg0, rfl, og0, hb4⟩
  have hB4 := hB3.trans (hb4.mono hB3.size)
  have hsz4 : w3.heap.size ≤ w4.heap.size := hb4.size
  have ow0_4 := ow0_3.below hb4; clear ow0_3
  have ox1_4 := ox1.below hb4; clear ox1
  obtain rfl : L0 = ng0 := by rw [← HL0.out]; exact og0.len
  go_wp2_with fail
  refine (is (eq_CC _ _ _ _ _ _ _ _ _ og0.rd ow0_4.rd HL0.out HL0.out (by omega) (ladders_short x0 x1)) (by simp : _ = true)).mono ?_
  rintro e w5 ⟨rfl, hb5⟩
  have hB5 := hB4.trans (hb5.mono hB4.size)
  have hsz5 : w4.heap.size ≤ w5.heap.size := hb5.size
  have ow0_5 := ow0_4.below hb5; clear ow0_4
  have ox1_5 := ox1_4.below hb5; clear ox1_4
  have og0_5 := og0.below hb5; clear og0
  go_wp2_with fail
  refine (conv_C _ _ _ x1 _ (hr1.below hB5) Hn1.out (by omega) HS1.out).mono ?_
  rintro e w6 ⟨ay1, cy1, rfl, oy1, hb6⟩
  have hB6 := hB5.trans (hb6.mono hB5.size)
  have hsz6 : w5.heap.size ≤ w6.heap.size := hb6.size
  have ow0_6 := ow0_5.below hb6; clear ow0_5
  have ox1_6 := ox1_5.below hb6; clear ox1_5
  have og0_6 := og0_5.below hb6; clear og0_5
  go_wp2_with fail
  refine (is (eq_C _ _ _ _ _ _ _ _ _ ox1_6.rd oy1.rd Hn1.out Hn1.out (by omega)) (by simp : _ = true)).mono ?_
  rintro e w7 ⟨rfl, hb7⟩
  have hB7 := hB6.trans (hb7.mono hB6.size)
  have hsz7 : w6.heap.size ≤ w7.heap.size := hb7.size
  have ow0_7 := ow0_6.below hb7; clear ow0_6
  have ox1_7 := ox1_6.below hb7; clear ox1_6
  have og0_7 := og0_6.below hb7; clear og0_6
  have oy1_7 := oy1.below hb7; clear oy1
  clear oy1_7
  go_wp2_with fail
  refine (mark_C w2.heap.size w3.heap.size _ _ _ _ _ _ ox1_7 (by omega) (by omega) (by omega) HZx1.out (by omega)).mono ?_
  rintro e w8 ⟨rfl, mx1, ho8⟩
  have hB8 := ho8.below hB7 (by omega) (by omega)
  have hsz8 : w7.heap.size ≤ w8.heap.size := ho8.size
  have ow0_8 := ow0_7.only ho8 (by omega); clear ow0_7
  have og0_8 := og0_7.only ho8 (by omega); clear og0_7
  go_wp2_with fail
  refine (is (eq_CC _ _ _ _ _ _ _ _ _ og0_8.rd ow0_8.rd HL0.out HL0.out (by omega) (ladders_short x0 x1)) (by simp : _ = true)).mono ?_
  rintro e w9 ⟨rfl, hb9⟩
  have hB9 := hB8.trans (hb9.mono hB8.size)
  have hsz9 : w8.heap.size ≤ w9.heap.size := hb9.size
  have ow0_9 := ow0_8.below hb9; clear ow0_8
  have og0_9 := og0_8.below hb9; clear og0_8
  have ox1_9 := mx1.below hb9; clear mx1
  go_wp2_with fail
  refine (mark_CC w3.heap.size w4.heap.size _ _ _ _ _ _ og0_9 (by omega) (by omega) (by omega) HZ0.out (by omega)).mono ?_
  rintro e w10 ⟨rfl, mg0, ho10⟩
  have hB10 := ho10.below hB9 (by omega) (by omega)
  have hsz10 : w9.heap.size ≤ w10.heap.size := ho10.size
  have ow0_10 := ow0_9.only ho10 (by omega); clear ow0_9
  have ox1_10 := ox1_9.only ho10 (by omega); clear ox1_9
  go_wp2_with fail
  refine (held_CC _ _ _ _ _ _ mg0 (by omega) (by omega) (by omega) HZ0.out (by omega)).mono ?_
  rintro e w11 ⟨rfl, hd11⟩
  have hb11 : Below w10.heap.size w10 w11 := hd11.below _
  have hB11 := hB10.trans (hb11.mono hB10.size)
  have hsz11 : w10.heap.size ≤ w11.heap.size := hb11.size
  have ow0_11 := ow0_10.below hb11; clear ow0_10
  have ox1_11 := ox1_10.below hb11; clear ox1_10
  have og0_11 := mg0.below hb11; clear mg0
  clear ox1_11
  go_wp2_with fail
  refine (conv_C _ _ _ x1 _ (hr1.below hB11) Hn1.out (by omega) HS1.out).mono ?_
  rintro e w12 ⟨az1, cz1, rfl, oz1, hb12⟩
  have hB12 := hB11.trans (hb12.mono hB11.size)
  have hsz12 : w11.heap.size ≤ w12.heap.size := hb12.size
  have ow0_12 := ow0_11.below hb12; clear ow0_11
  have og0_12 := og0_11.below hb12; clear og0_11
  go_wp2_with fail
  refine (implLad_capany _ _ _ _ x1 _ hl0 hu0 oz1.rd Hn1.out (by omega) HS1.out oz1.cap).mono ?_
  rintro e w13 ⟨ah0, nh0, ch0, rfl, oh0, hb13⟩
  have hB13 := hB12.trans (hb13.mono hB12.size)
  have hsz13 : w12.heap.size ≤ w13.heap.size := hb13.size
  have ow0_13 := ow0_12.below hb13; clear ow0_12
  have og0_13 := og0_12.below hb13; clear og0_12
  have oz1_13 := oz1.below hb13; clear oz1
  obtain rfl : L0 = nh0 := by rw [← HL0.out]; exact oh0.len
  go_wp2_with fail
  refine (is (eq_CC _ _ _ _ _ _ _ _ _ oh0.rd ow0_13.rd HL0.out HL0.out (by omega) (ladders_short x0 x1)) (by simp : _ = true)).mono ?_
  rintro e w14 ⟨rfl, hb14⟩
  have hB14 := hB13.trans (hb14.mono hB13.size)
  have hsz14 : w13.heap.size ≤ w14.heap.size := hb14.size
  have ow0_14 := ow0_13.below hb14; clear ow0_13
  have og0_14 := og0_13.below hb14; clear og0_13
  have oz1_14 := oz1_13.below hb14; clear oz1_13
  have oh0_14 := oh0.below hb14; clear oh0
  go_wp2_with fail
  refine (held_CC _ _ _ _ _ _ og0_14 (by omega) (by omega) (by omega) HZ0.out (by omega)).mono ?_
  rintro e w15 ⟨rfl, hd15⟩
  have hb15 : Below w14.heap.size w14 w15 := hd15.below _
  have hB15 := hB14.trans (hb15.mono hB14.size)
  have hsz15 : w14.heap.size ≤ w15.heap.size := hb15.size
  have ow0_15 := ow0_14.below hb15; clear ow0_14
  have og0_15 := og0_14.below hb15; clear og0_14
  have oz1_15 := oz1_14.below hb15; clear oz1_14
  have oh0_15 := oh0_14.below hb15; clear oh0_14
  go_wp2
  go_ret
  exact ⟨rfl, hB15⟩
end Go.Proofs.Ytageojkepoejiaa
