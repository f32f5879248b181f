/-
  Law FnExactMulPerms: for every input the program's MulPerms and the reference's return the same. No condition. Written by a program of ours (lawgen.py).
-/
import Derived.Test.YtocgcgmlemoekaaGreatBuT
namespace Go.Proofs.YtocgcgmlemoekaaGreat
open Go.RowKit

set_option maxHeartbeats 3200000 in
theorem lawMulPerms_walk (w : World) (a0 : Option Addr) (n0 c0 : Nat) (x0 : List Int) (hr0 : RI w a0 x0) (hn0 : x0.length = n0) (hb0 : n0 ≤ 9223372036854775807) (_hz0 : ∀ x ∈ x0, (Lit.int .i64 x).wf = true) (a1 : Option Addr) (n1 c1 : Nat) (x1 : List Int) (hr1 : RI w a1 x1) (hn1 : x1.length = n1) (hb1 : n1 ≤ 9223372036854775807) (_hz1 : ∀ x ∈ x1, (Lit.int .i64 x).wf = true) :
    Calls Tryz.prog 3 #[.slice a0 n0 c0, .slice a1 n1 c1] w fun e w' => e = .returned (.bool true) ∧ Below w.heap.size w w' := by
  have Hn0 := Lib.hid hn0; clear hn0
  have Hn1 := Lib.hid hn1; clear hn1
  by_cases hbig0 : 1048576 < n0
  · go_enter Tryz.func3, Tryz.ntmps3
    go_wp2
    go_ret
    exact ⟨rfl, Below.refl _ _⟩
  by_cases hbig1 : 1048576 < n1
  · go_enter Tryz.func3, Tryz.ntmps3
    go_wp2
    go_ret
    exact ⟨rfl, Below.refl _ _⟩
  go_enter Tryz.func3, Tryz.ntmps3
  have hB0 : Below w.heap.size w w := Below.refl _ _
  obtain ⟨L0, hL0⟩ : ∃ L, List.length (mpT x0 x1) = L := ⟨_, rfl⟩
  have hLb0 : L0 ≤ 1048576 := by rw [← hL0]; exact (mpT_len x0 x1)
  have HL0 := Lib.hid hL0; clear hL0
  obtain ⟨Z0, hZ0⟩ : ∃ Z, sz_K (mpT x0 x1) = Z := ⟨_, rfl⟩
  have hZb0 : Z0 ≤ 1099511627776 := by rw [← hZ0]; exact (mpT_sz x0 x1)
  have HZ0 := Lib.hid hZ0; clear hZ0
  go_wp2_with fail
  refine (conv_I _ _ _ x0 _ (hr0.below hB0) Hn0.out (by omega)).mono ?_
  rintro e w1 ⟨as0, cs0, rfl, os0, hb1⟩
  have hB1 := hB0.trans (hb1.mono hB0.size)
  have hsz1 : w.heap.size ≤ w1.heap.size := hb1.size
  go_wp2_with fail
  refine (conv_I _ _ _ x1 _ (hr1.below hB1) Hn1.out (by omega)).mono ?_
  rintro e w2 ⟨as1, cs1, rfl, os1, hb2⟩
  have hB2 := hB1.trans (hb2.mono hB1.size)
  have hsz2 : w1.heap.size ≤ w2.heap.size := hb2.size
  have os0_2 := os0.below hb2; clear os0
  go_wp2_with fail
  refine (specMP_any _ _ _ x0 _ _ _ x1 _ os0_2.rd Hn0.out (by omega) os0_2.1.lt os1.rd Hn1.out (by omega) os1.1.lt).mono ?_
  rintro e w3 ⟨aw0, nw0, cw0, rw1, rfl, ow0, Hw1, hb3⟩
  have hB3 := hB2.trans (hb3.mono hB2.size)
  have hsz3 : w2.heap.size ≤ w3.heap.size := hb3.size
  have os0_3 := os0_2.below hb3; clear os0_2
  have os1_3 := os1.below hb3; clear os1
  obtain rfl : L0 = nw0 := by rw [← HL0.out]; exact ow0.len
  clear os0_3
  clear os1_3
  go_wp2_with fail
  refine (conv_I _ _ _ x0 _ (hr0.below hB3) Hn0.out (by omega)).mono ?_
  rintro e w4 ⟨ax0, cx0, rfl, ox0, hb4⟩
  have hB4 := hB3.trans (hb4.mono hB3.size)
  have hsz4 : w3.heap.size ≤ w4.heap.size := hb4.size
  have ow0_4 := ow0.below hb4; clear ow0
  go_wp2_with fail
  refine (conv_I _ _ _ x1 _ (hr1.below hB4) Hn1.out (by omega)).mono ?_
  rintro e w5 ⟨ax1, cx1, rfl, ox1, hb5⟩
  have hB5 := hB4.trans (hb5.mono hB4.size)
  have hsz5 : w4.heap.size ≤ w5.heap.size := hb5.size
  have ow0_5 := ow0_4.below hb5; clear ow0_4
  have ox0_5 := ox0.below hb5; clear ox0
  go_wp2_with fail
  refine (implMP_any _ _ _ x0 _ _ _ x1 _ ox0_5.rd Hn0.out (by omega) ox0_5.1.lt ox1.rd Hn1.out (by omega) ox1.1.lt).mono ?_
  rintro e w6 ⟨ag0, ng0, cg0, rg1, rfl, og0, Hg1, hb6⟩
  have hB6 := hB5.trans (hb6.mono hB5.size)
  have hsz6 : w5.heap.size ≤ w6.heap.size := hb6.size
  have ow0_6 := ow0_5.below hb6; clear ow0_5
  have ox0_6 := ox0_5.below hb6; clear ox0_5
  have ox1_6 := ox1.below hb6; clear ox1
  obtain rfl : L0 = ng0 := by rw [← HL0.out]; exact og0.len
  obtain rfl : rw1 = rg1 := by rw [Hw1.out, Hg1.out]
  clear Hg1
  go_wp2_with fail
  refine (is (eq_K _ _ _ _ _ _ _ _ _ og0.rd ow0_6.rd HL0.out HL0.out (by omega) (mpT_short x0 x1)) (by simp : _ = true)).mono ?_
  rintro e w7 ⟨rfl, hb7⟩
  have hB7 := hB6.trans (hb7.mono hB6.size)
  have hsz7 : w6.heap.size ≤ w7.heap.size := hb7.size
  have ow0_7 := ow0_6.below hb7; clear ow0_6
  have ox0_7 := ox0_6.below hb7; clear ox0_6
  have ox1_7 := ox1_6.below hb7; clear ox1_6
  have og0_7 := og0.below hb7; clear og0
  go_wp2_with fail
  refine (conv_I _ _ _ x0 _ (hr0.below hB7) Hn0.out (by omega)).mono ?_
  rintro e w8 ⟨ay0, cy0, rfl, oy0, hb8⟩
  have hB8 := hB7.trans (hb8.mono hB7.size)
  have hsz8 : w7.heap.size ≤ w8.heap.size := hb8.size
  have ow0_8 := ow0_7.below hb8; clear ow0_7
  have ox0_8 := ox0_7.below hb8; clear ox0_7
  have ox1_8 := ox1_7.below hb8; clear ox1_7
  have og0_8 := og0_7.below hb8; clear og0_7
  go_wp2_with fail
  refine (is (eq_I _ _ _ _ _ _ _ _ _ ox0_8.rd oy0.rd Hn0.out Hn0.out (by omega)) (by simp : _ = true)).mono ?_
  rintro e w9 ⟨rfl, hd9⟩
  have hb9 : Below w8.heap.size w8 w9 := hd9.below _
  have hB9 := hB8.trans (hb9.mono hB8.size)
  have hsz9 : w8.heap.size ≤ w9.heap.size := hb9.size
  have ow0_9 := ow0_8.below hb9; clear ow0_8
  have ox0_9 := ox0_8.below hb9; clear ox0_8
  have ox1_9 := ox1_8.below hb9; clear ox1_8
  have og0_9 := og0_8.below hb9; clear og0_8
  have oy0_9 := oy0.below hb9; clear oy0
  clear oy0_9
  go_wp2_with fail
  refine (conv_I _ _ _ x1 _ (hr1.below hB9) Hn1.out (by omega)).mono ?_
  rintro e w10 ⟨ay1, cy1, rfl, oy1, hb10⟩
  have hB10 := hB9.trans (hb10.mono hB9.size)
  have hsz10 : w9.heap.size ≤ w10.heap.size := hb10.size
  have ow0_10 := ow0_9.below hb10; clear ow0_9
  have ox0_10 := ox0_9.below hb10; clear ox0_9
  have ox1_10 := ox1_9.below hb10; clear ox1_9
  have og0_10 := og0_9.below hb10; clear og0_9
  go_wp2_with fail
  refine (is (eq_I _ _ _ _ _ _ _ _ _ ox1_10.rd oy1.rd Hn1.out Hn1.out (by omega)) (by simp : _ = true)).mono ?_
  rintro e w11 ⟨rfl, hd11⟩
  have hb11 : Below w10.heap.size w10 w11 := hd11.below _
  have hB11 := hB10.trans (hb11.mono hB10.size)
  have hsz11 : w10.heap.size ≤ w11.heap.size := hb11.size
  have ow0_11 := ow0_10.below hb11; clear ow0_10
  have ox0_11 := ox0_10.below hb11; clear ox0_10
  have ox1_11 := ox1_10.below hb11; clear ox1_10
  have og0_11 := og0_10.below hb11; clear og0_10
  have oy1_11 := oy1.below hb11; clear oy1
  clear oy1_11
  go_wp2_with fail
  refine (mark_I w3.heap.size w4.heap.size _ _ _ _ _ _ ox0_11 (by omega) (by omega) (by omega) Hn0.out).mono ?_
  rintro e w12 ⟨rfl, mx0, ho12⟩
  have hB12 := ho12.below hB11 (by omega) (by omega)
  have hsz12 : w11.heap.size ≤ w12.heap.size := ho12.size
  have ow0_12 := ow0_11.only ho12 (by omega); clear ow0_11
  have ox1_12 := ox1_11.only ho12 (by omega); clear ox1_11
  have og0_12 := og0_11.only ho12 (by omega); clear og0_11
  go_wp2_with fail
  refine (mark_I w4.heap.size w5.heap.size _ _ _ _ _ _ ox1_12 (by omega) (by omega) (by omega) Hn1.out).mono ?_
  rintro e w13 ⟨rfl, mx1, ho13⟩
  have hB13 := ho13.below hB12 (by omega) (by omega)
  have hsz13 : w12.heap.size ≤ w13.heap.size := ho13.size
  have ow0_13 := ow0_12.only ho13 (by omega); clear ow0_12
  have og0_13 := og0_12.only ho13 (by omega); clear og0_12
  have ox0_13 := mx0.only ho13 (by omega); clear mx0
  go_wp2_with fail
  refine (is (eq_K _ _ _ _ _ _ _ _ _ og0_13.rd ow0_13.rd HL0.out HL0.out (by omega) (mpT_short x0 x1)) (by simp : _ = true)).mono ?_
  rintro e w14 ⟨rfl, hb14⟩
  have hB14 := hB13.trans (hb14.mono hB13.size)
  have hsz14 : w13.heap.size ≤ w14.heap.size := hb14.size
  have ow0_14 := ow0_13.below hb14; clear ow0_13
  have og0_14 := og0_13.below hb14; clear og0_13
  have ox0_14 := ox0_13.below hb14; clear ox0_13
  have ox1_14 := mx1.below hb14; clear mx1
  go_wp2_with fail
  refine (mark_K w5.heap.size w6.heap.size _ _ _ _ _ _ og0_14 (by omega) (by omega) (by omega) HZ0.out (by omega)).mono ?_
  rintro e w15 ⟨rfl, mg0, ho15⟩
  have hB15 := ho15.below hB14 (by omega) (by omega)
  have hsz15 : w14.heap.size ≤ w15.heap.size := ho15.size
  have ow0_15 := ow0_14.only ho15 (by omega); clear ow0_14
  have ox0_15 := ox0_14.only ho15 (by omega); clear ox0_14
  have ox1_15 := ox1_14.only ho15 (by omega); clear ox1_14
  go_wp2_with fail
  refine (held_K _ _ _ _ _ _ mg0 (by omega) (by omega) (by omega) HZ0.out (by omega)).mono ?_
  rintro e w16 ⟨rfl, hd16⟩
  have hb16 : Below w15.heap.size w15 w16 := hd16.below _
  have hB16 := hB15.trans (hb16.mono hB15.size)
  have hsz16 : w15.heap.size ≤ w16.heap.size := hb16.size
  have ow0_16 := ow0_15.below hb16; clear ow0_15
  have ox0_16 := ox0_15.below hb16; clear ox0_15
  have ox1_16 := ox1_15.below hb16; clear ox1_15
  have og0_16 := mg0.below hb16; clear mg0
  clear ox0_16
  clear ox1_16
  go_wp2_with fail
  refine (conv_I _ _ _ x0 _ (hr0.below hB16) Hn0.out (by omega)).mono ?_
  rintro e w17 ⟨az0, cz0, rfl, oz0, hb17⟩
  have hB17 := hB16.trans (hb17.mono hB16.size)
  have hsz17 : w16.heap.size ≤ w17.heap.size := hb17.size
  have ow0_17 := ow0_16.below hb17; clear ow0_16
  have og0_17 := og0_16.below hb17; clear og0_16
  go_wp2_with fail
  refine (conv_I _ _ _ x1 _ (hr1.below hB17) Hn1.out (by omega)).mono ?_
  rintro e w18 ⟨az1, cz1, rfl, oz1, hb18⟩
  have hB18 := hB17.trans (hb18.mono hB17.size)
  have hsz18 : w17.heap.size ≤ w18.heap.size := hb18.size
  have ow0_18 := ow0_17.below hb18; clear ow0_17
  have og0_18 := og0_17.below hb18; clear og0_17
  have oz0_18 := oz0.below hb18; clear oz0
  go_wp2_with fail
  refine (implMP_any _ _ _ x0 _ _ _ x1 _ oz0_18.rd Hn0.out (by omega) oz0_18.1.lt oz1.rd Hn1.out (by omega) oz1.1.lt).mono ?_
  rintro e w19 ⟨ah0, nh0, ch0, rh1, rfl, oh0, Hh1, hb19⟩
  have hB19 := hB18.trans (hb19.mono hB18.size)
  have hsz19 : w18.heap.size ≤ w19.heap.size := hb19.size
  have ow0_19 := ow0_18.below hb19; clear ow0_18
  have og0_19 := og0_18.below hb19; clear og0_18
  have oz0_19 := oz0_18.below hb19; clear oz0_18
  have oz1_19 := oz1.below hb19; clear oz1
  obtain rfl : L0 = nh0 := by rw [← HL0.out]; exact oh0.len
  obtain rfl : rw1 = rh1 := by rw [Hw1.out, Hh1.out]
  clear Hh1
  go_wp2_with fail
  refine (is (eq_K _ _ _ _ _ _ _ _ _ oh0.rd ow0_19.rd HL0.out HL0.out (by omega) (mpT_short x0 x1)) (by simp : _ = true)).mono ?_
  rintro e w20 ⟨rfl, hb20⟩
  have hB20 := hB19.trans (hb20.mono hB19.size)
  have hsz20 : w19.heap.size ≤ w20.heap.size := hb20.size
  have ow0_20 := ow0_19.below hb20; clear ow0_19
  have og0_20 := og0_19.below hb20; clear og0_19
  have oz0_20 := oz0_19.below hb20; clear oz0_19
  have oz1_20 := oz1_19.below hb20; clear oz1_19
  have oh0_20 := oh0.below hb20; clear oh0
  go_wp2_with fail
  refine (held_K _ _ _ _ _ _ og0_20 (by omega) (by omega) (by omega) HZ0.out (by omega)).mono ?_
  rintro e w21 ⟨rfl, hd21⟩
  have hb21 : Below w20.heap.size w20 w21 := hd21.below _
  have hB21 := hB20.trans (hb21.mono hB20.size)
  have hsz21 : w20.heap.size ≤ w21.heap.size := hb21.size
  have ow0_21 := ow0_20.below hb21; clear ow0_20
  have og0_21 := og0_20.below hb21; clear og0_20
  have oz0_21 := oz0_20.below hb21; clear oz0_20
  have oz1_21 := oz1_20.below hb21; clear oz1_20
  have oh0_21 := oh0_20.below hb21; clear oh0_20
  go_wp2
  go_ret
  exact ⟨rfl, hB21⟩
end Go.Proofs.YtocgcgmlemoekaaGreat
