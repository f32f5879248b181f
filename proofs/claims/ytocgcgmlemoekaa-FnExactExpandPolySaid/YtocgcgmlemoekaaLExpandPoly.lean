/-
  Law FnExactExpandPoly: for every input the program's ExpandPoly and the reference's return the same. No condition. Written by a program of ours (lawgen.py).
-/
import Derived.Test.YtocgcgmlemoekaaExpSpec
namespace Go.Proofs.Ytocgcgmlemoekaa
open Go.RowKit

set_option maxHeartbeats 3200000 in
theorem lawExpandPoly_walk (w : World) (a0 : Option Addr) (n0 c0 : Nat) (x0 : List (List Int × Int)) (hr0 : RT w a0 x0) (hn0 : x0.length = n0) (hb0 : Wide_T n0 x0) (_hz0 : Wf_T x0) :
    Calls Try.prog 8 #[.slice a0 n0 c0] w fun e w' => e = .returned (.bool true) ∧ Below w.heap.size w w' := by
  have Hn0 := Lib.hid hn0; clear hn0
  obtain ⟨m0, hm0⟩ : ∃ m, ms_T x0 = m := ⟨_, rfl⟩
  have HM0 := Lib.hid hm0
  by_cases hbig : (1048576 : Int) < (m0 : Int)
  · have hq := Lib.hid (leftOf_lt hbig)
    clear hm0
    go_enter Try.func8, Try.ntmps8
    go_wp2_with fail
    refine (isInt (szl_T _ _ _ x0 1048576 _ hr0 Hn0.out (by omega) (by omega) hb0) (by rw [HM0.out, hq.out])).mono ?_
    rintro e w1 ⟨rfl, hb1⟩
    go_wp2
    go_ret
    exact ⟨rfl, hb1⟩
  have hnb0 : n0 ≤ 1048576 := by have := ms_T_len x0; have := Hn0.out; omega
  obtain ⟨Zx0, hZx0⟩ : ∃ Z, sz_T x0 = Z := ⟨_, rfl⟩
  have hZxb0 : Zx0 ≤ 2097152 := by have := ms_T_sz x0; omega
  have HS0 := Lib.hid (ms_T_short x0 (by omega))
  have HZx0 := Lib.hid hZx0; clear hZx0 hm0
  obtain ⟨q0, hq0⟩ : ∃ q : Nat, leftOf 1048576 (m0 : Int) = (q : Int) := ⟨1048576 - m0, by rw [leftOf_ge hbig]; omega⟩
  have HQ0 := Lib.hid hq0; clear hq0
  go_enter Try.func8, Try.ntmps8
  have hB0 : Below w.heap.size w w := Below.refl _ _
  go_wp2_with fail
  refine (isInt (szl_T _ _ _ x0 1048576 _ hr0 Hn0.out (by omega) (by omega) hb0) (by rw [HM0.out, HQ0.out])).mono ?_
  rintro e w1 ⟨rfl, hb1⟩
  have hB1 := hB0.trans (hb1.mono hB0.size)
  have hsz1 : w.heap.size ≤ w1.heap.size := hb1.size
  obtain ⟨L0, hL0⟩ : ∃ L, List.length (expT x0) = L := ⟨_, rfl⟩
  have hLb0 : L0 ≤ 1048576 := by rw [← hL0]; exact (expT_len x0)
  have HL0 := Lib.hid hL0; clear hL0
  obtain ⟨Z0, hZ0⟩ : ∃ Z, sz_K (expT x0) = Z := ⟨_, rfl⟩
  have hZb0 : Z0 ≤ 1099511627776 := by rw [← hZ0]; exact (expT_sz x0)
  have HZ0 := Lib.hid hZ0; clear hZ0
  go_wp2_with fail
  refine (conv_T _ _ _ x0 _ (hr0.below hB1) Hn0.out (by omega) HS0.out).mono ?_
  rintro e w2 ⟨as0, cs0, rfl, os0, hb2⟩
  have hB2 := hB1.trans (hb2.mono hB1.size)
  have hsz2 : w1.heap.size ≤ w2.heap.size := hb2.size
  go_wp2_with fail
  refine (specExp_any _ _ _ x0 _ os0.rd Hn0.out (by omega) HS0.out).mono ?_
  rintro e w3 ⟨aw0, nw0, cw0, rw1, rfl, ow0, Hw1, hb3⟩
  have hB3 := hB2.trans (hb3.mono hB2.size)
  have hsz3 : w2.heap.size ≤ w3.heap.size := hb3.size
  have os0_3 := os0.below hb3; clear os0
  obtain rfl : L0 = nw0 := by rw [← HL0.out]; exact ow0.len
  clear os0_3
  go_wp2_with fail
  refine (conv_T _ _ _ x0 _ (hr0.below hB3) Hn0.out (by omega) HS0.out).mono ?_
  rintro e w4 ⟨ax0, cx0, rfl, ox0, hb4⟩
  have hB4 := hB3.trans (hb4.mono hB3.size)
  have hsz4 : w3.heap.size ≤ w4.heap.size := hb4.size
  have ow0_4 := ow0.below hb4; clear ow0
  go_wp2_with fail
  refine (implExp_any _ _ _ x0 _ ox0.rd Hn0.out (by omega) HS0.out).mono ?_
  rintro e w5 ⟨ag0, ng0, cg0, rg1, rfl, og0, Hg1, hb5⟩
  have hB5 := hB4.trans (hb5.mono hB4.size)
  have hsz5 : w4.heap.size ≤ w5.heap.size := hb5.size
  have ow0_5 := ow0_4.below hb5; clear ow0_4
  have ox0_5 := ox0.below hb5; clear ox0
  obtain rfl : L0 = ng0 := by rw [← HL0.out]; exact og0.len
  obtain rfl : rw1 = rg1 := by rw [Hw1.out, Hg1.out]
  clear Hg1
  go_wp2_with fail
  refine (is (eq_K _ _ _ _ _ _ _ _ _ og0.rd ow0_5.rd HL0.out HL0.out (by omega) (expT_short x0)) (by simp : _ = true)).mono ?_
  rintro e w6 ⟨rfl, hb6⟩
  have hB6 := hB5.trans (hb6.mono hB5.size)
  have hsz6 : w5.heap.size ≤ w6.heap.size := hb6.size
  have ow0_6 := ow0_5.below hb6; clear ow0_5
  have ox0_6 := ox0_5.below hb6; clear ox0_5
  have og0_6 := og0.below hb6; clear og0
  go_wp2_with fail
  refine (conv_T _ _ _ x0 _ (hr0.below hB6) Hn0.out (by omega) HS0.out).mono ?_
  rintro e w7 ⟨ay0, cy0, rfl, oy0, hb7⟩
  have hB7 := hB6.trans (hb7.mono hB6.size)
  have hsz7 : w6.heap.size ≤ w7.heap.size := hb7.size
  have ow0_7 := ow0_6.below hb7; clear ow0_6
  have ox0_7 := ox0_6.below hb7; clear ox0_6
  have og0_7 := og0_6.below hb7; clear og0_6
  go_wp2_with fail
  refine (is (eq_T _ _ _ _ _ _ _ _ _ ox0_7.rd oy0.rd Hn0.out Hn0.out (by omega) HS0.out) (by simp : _ = true)).mono ?_
  rintro e w8 ⟨rfl, hb8⟩
  have hB8 := hB7.trans (hb8.mono hB7.size)
  have hsz8 : w7.heap.size ≤ w8.heap.size := hb8.size
  have ow0_8 := ow0_7.below hb8; clear ow0_7
  have ox0_8 := ox0_7.below hb8; clear ox0_7
  have og0_8 := og0_7.below hb8; clear og0_7
  have oy0_8 := oy0.below hb8; clear oy0
  clear oy0_8
  go_wp2_with fail
  refine (mark_T w3.heap.size w4.heap.size _ _ _ _ _ _ ox0_8 (by omega) (by omega) (by omega) HZx0.out (by omega)).mono ?_
  rintro e w9 ⟨rfl, mx0, ho9⟩
  have hB9 := ho9.below hB8 (by omega) (by omega)
  have hsz9 : w8.heap.size ≤ w9.heap.size := ho9.size
  have ow0_9 := ow0_8.only ho9 (by omega); clear ow0_8
  have og0_9 := og0_8.only ho9 (by omega); clear og0_8
  go_wp2_with fail
  refine (is (eq_K _ _ _ _ _ _ _ _ _ og0_9.rd ow0_9.rd HL0.out HL0.out (by omega) (expT_short x0)) (by simp : _ = true)).mono ?_
  rintro e w10 ⟨rfl, hb10⟩
  have hB10 := hB9.trans (hb10.mono hB9.size)
  have hsz10 : w9.heap.size ≤ w10.heap.size := hb10.size
  have ow0_10 := ow0_9.below hb10; clear ow0_9
  have og0_10 := og0_9.below hb10; clear og0_9
  have ox0_10 := mx0.below hb10; clear mx0
  go_wp2_with fail
  refine (mark_K w4.heap.size w5.heap.size _ _ _ _ _ _ og0_10 (by omega) (by omega) (by omega) HZ0.out (by omega)).mono ?_
  rintro e w11 ⟨rfl, mg0, ho11⟩
  have hB11 := ho11.below hB10 (by omega) (by omega)
  have hsz11 : w10.heap.size ≤ w11.heap.size := ho11.size
  have ow0_11 := ow0_10.only ho11 (by omega); clear ow0_10
  have ox0_11 := ox0_10.only ho11 (by omega); clear ox0_10
  go_wp2_with fail
  refine (held_K _ _ _ _ _ _ mg0 (by omega) (by omega) (by omega) HZ0.out (by omega)).mono ?_
  rintro e w12 ⟨rfl, hd12⟩
  have hb12 : Below w11.heap.size w11 w12 := hd12.below _
  have hB12 := hB11.trans (hb12.mono hB11.size)
  have hsz12 : w11.heap.size ≤ w12.heap.size := hb12.size
  have ow0_12 := ow0_11.below hb12; clear ow0_11
  have ox0_12 := ox0_11.below hb12; clear ox0_11
  have og0_12 := mg0.below hb12; clear mg0
  clear ox0_12
  go_wp2_with fail
  refine (conv_T _ _ _ x0 _ (hr0.below hB12) Hn0.out (by omega) HS0.out).mono ?_
  rintro e w13 ⟨az0, cz0, rfl, oz0, hb13⟩
  have hB13 := hB12.trans (hb13.mono hB12.size)
  have hsz13 : w12.heap.size ≤ w13.heap.size := hb13.size
  have ow0_13 := ow0_12.below hb13; clear ow0_12
  have og0_13 := og0_12.below hb13; clear og0_12
  go_wp2_with fail
  refine (implExp_any _ _ _ x0 _ oz0.rd Hn0.out (by omega) HS0.out).mono ?_
  rintro e w14 ⟨ah0, nh0, ch0, rh1, rfl, oh0, Hh1, hb14⟩
  have hB14 := hB13.trans (hb14.mono hB13.size)
  have hsz14 : w13.heap.size ≤ w14.heap.size := hb14.size
  have ow0_14 := ow0_13.below hb14; clear ow0_13
  have og0_14 := og0_13.below hb14; clear og0_13
  have oz0_14 := oz0.below hb14; clear oz0
  obtain rfl : L0 = nh0 := by rw [← HL0.out]; exact oh0.len
  obtain rfl : rw1 = rh1 := by rw [Hw1.out, Hh1.out]
  clear Hh1
  go_wp2_with fail
  refine (is (eq_K _ _ _ _ _ _ _ _ _ oh0.rd ow0_14.rd HL0.out HL0.out (by omega) (expT_short x0)) (by simp : _ = true)).mono ?_
  rintro e w15 ⟨rfl, hb15⟩
  have hB15 := hB14.trans (hb15.mono hB14.size)
  have hsz15 : w14.heap.size ≤ w15.heap.size := hb15.size
  have ow0_15 := ow0_14.below hb15; clear ow0_14
  have og0_15 := og0_14.below hb15; clear og0_14
  have oz0_15 := oz0_14.below hb15; clear oz0_14
  have oh0_15 := oh0.below hb15; clear oh0
  go_wp2_with fail
  refine (held_K _ _ _ _ _ _ og0_15 (by omega) (by omega) (by omega) HZ0.out (by omega)).mono ?_
  rintro e w16 ⟨rfl, hd16⟩
  have hb16 : Below w15.heap.size w15 w16 := hd16.below _
  have hB16 := hB15.trans (hb16.mono hB15.size)
  have hsz16 : w15.heap.size ≤ w16.heap.size := hb16.size
  have ow0_16 := ow0_15.below hb16; clear ow0_15
  have og0_16 := og0_15.below hb16; clear og0_15
  have oz0_16 := oz0_15.below hb16; clear oz0_15
  have oh0_16 := oh0_15.below hb16; clear oh0_15
  go_wp2
  go_ret
  exact ⟨rfl, hB16⟩
end Go.Proofs.Ytocgcgmlemoekaa
