/-
  Law FnExactTableauxOf: for every input the program's TableauxOf and the reference's return the same. No condition. Written by a program of ours (lawgen.py).
-/
import Derived.Test.YtpjkhkoecgjjbaaTabOf
import Derived.Test.YtpjkhkoecgjjbaaKI
import Derived.Test.YtpjkhkoecgjjbaaKIII
namespace Go.Proofs.Ytpjkhkoecgjjbaa
open Go.RowKit

set_option maxHeartbeats 3200000 in
theorem lawTableauxOf_walk (w : World) (a0 : Option Addr) (n0 c0 : Nat) (x0 : List Int) (hr0 : RI w a0 x0) (hn0 : x0.length = n0) (hb0 : n0 ≤ 9223372036854775807) (_hz0 : ∀ x ∈ x0, (Lit.int .i64 x).wf = true) (x1 : Int) (hx1 : (Lit.int .i64 x1).wf = true) :
    Calls Try.prog 3 #[.slice a0 n0 c0, .int .i64 x1] w fun e w' => e = .returned (.bool true) ∧ Below w.heap.size w w' := by
  have Hn0 := Lib.hid hn0; clear hn0
  obtain ⟨hl1, hu1⟩ : -9223372036854775808 ≤ x1 ∧ x1 ≤ 9223372036854775807 := wf_bounds hx1
  clear hx1
  by_cases hbig0 : 1048576 < n0
  · go_enter Try.func3, Try.ntmps3
    go_wp2
    go_ret
    exact ⟨rfl, Below.refl _ _⟩
  go_enter Try.func3, Try.ntmps3
  have hB0 : Below w.heap.size w w := Below.refl _ _
  obtain ⟨L0, hL0⟩ : ∃ L, List.length (tabM x0 x1) = L := ⟨_, rfl⟩
  have hLb0 : L0 ≤ 1048576 := by rw [← hL0]; exact (tabM_len x0 x1)
  have HL0 := Lib.hid hL0; clear hL0
  obtain ⟨Z0, hZ0⟩ : ∃ Z, sz_III (tabM x0 x1) = Z := ⟨_, rfl⟩
  have hZb0 : Z0 ≤ 1099511627776 := by rw [← hZ0]; exact (tabM_sz x0 x1)
  have HZ0 := Lib.hid hZ0; clear hZ0
  go_wp2_with fail
  refine (conv_I _ _ _ x0 _ (hr0.below hB0) Hn0.out (by omega)).mono ?_
  rintro e w1 ⟨as0, cs0, rfl, os0, hb1⟩
  have hB1 := hB0.trans (hb1.mono hB0.size)
  have hsz1 : w.heap.size ≤ w1.heap.size := hb1.size
  go_wp2_with fail
  refine (specTab_any _ _ _ x0 _ _ os0.rd Hn0.out (by omega) hl1 hu1).mono ?_
  rintro e w2 ⟨aw0, nw0, cw0, rw1, rfl, ow0, Hw1, hb2⟩
  have hB2 := hB1.trans (hb2.mono hB1.size)
  have hsz2 : w1.heap.size ≤ w2.heap.size := hb2.size
  have os0_2 := os0.below hb2; clear os0
  obtain rfl : L0 = nw0 := by rw [← HL0.out]; exact ow0.len
  clear os0_2
  go_wp2_with fail
  refine (conv_I _ _ _ x0 _ (hr0.below hB2) Hn0.out (by omega)).mono ?_
  rintro e w3 ⟨ax0, cx0, rfl, ox0, hb3⟩
  have hB3 := hB2.trans (hb3.mono hB2.size)
  have hsz3 : w2.heap.size ≤ w3.heap.size := hb3.size
  have ow0_3 := ow0.below hb3; clear ow0
  go_wp2_with fail
  refine (implTab_any _ _ _ x0 _ _ ox0.rd Hn0.out (by omega) hl1 hu1).mono ?_
  rintro e w4 ⟨ag0, ng0, cg0, rg1, rfl, og0, Hg1, hb4⟩
  have hB4 := hB3.trans (hb4.mono hB3.size)
  have hsz4 : w3.heap.size ≤ w4.heap.size := hb4.size
  have ow0_4 := ow0_3.below hb4; clear ow0_3
  have ox0_4 := ox0.below hb4; clear ox0
  obtain rfl : L0 = ng0 := by rw [← HL0.out]; exact og0.len
  obtain rfl : rw1 = rg1 := by rw [Hw1.out, Hg1.out]
  clear Hg1
  go_wp2_with fail
  refine (is (eq_III _ _ _ _ _ _ _ _ _ og0.rd ow0_4.rd HL0.out HL0.out (by omega) (tabM_short x0 x1)) (by simp : _ = true)).mono ?_
  rintro e w5 ⟨rfl, hd5⟩
  have hb5 : Below w4.heap.size w4 w5 := hd5.below _
  have hB5 := hB4.trans (hb5.mono hB4.size)
  have hsz5 : w4.heap.size ≤ w5.heap.size := hb5.size
  have ow0_5 := ow0_4.below hb5; clear ow0_4
  have ox0_5 := ox0_4.below hb5; clear ox0_4
  have og0_5 := og0.below hb5; clear og0
  go_wp2_with fail
  refine (conv_I _ _ _ x0 _ (hr0.below hB5) Hn0.out (by omega)).mono ?_
  rintro e w6 ⟨ay0, cy0, rfl, oy0, hb6⟩
  have hB6 := hB5.trans (hb6.mono hB5.size)
  have hsz6 : w5.heap.size ≤ w6.heap.size := hb6.size
  have ow0_6 := ow0_5.below hb6; clear ow0_5
  have ox0_6 := ox0_5.below hb6; clear ox0_5
  have og0_6 := og0_5.below hb6; clear og0_5
  go_wp2_with fail
  refine (is (eq_I _ _ _ _ _ _ _ _ _ ox0_6.rd oy0.rd Hn0.out Hn0.out (by omega)) (by simp : _ = true)).mono ?_
  rintro e w7 ⟨rfl, hd7⟩
  have hb7 : Below w6.heap.size w6 w7 := hd7.below _
  have hB7 := hB6.trans (hb7.mono hB6.size)
  have hsz7 : w6.heap.size ≤ w7.heap.size := hb7.size
  have ow0_7 := ow0_6.below hb7; clear ow0_6
  have ox0_7 := ox0_6.below hb7; clear ox0_6
  have og0_7 := og0_6.below hb7; clear og0_6
  have oy0_7 := oy0.below hb7; clear oy0
  clear oy0_7
  go_wp2_with fail
  refine (mark_I w2.heap.size w3.heap.size _ _ _ _ _ _ ox0_7 (by omega) (by omega) (by omega) Hn0.out).mono ?_
  rintro e w8 ⟨rfl, mx0, ho8⟩
  have hB8 := ho8.below hB7 (by omega) (by omega)
  have hsz8 : w7.heap.size ≤ w8.heap.size := ho8.size
  have ow0_8 := ow0_7.only ho8 (by omega); clear ow0_7
  have og0_8 := og0_7.only ho8 (by omega); clear og0_7
  go_wp2_with fail
  refine (is (eq_III _ _ _ _ _ _ _ _ _ og0_8.rd ow0_8.rd HL0.out HL0.out (by omega) (tabM_short x0 x1)) (by simp : _ = true)).mono ?_
  rintro e w9 ⟨rfl, hd9⟩
  have hb9 : Below w8.heap.size w8 w9 := hd9.below _
  have hB9 := hB8.trans (hb9.mono hB8.size)
  have hsz9 : w8.heap.size ≤ w9.heap.size := hb9.size
  have ow0_9 := ow0_8.below hb9; clear ow0_8
  have og0_9 := og0_8.below hb9; clear og0_8
  have ox0_9 := mx0.below hb9; clear mx0
  go_wp2_with fail
  refine (mark_III w3.heap.size w4.heap.size _ _ _ _ _ _ og0_9 (by omega) (by omega) (by omega) HZ0.out (by omega) (tabM_short x0 x1)).mono ?_
  rintro e w10 ⟨rfl, mg0, ho10⟩
  have hB10 := ho10.below hB9 (by omega) (by omega)
  have hsz10 : w9.heap.size ≤ w10.heap.size := ho10.size
  have ow0_10 := ow0_9.only ho10 (by omega); clear ow0_9
  have ox0_10 := ox0_9.only ho10 (by omega); clear ox0_9
  go_wp2_with fail
  refine (held_III _ _ _ _ _ _ mg0 (by omega) (by omega) (by omega) HZ0.out (by omega) (tabM_short x0 x1)).mono ?_
  rintro e w11 ⟨rfl, hd11⟩
  have hb11 : Below w10.heap.size w10 w11 := hd11.below _
  have hB11 := hB10.trans (hb11.mono hB10.size)
  have hsz11 : w10.heap.size ≤ w11.heap.size := hb11.size
  have ow0_11 := ow0_10.below hb11; clear ow0_10
  have ox0_11 := ox0_10.below hb11; clear ox0_10
  have og0_11 := mg0.below hb11; clear mg0
  clear ox0_11
  go_wp2_with fail
  refine (conv_I _ _ _ x0 _ (hr0.below hB11) Hn0.out (by omega)).mono ?_
  rintro e w12 ⟨az0, cz0, rfl, oz0, hb12⟩
  have hB12 := hB11.trans (hb12.mono hB11.size)
  have hsz12 : w11.heap.size ≤ w12.heap.size := hb12.size
  have ow0_12 := ow0_11.below hb12; clear ow0_11
  have og0_12 := og0_11.below hb12; clear og0_11
  go_wp2_with fail
  refine (implTab_any _ _ _ x0 _ _ oz0.rd Hn0.out (by omega) hl1 hu1).mono ?_
  rintro e w13 ⟨ah0, nh0, ch0, rh1, rfl, oh0, Hh1, hb13⟩
  have hB13 := hB12.trans (hb13.mono hB12.size)
  have hsz13 : w12.heap.size ≤ w13.heap.size := hb13.size
  have ow0_13 := ow0_12.below hb13; clear ow0_12
  have og0_13 := og0_12.below hb13; clear og0_12
  have oz0_13 := oz0.below hb13; clear oz0
  obtain rfl : L0 = nh0 := by rw [← HL0.out]; exact oh0.len
  obtain rfl : rw1 = rh1 := by rw [Hw1.out, Hh1.out]
  clear Hh1
  go_wp2_with fail
  refine (is (eq_III _ _ _ _ _ _ _ _ _ oh0.rd ow0_13.rd HL0.out HL0.out (by omega) (tabM_short x0 x1)) (by simp : _ = true)).mono ?_
  rintro e w14 ⟨rfl, hd14⟩
  have hb14 : Below w13.heap.size w13 w14 := hd14.below _
  have hB14 := hB13.trans (hb14.mono hB13.size)
  have hsz14 : w13.heap.size ≤ w14.heap.size := hb14.size
  have ow0_14 := ow0_13.below hb14; clear ow0_13
  have og0_14 := og0_13.below hb14; clear og0_13
  have oz0_14 := oz0_13.below hb14; clear oz0_13
  have oh0_14 := oh0.below hb14; clear oh0
  go_wp2_with fail
  refine (held_III _ _ _ _ _ _ og0_14 (by omega) (by omega) (by omega) HZ0.out (by omega) (tabM_short x0 x1)).mono ?_
  rintro e w15 ⟨rfl, hd15⟩
  have hb15 : Below w14.heap.size w14 w15 := hd15.below _
  have hB15 := hB14.trans (hb15.mono hB14.size)
  have hsz15 : w14.heap.size ≤ w15.heap.size := hb15.size
  have ow0_15 := ow0_14.below hb15; clear ow0_14
  have og0_15 := og0_14.below hb15; clear og0_14
  have oz0_15 := oz0_14.below hb15; clear oz0_14
  have oh0_15 := oh0_14.below hb15; clear oh0_14
  go_wp2
  go_ret
  exact ⟨rfl, hB15⟩
end Go.Proofs.Ytpjkhkoecgjjbaa
