/-
  Law FnExactTransitionOf: for every input the program's TransitionOf and the reference's return the same. No condition. Written by a program of ours (lawgen.py).
-/
import Derived.Test.YtageojkepoejiaaTransBd
import Derived.Test.YtageojkepoejiaaKI
namespace Go.Proofs.Ytageojkepoejiaa
open Go.RowKit

set_option maxHeartbeats 3200000 in
theorem lawTransitionOf_walk (w : World) (a0 : Option Addr) (n0 c0 : Nat) (x0 : List Int) (hr0 : RI w a0 x0) (hn0 : x0.length = n0) (hb0 : n0 ≤ 9223372036854775807) (_hz0 : ∀ x ∈ x0, (Lit.int .i64 x).wf = true) :
    Calls Try.prog 3 #[.slice a0 n0 c0] w fun e w' => e = .returned (.bool true) ∧ Below w.heap.size w w' := by
  have Hn0 := Lib.hid hn0; clear hn0
  by_cases hbig0 : 1048576 < n0
  · go_enter Try.func3, Try.ntmps3
    go_wp2
    go_ret
    exact ⟨rfl, Below.refl _ _⟩
  go_enter Try.func3, Try.ntmps3
  have hB0 : Below w.heap.size w w := Below.refl _ _
  obtain ⟨L1, hL1⟩ : ∃ L, List.length (tr1 x0) = L := ⟨_, rfl⟩
  have hLb1 : L1 ≤ 1048576 := by rw [← hL1]; exact (Nat.le_trans (tr1_len x0) (by omega))
  have HL1 := Lib.hid hL1; clear hL1
  obtain ⟨Z1, hZ1⟩ : ∃ Z, sz_I (tr1 x0) = Z := ⟨_, rfl⟩
  have hZb1 : Z1 ≤ 1099511627776 := by rw [← hZ1]; exact (Nat.le_trans (tr1_len x0) (by omega))
  have HZ1 := Lib.hid hZ1; clear hZ1
  obtain ⟨L2, hL2⟩ : ∃ L, List.length (tr2 x0) = L := ⟨_, rfl⟩
  have hLb2 : L2 ≤ 1048576 := by rw [← hL2]; exact (Nat.le_trans (tr2_few x0).1 (by omega))
  have HL2 := Lib.hid hL2; clear hL2
  obtain ⟨Z2, hZ2⟩ : ∃ Z, sz_II (tr2 x0) = Z := ⟨_, rfl⟩
  have hZb2 : Z2 ≤ 1099511627776 := by rw [← hZ2]; exact (Nat.le_trans (tr2_few x0).2.1 (by omega))
  have HZ2 := Lib.hid hZ2; clear hZ2
  go_wp2_with fail
  refine (conv_I _ _ _ x0 _ (hr0.below hB0) Hn0.out (by omega)).mono ?_
  rintro e w1 ⟨as0, cs0, rfl, os0, hb1⟩
  have hB1 := hB0.trans (hb1.mono hB0.size)
  have hsz1 : w.heap.size ≤ w1.heap.size := hb1.size
  go_wp2_with fail
  refine (specTrans_any _ _ _ x0 _ os0.rd Hn0.out (by omega) os0.1.lt).mono ?_
  rintro e w2 ⟨rw0, aw1, nw1, cw1, aw2, nw2, cw2, rw3, midw, rfl, Hw0, ow1, ow2, Hw3, hmaw, hmbw, hb2⟩
  have hB2 := hB1.trans (hb2.mono hB1.size)
  have hsz2 : w1.heap.size ≤ w2.heap.size := hb2.size
  have os0_2 := os0.below hb2; clear os0
  obtain rfl : L1 = nw1 := by rw [← HL1.out]; exact ow1.len
  obtain rfl : L2 = nw2 := by rw [← HL2.out]; exact ow2.len
  clear os0_2
  go_wp2_with fail
  refine (conv_I _ _ _ x0 _ (hr0.below hB2) Hn0.out (by omega)).mono ?_
  rintro e w3 ⟨ax0, cx0, rfl, ox0, hb3⟩
  have hB3 := hB2.trans (hb3.mono hB2.size)
  have hsz3 : w2.heap.size ≤ w3.heap.size := hb3.size
  have ow1_3 := ow1.below hb3; clear ow1
  have ow2_3 := ow2.below hb3; clear ow2
  go_wp2_with fail
  refine (implTrans_capany _ _ _ x0 _ ox0.rd Hn0.out (by omega) ox0.1.lt).mono ?_
  rintro e w4 ⟨rg0, ag1, ng1, cg1, ag2, ng2, cg2, rg3, midg, rfl, Hg0, og1, og2, Hg3, hmag, hmbg, hb4⟩
  have hB4 := hB3.trans (hb4.mono hB3.size)
  have hsz4 : w3.heap.size ≤ w4.heap.size := hb4.size
  have ow1_4 := ow1_3.below hb4; clear ow1_3
  have ow2_4 := ow2_3.below hb4; clear ow2_3
  have ox0_4 := ox0.below hb4; clear ox0
  obtain rfl : rw0 = rg0 := by rw [Hw0.out, Hg0.out]
  clear Hg0
  obtain rfl : L1 = ng1 := by rw [← HL1.out]; exact og1.len
  obtain rfl : L2 = ng2 := by rw [← HL2.out]; exact og2.len
  obtain rfl : rw3 = rg3 := by rw [Hw3.out, Hg3.out]
  clear Hg3
  go_wp2_with fail
  refine (is (eq_I _ _ _ _ _ _ _ _ _ og1.rd ow1_4.rd HL1.out HL1.out (by omega)) (by simp : _ = true)).mono ?_
  rintro e w5 ⟨rfl, hd5⟩
  have hb5 : Below w4.heap.size w4 w5 := hd5.below _
  have hB5 := hB4.trans (hb5.mono hB4.size)
  have hsz5 : w4.heap.size ≤ w5.heap.size := hb5.size
  have ow1_5 := ow1_4.below hb5; clear ow1_4
  have ow2_5 := ow2_4.below hb5; clear ow2_4
  have ox0_5 := ox0_4.below hb5; clear ox0_4
  have og1_5 := og1.below hb5; clear og1
  have og2_5 := og2.below hb5; clear og2
  go_wp2_with fail
  refine (is (eq_II _ _ _ _ _ _ _ _ _ og2_5.rd ow2_5.rd HL2.out HL2.out (by omega) (tr2_few x0).2.2) (by simp : _ = true)).mono ?_
  rintro e w6 ⟨rfl, hd6⟩
  have hb6 : Below w5.heap.size w5 w6 := hd6.below _
  have hB6 := hB5.trans (hb6.mono hB5.size)
  have hsz6 : w5.heap.size ≤ w6.heap.size := hb6.size
  have ow1_6 := ow1_5.below hb6; clear ow1_5
  have ow2_6 := ow2_5.below hb6; clear ow2_5
  have ox0_6 := ox0_5.below hb6; clear ox0_5
  have og1_6 := og1_5.below hb6; clear og1_5
  have og2_6 := og2_5.below hb6; clear og2_5
  go_wp2_with fail
  refine (conv_I _ _ _ x0 _ (hr0.below hB6) Hn0.out (by omega)).mono ?_
  rintro e w7 ⟨ay0, cy0, rfl, oy0, hb7⟩
  have hB7 := hB6.trans (hb7.mono hB6.size)
  have hsz7 : w6.heap.size ≤ w7.heap.size := hb7.size
  have ow1_7 := ow1_6.below hb7; clear ow1_6
  have ow2_7 := ow2_6.below hb7; clear ow2_6
  have ox0_7 := ox0_6.below hb7; clear ox0_6
  have og1_7 := og1_6.below hb7; clear og1_6
  have og2_7 := og2_6.below hb7; clear og2_6
  go_wp2_with fail
  refine (is (eq_I _ _ _ _ _ _ _ _ _ ox0_7.rd oy0.rd Hn0.out Hn0.out (by omega)) (by simp : _ = true)).mono ?_
  rintro e w8 ⟨rfl, hd8⟩
  have hb8 : Below w7.heap.size w7 w8 := hd8.below _
  have hB8 := hB7.trans (hb8.mono hB7.size)
  have hsz8 : w7.heap.size ≤ w8.heap.size := hb8.size
  have ow1_8 := ow1_7.below hb8; clear ow1_7
  have ow2_8 := ow2_7.below hb8; clear ow2_7
  have ox0_8 := ox0_7.below hb8; clear ox0_7
  have og1_8 := og1_7.below hb8; clear og1_7
  have og2_8 := og2_7.below hb8; clear og2_7
  have oy0_8 := oy0.below hb8; clear oy0
  clear oy0_8
  go_wp2_with fail
  refine (mark_I w2.heap.size w3.heap.size _ _ _ _ _ _ ox0_8 (by omega) (by omega) (by omega) Hn0.out).mono ?_
  rintro e w9 ⟨rfl, mx0, ho9⟩
  have hB9 := ho9.below hB8 (by omega) (by omega)
  have hsz9 : w8.heap.size ≤ w9.heap.size := ho9.size
  have ow1_9 := ow1_8.only ho9 (by omega); clear ow1_8
  have ow2_9 := ow2_8.only ho9 (by omega); clear ow2_8
  have og1_9 := og1_8.only ho9 (by omega); clear og1_8
  have og2_9 := og2_8.only ho9 (by omega); clear og2_8
  go_wp2_with fail
  refine (is (eq_I _ _ _ _ _ _ _ _ _ og1_9.rd ow1_9.rd HL1.out HL1.out (by omega)) (by simp : _ = true)).mono ?_
  rintro e w10 ⟨rfl, hd10⟩
  have hb10 : Below w9.heap.size w9 w10 := hd10.below _
  have hB10 := hB9.trans (hb10.mono hB9.size)
  have hsz10 : w9.heap.size ≤ w10.heap.size := hb10.size
  have ow1_10 := ow1_9.below hb10; clear ow1_9
  have ow2_10 := ow2_9.below hb10; clear ow2_9
  have og1_10 := og1_9.below hb10; clear og1_9
  have og2_10 := og2_9.below hb10; clear og2_9
  have ox0_10 := mx0.below hb10; clear mx0
  go_wp2_with fail
  refine (is (eq_II _ _ _ _ _ _ _ _ _ og2_10.rd ow2_10.rd HL2.out HL2.out (by omega) (tr2_few x0).2.2) (by simp : _ = true)).mono ?_
  rintro e w11 ⟨rfl, hd11⟩
  have hb11 : Below w10.heap.size w10 w11 := hd11.below _
  have hB11 := hB10.trans (hb11.mono hB10.size)
  have hsz11 : w10.heap.size ≤ w11.heap.size := hb11.size
  have ow1_11 := ow1_10.below hb11; clear ow1_10
  have ow2_11 := ow2_10.below hb11; clear ow2_10
  have og1_11 := og1_10.below hb11; clear og1_10
  have og2_11 := og2_10.below hb11; clear og2_10
  have ox0_11 := ox0_10.below hb11; clear ox0_10
  go_wp2_with fail
  refine (mark_I w3.heap.size midg _ _ _ _ _ _ og1_11 (by omega) (by omega) (by omega) HZ1.out).mono ?_
  rintro e w12 ⟨rfl, mg1, ho12⟩
  have hB12 := ho12.below hB11 (by omega) (by omega)
  have hsz12 : w11.heap.size ≤ w12.heap.size := ho12.size
  have ow1_12 := ow1_11.only ho12 (by omega); clear ow1_11
  have ow2_12 := ow2_11.only ho12 (by omega); clear ow2_11
  have og2_12 := og2_11.only ho12 (by omega); clear og2_11
  have ox0_12 := ox0_11.only ho12 (by omega); clear ox0_11
  go_wp2_with fail
  refine (mark_II midg w4.heap.size _ _ _ _ _ _ og2_12 (by omega) (by omega) (by omega) HZ2.out (by omega)).mono ?_
  rintro e w13 ⟨rfl, mg2, ho13⟩
  have hB13 := ho13.below hB12 (by omega) (by omega)
  have hsz13 : w12.heap.size ≤ w13.heap.size := ho13.size
  have ow1_13 := ow1_12.only ho13 (by omega); clear ow1_12
  have ow2_13 := ow2_12.only ho13 (by omega); clear ow2_12
  have ox0_13 := ox0_12.only ho13 (by omega); clear ox0_12
  have og1_13 := mg1.only ho13 (by omega); clear mg1
  go_wp2_with fail
  refine (held_I _ _ _ _ _ _ og1_13 (by omega) (by omega) (by omega) HZ1.out).mono ?_
  rintro e w14 ⟨rfl, hd14⟩
  have hb14 : Below w13.heap.size w13 w14 := hd14.below _
  have hB14 := hB13.trans (hb14.mono hB13.size)
  have hsz14 : w13.heap.size ≤ w14.heap.size := hb14.size
  have ow1_14 := ow1_13.below hb14; clear ow1_13
  have ow2_14 := ow2_13.below hb14; clear ow2_13
  have ox0_14 := ox0_13.below hb14; clear ox0_13
  have og1_14 := og1_13.below hb14; clear og1_13
  have og2_14 := mg2.below hb14; clear mg2
  go_wp2_with fail
  refine (held_II _ _ _ _ _ _ og2_14 (by omega) (by omega) (by omega) HZ2.out (by omega)).mono ?_
  rintro e w15 ⟨rfl, hd15⟩
  have hb15 : Below w14.heap.size w14 w15 := hd15.below _
  have hB15 := hB14.trans (hb15.mono hB14.size)
  have hsz15 : w14.heap.size ≤ w15.heap.size := hb15.size
  have ow1_15 := ow1_14.below hb15; clear ow1_14
  have ow2_15 := ow2_14.below hb15; clear ow2_14
  have ox0_15 := ox0_14.below hb15; clear ox0_14
  have og1_15 := og1_14.below hb15; clear og1_14
  have og2_15 := og2_14.below hb15; clear og2_14
  clear ox0_15
  go_wp2_with fail
  refine (conv_I _ _ _ x0 _ (hr0.below hB15) Hn0.out (by omega)).mono ?_
  rintro e w16 ⟨az0, cz0, rfl, oz0, hb16⟩
  have hB16 := hB15.trans (hb16.mono hB15.size)
  have hsz16 : w15.heap.size ≤ w16.heap.size := hb16.size
  have ow1_16 := ow1_15.below hb16; clear ow1_15
  have ow2_16 := ow2_15.below hb16; clear ow2_15
  have og1_16 := og1_15.below hb16; clear og1_15
  have og2_16 := og2_15.below hb16; clear og2_15
  go_wp2_with fail
  refine (implTrans_capany _ _ _ x0 _ oz0.rd Hn0.out (by omega) oz0.1.lt).mono ?_
  rintro e w17 ⟨rh0, ah1, nh1, ch1, ah2, nh2, ch2, rh3, midh, rfl, Hh0, oh1, oh2, Hh3, hmah, hmbh, hb17⟩
  have hB17 := hB16.trans (hb17.mono hB16.size)
  have hsz17 : w16.heap.size ≤ w17.heap.size := hb17.size
  have ow1_17 := ow1_16.below hb17; clear ow1_16
  have ow2_17 := ow2_16.below hb17; clear ow2_16
  have og1_17 := og1_16.below hb17; clear og1_16
  have og2_17 := og2_16.below hb17; clear og2_16
  have oz0_17 := oz0.below hb17; clear oz0
  obtain rfl : rw0 = rh0 := by rw [Hw0.out, Hh0.out]
  clear Hh0
  obtain rfl : L1 = nh1 := by rw [← HL1.out]; exact oh1.len
  obtain rfl : L2 = nh2 := by rw [← HL2.out]; exact oh2.len
  obtain rfl : rw3 = rh3 := by rw [Hw3.out, Hh3.out]
  clear Hh3
  go_wp2_with fail
  refine (is (eq_I _ _ _ _ _ _ _ _ _ oh1.rd ow1_17.rd HL1.out HL1.out (by omega)) (by simp : _ = true)).mono ?_
  rintro e w18 ⟨rfl, hd18⟩
  have hb18 : Below w17.heap.size w17 w18 := hd18.below _
  have hB18 := hB17.trans (hb18.mono hB17.size)
  have hsz18 : w17.heap.size ≤ w18.heap.size := hb18.size
  have ow1_18 := ow1_17.below hb18; clear ow1_17
  have ow2_18 := ow2_17.below hb18; clear ow2_17
  have og1_18 := og1_17.below hb18; clear og1_17
  have og2_18 := og2_17.below hb18; clear og2_17
  have oz0_18 := oz0_17.below hb18; clear oz0_17
  have oh1_18 := oh1.below hb18; clear oh1
  have oh2_18 := oh2.below hb18; clear oh2
  go_wp2_with fail
  refine (is (eq_II _ _ _ _ _ _ _ _ _ oh2_18.rd ow2_18.rd HL2.out HL2.out (by omega) (tr2_few x0).2.2) (by simp : _ = true)).mono ?_
  rintro e w19 ⟨rfl, hd19⟩
  have hb19 : Below w18.heap.size w18 w19 := hd19.below _
  have hB19 := hB18.trans (hb19.mono hB18.size)
  have hsz19 : w18.heap.size ≤ w19.heap.size := hb19.size
  have ow1_19 := ow1_18.below hb19; clear ow1_18
  have ow2_19 := ow2_18.below hb19; clear ow2_18
  have og1_19 := og1_18.below hb19; clear og1_18
  have og2_19 := og2_18.below hb19; clear og2_18
  have oz0_19 := oz0_18.below hb19; clear oz0_18
  have oh1_19 := oh1_18.below hb19; clear oh1_18
  have oh2_19 := oh2_18.below hb19; clear oh2_18
  go_wp2_with fail
  refine (held_I _ _ _ _ _ _ og1_19 (by omega) (by omega) (by omega) HZ1.out).mono ?_
  rintro e w20 ⟨rfl, hd20⟩
  have hb20 : Below w19.heap.size w19 w20 := hd20.below _
  have hB20 := hB19.trans (hb20.mono hB19.size)
  have hsz20 : w19.heap.size ≤ w20.heap.size := hb20.size
  have ow1_20 := ow1_19.below hb20; clear ow1_19
  have ow2_20 := ow2_19.below hb20; clear ow2_19
  have og1_20 := og1_19.below hb20; clear og1_19
  have og2_20 := og2_19.below hb20; clear og2_19
  have oz0_20 := oz0_19.below hb20; clear oz0_19
  have oh1_20 := oh1_19.below hb20; clear oh1_19
  have oh2_20 := oh2_19.below hb20; clear oh2_19
  go_wp2_with fail
  refine (held_II _ _ _ _ _ _ og2_20 (by omega) (by omega) (by omega) HZ2.out (by omega)).mono ?_
  rintro e w21 ⟨rfl, hd21⟩
  have hb21 : Below w20.heap.size w20 w21 := hd21.below _
  have hB21 := hB20.trans (hb21.mono hB20.size)
  have hsz21 : w20.heap.size ≤ w21.heap.size := hb21.size
  have ow1_21 := ow1_20.below hb21; clear ow1_20
  have ow2_21 := ow2_20.below hb21; clear ow2_20
  have og1_21 := og1_20.below hb21; clear og1_20
  have og2_21 := og2_20.below hb21; clear og2_20
  have oz0_21 := oz0_20.below hb21; clear oz0_20
  have oh1_21 := oh1_20.below hb21; clear oh1_20
  have oh2_21 := oh2_20.below hb21; clear oh2_20
  go_wp2
  go_ret
  exact ⟨rfl, hB21⟩
end Go.Proofs.Ytageojkepoejiaa
