/-
  Law FnExactEdelmanGreene: for every input the program's EdelmanGreene and the reference's return the same. No condition. Written by a program of ours (lawgen.py).
-/
import Derived.Test.YtleehkgfoicmdaaEg4
namespace Go.Proofs.Ytleehkgfoicmdaa
open Go.RowKit

set_option maxHeartbeats 3200000 in
theorem lawEdelmanGreene_walk (w : World) (x0 : Int) (hx0 : (Lit.int .i64 x0).wf = true) (a1 : Option Addr) (n1 c1 : Nat) (x1 : List Int) (hr1 : RI w a1 x1) (hn1 : x1.length = n1) (hb1 : n1 ≤ 9223372036854775807) (_hz1 : ∀ x ∈ x1, (Lit.int .i64 x).wf = true) :
    Calls Try.prog 17 #[.int .i64 x0, .slice a1 n1 c1] w fun e w' => e = .returned (.bool true) ∧ Below w.heap.size w w' := by
  have Hn1 := Lib.hid hn1; clear hn1
  obtain ⟨hl0, hu0⟩ : -9223372036854775808 ≤ x0 ∧ x0 ≤ 9223372036854775807 := wf_bounds hx0
  clear hx0
  by_cases hbig1 : 1048576 < n1
  · go_enter Try.func17, Try.ntmps17
    go_wp2
    go_ret
    exact ⟨rfl, Below.refl _ _⟩
  go_enter Try.func17, Try.ntmps17
  have hB0 : Below w.heap.size w w := Below.refl _ _
  obtain ⟨L0, hL0⟩ : ∃ L, List.length ((egOf x0 x1).1) = L := ⟨_, rfl⟩
  have hLb0 : L0 ≤ 1048576 := by rw [← hL0]; exact (Nat.le_trans (egOf_few x0 x1).1.1 (by omega))
  have HL0 := Lib.hid hL0; clear hL0
  obtain ⟨Z0, hZ0⟩ : ∃ Z, sz_II ((egOf x0 x1).1) = Z := ⟨_, rfl⟩
  have hZb0 : Z0 ≤ 1099511627776 := by rw [← hZ0]; exact (Nat.le_trans (egOf_few x0 x1).1.2.1 (by omega))
  have HZ0 := Lib.hid hZ0; clear hZ0
  obtain ⟨L1, hL1⟩ : ∃ L, List.length ((egOf x0 x1).2.1) = L := ⟨_, rfl⟩
  have hLb1 : L1 ≤ 1048576 := by rw [← hL1]; exact (Nat.le_trans (egOf_few x0 x1).2.1 (by omega))
  have HL1 := Lib.hid hL1; clear hL1
  obtain ⟨Z1, hZ1⟩ : ∃ Z, sz_II ((egOf x0 x1).2.1) = Z := ⟨_, rfl⟩
  have hZb1 : Z1 ≤ 1099511627776 := by rw [← hZ1]; exact (Nat.le_trans (egOf_few x0 x1).2.2.1 (by omega))
  have HZ1 := Lib.hid hZ1; clear hZ1
  go_wp2_with fail
  refine (conv_I _ _ _ x1 _ (hr1.below hB0) Hn1.out (by omega)).mono ?_
  rintro e w1 ⟨as1, cs1, rfl, os1, hb1⟩
  have hB1 := hB0.trans (hb1.mono hB0.size)
  have hsz1 : w.heap.size ≤ w1.heap.size := hb1.size
  go_wp2_with fail
  refine (specEg_post _ _ _ _ x1 _ hl0 hu0 os1.rd Hn1.out (by omega)).mono ?_
  rintro e w2 ⟨aw0, nw0, cw0, aw1, nw1, cw1, rw2, rfl, ow0, ow1, Hw2, hb2⟩
  have hB2 := hB1.trans (hb2.mono hB1.size)
  have hsz2 : w1.heap.size ≤ w2.heap.size := hb2.size
  have os1_2 := os1.below hb2; clear os1
  obtain rfl : L0 = nw0 := by rw [← HL0.out]; exact ow0.len
  obtain rfl : L1 = nw1 := by rw [← HL1.out]; exact ow1.len
  clear os1_2
  go_wp2_with fail
  refine (conv_I _ _ _ x1 _ (hr1.below hB2) Hn1.out (by omega)).mono ?_
  rintro e w3 ⟨ax1, cx1, rfl, ox1, hb3⟩
  have hB3 := hB2.trans (hb3.mono hB2.size)
  have hsz3 : w2.heap.size ≤ w3.heap.size := hb3.size
  have ow0_3 := ow0.below hb3; clear ow0
  have ow1_3 := ow1.below hb3; clear ow1
  go_wp2_with fail
  refine (implEg_post _ _ _ _ x1 _ hl0 hu0 ox1.rd Hn1.out (by omega)).mono ?_
  rintro e w4 ⟨ag0, ng0, cg0, ag1, ng1, cg1, rg2, rfl, HJg, Hg2, hb4⟩
  obtain ⟨Pg, hPg, og0, og1⟩ := HJg.out
  clear HJg
  have hB4 := hB3.trans (hb4.mono hB3.size)
  have hsz4 : w3.heap.size ≤ w4.heap.size := hb4.size
  have ow0_4 := ow0_3.below hb4; clear ow0_3
  have ow1_4 := ow1_3.below hb4; clear ow1_3
  have ox1_4 := ox1.below hb4; clear ox1
  obtain rfl : L0 = ng0 := by rw [← HL0.out]; exact og0.len
  obtain rfl : L1 = ng1 := by rw [← HL1.out]; exact og1.len
  obtain rfl : rw2 = rg2 := by rw [Hw2.out, Hg2.out]
  clear Hg2
  go_wp2_with fail
  refine (is (eq_II _ _ _ _ _ _ _ _ _ og0.rd ow0_4.rd HL0.out HL0.out (by omega) (egOf_few x0 x1).1.2.2) (by simp : _ = true)).mono ?_
  rintro e w5 ⟨rfl, hd5⟩
  have hb5 : Below w4.heap.size w4 w5 := hd5.below _
  have hB5 := hB4.trans (hb5.mono hB4.size)
  have hsz5 : w4.heap.size ≤ w5.heap.size := hb5.size
  have ow0_5 := ow0_4.below hb5; clear ow0_4
  have ow1_5 := ow1_4.below hb5; clear ow1_4
  have ox1_5 := ox1_4.below hb5; clear ox1_4
  have og0_5 := og0.below hb5; clear og0
  have og1_5 := og1.below hb5; clear og1
  go_wp2_with fail
  refine (is (eq_II _ _ _ _ _ _ _ _ _ og1_5.rd ow1_5.rd HL1.out HL1.out (by omega) (egOf_few x0 x1).2.2.2) (by simp : _ = true)).mono ?_
  rintro e w6 ⟨rfl, hd6⟩
  have hb6 : Below w5.heap.size w5 w6 := hd6.below _
  have hB6 := hB5.trans (hb6.mono hB5.size)
  have hsz6 : w5.heap.size ≤ w6.heap.size := hb6.size
  have ow0_6 := ow0_5.below hb6; clear ow0_5
  have ow1_6 := ow1_5.below hb6; clear ow1_5
  have ox1_6 := ox1_5.below hb6; clear ox1_5
  have og0_6 := og0_5.below hb6; clear og0_5
  have og1_6 := og1_5.below hb6; clear og1_5
  go_wp2_with fail
  refine (conv_I _ _ _ x1 _ (hr1.below hB6) Hn1.out (by omega)).mono ?_
  rintro e w7 ⟨ay1, cy1, rfl, oy1, hb7⟩
  have hB7 := hB6.trans (hb7.mono hB6.size)
  have hsz7 : w6.heap.size ≤ w7.heap.size := hb7.size
  have ow0_7 := ow0_6.below hb7; clear ow0_6
  have ow1_7 := ow1_6.below hb7; clear ow1_6
  have ox1_7 := ox1_6.below hb7; clear ox1_6
  have og0_7 := og0_6.below hb7; clear og0_6
  have og1_7 := og1_6.below hb7; clear og1_6
  go_wp2_with fail
  refine (is (eq_I _ _ _ _ _ _ _ _ _ ox1_7.rd oy1.rd Hn1.out Hn1.out (by omega)) (by simp : _ = true)).mono ?_
  rintro e w8 ⟨rfl, hd8⟩
  have hb8 : Below w7.heap.size w7 w8 := hd8.below _
  have hB8 := hB7.trans (hb8.mono hB7.size)
  have hsz8 : w7.heap.size ≤ w8.heap.size := hb8.size
  have ow0_8 := ow0_7.below hb8; clear ow0_7
  have ow1_8 := ow1_7.below hb8; clear ow1_7
  have ox1_8 := ox1_7.below hb8; clear ox1_7
  have og0_8 := og0_7.below hb8; clear og0_7
  have og1_8 := og1_7.below hb8; clear og1_7
  have oy1_8 := oy1.below hb8; clear oy1
  clear oy1_8
  go_wp2_with fail
  refine (mark_I w2.heap.size w3.heap.size _ _ _ _ _ _ ox1_8 (by omega) (by omega) (by omega) Hn1.out).mono ?_
  rintro e w9 ⟨rfl, mx1, ho9⟩
  have hB9 := ho9.below hB8 (by omega) (by omega)
  have hsz9 : w8.heap.size ≤ w9.heap.size := ho9.size
  have ow0_9 := ow0_8.only ho9 (by omega); clear ow0_8
  have ow1_9 := ow1_8.only ho9 (by omega); clear ow1_8
  have og0_9 := og0_8.only ho9.toQ (fun k _ hk hk2 => by have := hPg k hk; omega); clear og0_8
  have og1_9 := og1_8.only ho9.toQ (fun k _ hk hk2 => by have := hk.1; omega); clear og1_8
  go_wp2_with fail
  refine (is (eq_II _ _ _ _ _ _ _ _ _ og0_9.rd ow0_9.rd HL0.out HL0.out (by omega) (egOf_few x0 x1).1.2.2) (by simp : _ = true)).mono ?_
  rintro e w10 ⟨rfl, hd10⟩
  have hb10 : Below w9.heap.size w9 w10 := hd10.below _
  have hB10 := hB9.trans (hb10.mono hB9.size)
  have hsz10 : w9.heap.size ≤ w10.heap.size := hb10.size
  have ow0_10 := ow0_9.below hb10; clear ow0_9
  have ow1_10 := ow1_9.below hb10; clear ow1_9
  have og0_10 := og0_9.below hb10; clear og0_9
  have og1_10 := og1_9.below hb10; clear og1_9
  have ox1_10 := mx1.below hb10; clear mx1
  go_wp2_with fail
  refine (is (eq_II _ _ _ _ _ _ _ _ _ og1_10.rd ow1_10.rd HL1.out HL1.out (by omega) (egOf_few x0 x1).2.2.2) (by simp : _ = true)).mono ?_
  rintro e w11 ⟨rfl, hd11⟩
  have hb11 : Below w10.heap.size w10 w11 := hd11.below _
  have hB11 := hB10.trans (hb11.mono hB10.size)
  have hsz11 : w10.heap.size ≤ w11.heap.size := hb11.size
  have ow0_11 := ow0_10.below hb11; clear ow0_10
  have ow1_11 := ow1_10.below hb11; clear ow1_10
  have og0_11 := og0_10.below hb11; clear og0_10
  have og1_11 := og1_10.below hb11; clear og1_10
  have ox1_11 := ox1_10.below hb11; clear ox1_10
  go_wp2_with fail
  refine (markQ _ _ _ _ _ _ og0_11 (by omega) (by omega) (by omega) HZ0.out (by omega)).mono ?_
  rintro e w12 ⟨rfl, mg0, ho12⟩
  have hoi12 := ho12.to (B := w3.heap.size) (S := w11.heap.size) (fun k hk hq => ⟨hPg k hq, hk⟩)
  have hB12 := hoi12.below hB11 (by omega) (by omega)
  have hsz12 : w11.heap.size ≤ w12.heap.size := ho12.size
  have ow0_12 := ow0_11.only hoi12 (by omega); clear ow0_11
  have ow1_12 := ow1_11.only hoi12 (by omega); clear ow1_11
  have og1_12 := og1_11.only ho12 (fun k _ hk hk2 => hk.2 hk2); clear og1_11
  have ox1_12 := ox1_11.only hoi12 (by omega); clear ox1_11
  go_wp2_with fail
  refine (markQ _ _ _ _ _ _ og1_12 (by omega) (by omega) (by omega) HZ1.out (by omega)).mono ?_
  rintro e w13 ⟨rfl, mg1, ho13⟩
  have hoi13 := ho13.to (B := w3.heap.size) (S := w12.heap.size) (fun k hk hq => ⟨hq.1, hk⟩)
  have hB13 := hoi13.below hB12 (by omega) (by omega)
  have hsz13 : w12.heap.size ≤ w13.heap.size := ho13.size
  have ow0_13 := ow0_12.only hoi13 (by omega); clear ow0_12
  have ow1_13 := ow1_12.only hoi13 (by omega); clear ow1_12
  have ox1_13 := ox1_12.only hoi13 (by omega); clear ox1_12
  have og0_13 := mg0.only ho13 (fun k _ hk hk2 => hk2.2 hk); clear mg0
  go_wp2_with fail
  refine (heldQ _ _ _ _ _ _ og0_13 (by omega) (by omega) (by omega) HZ0.out (by omega)).mono ?_
  rintro e w14 ⟨rfl, hd14⟩
  have hb14 : Below w13.heap.size w13 w14 := hd14.below _
  have hB14 := hB13.trans (hb14.mono hB13.size)
  have hsz14 : w13.heap.size ≤ w14.heap.size := hb14.size
  have ow0_14 := ow0_13.below hb14; clear ow0_13
  have ow1_14 := ow1_13.below hb14; clear ow1_13
  have ox1_14 := ox1_13.below hb14; clear ox1_13
  have og0_14 := og0_13.below hb14; clear og0_13
  have og1_14 := mg1.below hb14; clear mg1
  go_wp2_with fail
  refine (heldQ _ _ _ _ _ _ og1_14 (by omega) (by omega) (by omega) HZ1.out (by omega)).mono ?_
  rintro e w15 ⟨rfl, hd15⟩
  have hb15 : Below w14.heap.size w14 w15 := hd15.below _
  have hB15 := hB14.trans (hb15.mono hB14.size)
  have hsz15 : w14.heap.size ≤ w15.heap.size := hb15.size
  have ow0_15 := ow0_14.below hb15; clear ow0_14
  have ow1_15 := ow1_14.below hb15; clear ow1_14
  have ox1_15 := ox1_14.below hb15; clear ox1_14
  have og0_15 := og0_14.below hb15; clear og0_14
  have og1_15 := og1_14.below hb15; clear og1_14
  clear ox1_15
  go_wp2_with fail
  refine (conv_I _ _ _ x1 _ (hr1.below hB15) Hn1.out (by omega)).mono ?_
  rintro e w16 ⟨az1, cz1, rfl, oz1, hb16⟩
  have hB16 := hB15.trans (hb16.mono hB15.size)
  have hsz16 : w15.heap.size ≤ w16.heap.size := hb16.size
  have ow0_16 := ow0_15.below hb16; clear ow0_15
  have ow1_16 := ow1_15.below hb16; clear ow1_15
  have og0_16 := og0_15.below hb16; clear og0_15
  have og1_16 := og1_15.below hb16; clear og1_15
  go_wp2_with fail
  refine (implEg_post _ _ _ _ x1 _ hl0 hu0 oz1.rd Hn1.out (by omega)).mono ?_
  rintro e w17 ⟨ah0, nh0, ch0, ah1, nh1, ch1, rh2, rfl, HJh, Hh2, hb17⟩
  obtain ⟨Ph, hPh, oh0, oh1⟩ := HJh.out
  clear HJh
  have hB17 := hB16.trans (hb17.mono hB16.size)
  have hsz17 : w16.heap.size ≤ w17.heap.size := hb17.size
  have ow0_17 := ow0_16.below hb17; clear ow0_16
  have ow1_17 := ow1_16.below hb17; clear ow1_16
  have og0_17 := og0_16.below hb17; clear og0_16
  have og1_17 := og1_16.below hb17; clear og1_16
  have oz1_17 := oz1.below hb17; clear oz1
  obtain rfl : L0 = nh0 := by rw [← HL0.out]; exact oh0.len
  obtain rfl : L1 = nh1 := by rw [← HL1.out]; exact oh1.len
  obtain rfl : rw2 = rh2 := by rw [Hw2.out, Hh2.out]
  clear Hh2
  go_wp2_with fail
  refine (is (eq_II _ _ _ _ _ _ _ _ _ oh0.rd ow0_17.rd HL0.out HL0.out (by omega) (egOf_few x0 x1).1.2.2) (by simp : _ = true)).mono ?_
  rintro e w18 ⟨rfl, hd18⟩
  have hb18 : Below w17.heap.size w17 w18 := hd18.below _
  have hB18 := hB17.trans (hb18.mono hB17.size)
  have hsz18 : w17.heap.size ≤ w18.heap.size := hb18.size
  have ow0_18 := ow0_17.below hb18; clear ow0_17
  have ow1_18 := ow1_17.below hb18; clear ow1_17
  have og0_18 := og0_17.below hb18; clear og0_17
  have og1_18 := og1_17.below hb18; clear og1_17
  have oz1_18 := oz1_17.below hb18; clear oz1_17
  have oh0_18 := oh0.below hb18; clear oh0
  have oh1_18 := oh1.below hb18; clear oh1
  go_wp2_with fail
  refine (is (eq_II _ _ _ _ _ _ _ _ _ oh1_18.rd ow1_18.rd HL1.out HL1.out (by omega) (egOf_few x0 x1).2.2.2) (by simp : _ = true)).mono ?_
  rintro e w19 ⟨rfl, hd19⟩
  have hb19 : Below w18.heap.size w18 w19 := hd19.below _
  have hB19 := hB18.trans (hb19.mono hB18.size)
  have hsz19 : w18.heap.size ≤ w19.heap.size := hb19.size
  have ow0_19 := ow0_18.below hb19; clear ow0_18
  have ow1_19 := ow1_18.below hb19; clear ow1_18
  have og0_19 := og0_18.below hb19; clear og0_18
  have og1_19 := og1_18.below hb19; clear og1_18
  have oz1_19 := oz1_18.below hb19; clear oz1_18
  have oh0_19 := oh0_18.below hb19; clear oh0_18
  have oh1_19 := oh1_18.below hb19; clear oh1_18
  go_wp2_with fail
  refine (heldQ _ _ _ _ _ _ og0_19 (by omega) (by omega) (by omega) HZ0.out (by omega)).mono ?_
  rintro e w20 ⟨rfl, hd20⟩
  have hb20 : Below w19.heap.size w19 w20 := hd20.below _
  have hB20 := hB19.trans (hb20.mono hB19.size)
  have hsz20 : w19.heap.size ≤ w20.heap.size := hb20.size
  have ow0_20 := ow0_19.below hb20; clear ow0_19
  have ow1_20 := ow1_19.below hb20; clear ow1_19
  have og0_20 := og0_19.below hb20; clear og0_19
  have og1_20 := og1_19.below hb20; clear og1_19
  have oz1_20 := oz1_19.below hb20; clear oz1_19
  have oh0_20 := oh0_19.below hb20; clear oh0_19
  have oh1_20 := oh1_19.below hb20; clear oh1_19
  go_wp2_with fail
  refine (heldQ _ _ _ _ _ _ og1_20 (by omega) (by omega) (by omega) HZ1.out (by omega)).mono ?_
  rintro e w21 ⟨rfl, hd21⟩
  have hb21 : Below w20.heap.size w20 w21 := hd21.below _
  have hB21 := hB20.trans (hb21.mono hB20.size)
  have hsz21 : w20.heap.size ≤ w21.heap.size := hb21.size
  have ow0_21 := ow0_20.below hb21; clear ow0_20
  have ow1_21 := ow1_20.below hb21; clear ow1_20
  have og0_21 := og0_20.below hb21; clear og0_20
  have og1_21 := og1_20.below hb21; clear og1_20
  have oz1_21 := oz1_20.below hb21; clear oz1_20
  have oh0_21 := oh0_20.below hb21; clear oh0_20
  have oh1_21 := oh1_20.below hb21; clear oh1_20
  go_wp2
  go_ret
  exact ⟨rfl, hB21⟩
end Go.Proofs.Ytleehkgfoicmdaa
