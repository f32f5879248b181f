/-
  Law FnPolyRing: for every input the drawn polynomials obey the laws of a ring, and values go with sums and products. No condition. Written by a program of ours (ring.py).
-/
import Derived.Test.YtblhndkaikelaaaDrawPoly2
import Derived.Test.YtblhndkaikelaaaShifts
import Derived.Test.YtblhndkaikelaaaLawRing
namespace Go.Proofs.Ytblhndkaikelaaa
open Go.RowKit

set_option maxRecDepth 100000 in
set_option maxHeartbeats 6400000 in
theorem lawPolyRing_walk (w : World) (a : Option Addr) (n c : Nat) (xs : List Int) (hr : RB w a xs) (hn : xs.length = n) (hb : n ≤ 9223372036854775807) (hbs : Bytes xs) :
    Calls Try.prog 3 #[.slice a n c] w fun e w' => e = .returned (.bool true) ∧ Below w.heap.size w w' := by
  have Hn := Lib.hid hn; clear hn
  have Hbs := Lib.hid hbs; clear hbs
  by_cases hbig : 1048576 < n
  · have h1 := Lib.hid (show decide (1048576 < n) = true by simpa using hbig)
    go_enter Try.func3, Try.ntmps3
    go_wp2_with fail
    refine (is (big_any _ _ _ _ hb) h1.out).mono ?_
    rintro e w1 ⟨rfl, rfl⟩
    go_wp2
    go_ret
    exact ⟨rfl, Below.refl _ _⟩
  · have h1 := Lib.hid (show decide (1048576 < n) = false by simpa using hbig)
    go_enter Try.func3, Try.ntmps3
    go_wp2_with fail
    refine (is (big_any _ _ _ _ hb) h1.out).mono ?_
    rintro e w1 ⟨rfl, rfl⟩
    go_wp2_with fail
    refine (drawPolys_any _ _ _ xs _ hr Hn.out (by omega) Hbs.out).mono ?_
    rintro e w1 ⟨F, G, H, af, nf, cf, ag, ng, cg, ah, nh, ch, i, rfl, hD, hE, hH, -, hPf, hPg, hPh, hB1⟩
    have HD := Lib.hid hD
    have HE := Lib.hid hE
    have HH := Lib.hid hH
    have HR := Lib.hid (ringOk hD hE hH)
    have hr1 := hr.below hB1
    clear hD hE hH hr h1
    go_wp2_with fail
    refine (drawValues_any _ _ _ xs _ hr1 Hn.out (by omega) Hbs.out).mono ?_
    rintro e w2 ⟨ys, ay, cy, rfl, hys, hoy, b2⟩
    have hB2 := hB1.trans (b2.mono hB1.size)
    have vf_2 := hPf.below b2; clear hPf
    have vg_2 := hPg.below b2; clear hPg
    have vh_2 := hPh.below b2; clear hPh
    have vrb_2 := hr1.below b2; clear hr1
    clear b2
    clear vrb_2
    have hry := hoy.rd
    have Hyl := Lib.hid hoy.len
    clear hys hoy
    obtain ⟨Av, hAv⟩ : ∃ A, vP ys F % 32003 = A := ⟨_, rfl⟩
    obtain ⟨Bv, hBv⟩ : ∃ B, vP ys G % 32003 = B := ⟨_, rfl⟩
    have hA0 : 0 ≤ Av ∧ Av < 32003 := by rw [← hAv]; exact ⟨Int.emod_nonneg _ (by decide), Int.emod_lt_of_pos _ (by decide)⟩
    have hB0 : 0 ≤ Bv ∧ Bv < 32003 := by rw [← hBv]; exact ⟨Int.emod_nonneg _ (by decide), Int.emod_lt_of_pos _ (by decide)⟩
    have HP := Lib.hid (show vP ys (timesM F G) % 32003 = (Av * Bv).tmod 32003 by rw [← hAv, ← hBv, res_mul, vals HD.out HE.out])
    have HA := Lib.hid (show vP ys (plusM F 1 G) % 32003 = (Av + Bv).tmod 32003 by rw [← hAv, ← hBv, res_add, vP_plus])
    have HAv := Lib.hid hAv
    have HBv := Lib.hid hBv
    clear hAv hBv
    have hmul := small_mul (a := Av) (b := Bv) (by omega) (by omega)
    have r1 : IntKind.i64.wrap (Av * Bv) = Av * Bv := IntWalk.i64_in _ (by omega)
    have r2 : IntKind.i64.wrap (Av + Bv) = Av + Bv := IntWalk.i64_in _ (by omega)
    go_wp2_with fail
    refine (implAdd_ok _ _ _ _ _ _ F G 1 _ vf_2 vg_2 (by omega) HD.out.okp HE.out.okp HR.out.a).mono ?_
    rintro e w3 ⟨Aa, na, ca, rfl, pa, b3⟩
    have hB3 := hB2.trans (b3.mono hB2.size)
    have vf_3 := vf_2.below b3; clear vf_2
    have vg_3 := vg_2.below b3; clear vg_2
    have vh_3 := vh_2.below b3; clear vh_2
    have vy_3 := hry.below b3; clear hry
    clear hB2 b3
    go_wp2_with fail
    refine (implMul_ok _ _ _ _ _ _ (plusM F 1 G) H _ pa vh_3 HR.out.a HH.out.okp HR.out.b).mono ?_
    rintro e w4 ⟨Ab, nb, cb, rfl, pb, b4⟩
    have hB4 := hB3.trans (b4.mono hB3.size)
    have vf_4 := vf_3.below b4; clear vf_3
    have vg_4 := vg_3.below b4; clear vg_3
    have vh_4 := vh_3.below b4; clear vh_3
    have vy_4 := vy_3.below b4; clear vy_3
    have va_4 := pa.below b4; clear pa
    clear hB3 b4
    go_wp2_with fail
    refine (specMul_ok _ _ _ _ _ _ (plusM F 1 G) H _ va_4 vh_4 HR.out.a HH.out.okp HR.out.b).mono ?_
    rintro e w5 ⟨Asm, nsm, csm, rfl, psm, b5⟩
    have hB5 := hB4.trans (b5.mono hB4.size)
    have vf_5 := vf_4.below b5; clear vf_4
    have vg_5 := vg_4.below b5; clear vg_4
    have vh_5 := vh_4.below b5; clear vh_4
    have vy_5 := vy_4.below b5; clear vy_4
    have va_5 := va_4.below b5; clear va_4
    have vb_5 := pb.below b5; clear pb
    clear hB4 b5
    clear psm
    go_wp2_with fail
    refine (times_law _ _ _ _ _ _ F H _ vf_5 vh_5 HD.out.okp HH.out.okp HR.out.fh).mono ?_
    rintro e w6 ⟨Afh, nfh, cfh, rfl, pfh, b6⟩
    have hB6 := hB5.trans (b6.mono hB5.size)
    have vf_6 := vf_5.below b6; clear vf_5
    have vg_6 := vg_5.below b6; clear vg_5
    have vh_6 := vh_5.below b6; clear vh_5
    have vy_6 := vy_5.below b6; clear vy_5
    have va_6 := va_5.below b6; clear va_5
    have vb_6 := vb_5.below b6; clear vb_5
    clear hB5 b6
    go_wp2_with fail
    refine (times_law _ _ _ _ _ _ G H _ vg_6 vh_6 HE.out.okp HH.out.okp HR.out.gh).mono ?_
    rintro e w7 ⟨Agh, ngh, cgh, rfl, pgh, b7⟩
    have hB7 := hB6.trans (b7.mono hB6.size)
    have vf_7 := vf_6.below b7; clear vf_6
    have vg_7 := vg_6.below b7; clear vg_6
    have vh_7 := vh_6.below b7; clear vh_6
    have vy_7 := vy_6.below b7; clear vy_6
    have va_7 := va_6.below b7; clear va_6
    have vb_7 := vb_6.below b7; clear vb_6
    have vfh_7 := pfh.below b7; clear pfh
    clear hB6 b7
    clear vh_7
    go_wp2_with fail
    refine (plus_law _ _ _ _ _ _ (timesM F H) (timesM G H) 1 _ vfh_7 pgh (by omega) HR.out.fh HR.out.gh HR.out.s).mono ?_
    rintro e w8 ⟨As, ns, cs, rfl, ps, b8⟩
    have hB8 := hB7.trans (b8.mono hB7.size)
    have vf_8 := vf_7.below b8; clear vf_7
    have vg_8 := vg_7.below b8; clear vg_7
    have vy_8 := vy_7.below b8; clear vy_7
    have va_8 := va_7.below b8; clear va_7
    have vb_8 := vb_7.below b8; clear vb_7
    have vfh_8 := vfh_7.below b8; clear vfh_7
    have vgh_8 := pgh.below b8; clear pgh
    clear hB7 b8
    clear vfh_8
    clear vgh_8
    go_wp2_with fail
    refine (terms_law _ _ _ _ _ _ (timesM (plusM F 1 G) H) (plusM (timesM F H) 1 (timesM G H)) _ vb_8 ps (distrib F G H).eqv).mono ?_
    rintro e w9 ⟨rfl, dr9⟩
    have hB9 := hB8.trans (dr9.below _)
    have vf_9 := vf_8.below (dr9.below _); clear vf_8
    have vg_9 := vg_8.below (dr9.below _); clear vg_8
    have vy_9 := vy_8.below (dr9.below _); clear vy_8
    have va_9 := va_8.below (dr9.below _); clear va_8
    have vb_9 := vb_8.below (dr9.below _); clear vb_8
    have vs_9 := ps.below (dr9.below _); clear ps
    clear hB8 dr9
    clear vb_9
    clear vs_9
    go_wp2_with fail
    refine (implMul_ok _ _ _ _ _ _ F G _ vf_9 vg_9 HD.out.okp HE.out.okp HR.out.p).mono ?_
    rintro e w10 ⟨Ap, np, cp, rfl, pp, b10⟩
    have hB10 := hB9.trans (b10.mono hB9.size)
    have vf_10 := vf_9.below b10; clear vf_9
    have vg_10 := vg_9.below b10; clear vg_9
    have vy_10 := vy_9.below b10; clear vy_9
    have va_10 := va_9.below b10; clear va_9
    clear hB9 b10
    go_wp2_with fail
    refine (times_law _ _ _ _ _ _ G F _ vg_10 vf_10 HE.out.okp HD.out.okp HR.out.q).mono ?_
    rintro e w11 ⟨Aq, nq, cq, rfl, pq, b11⟩
    have hB11 := hB10.trans (b11.mono hB10.size)
    have vf_11 := vf_10.below b11; clear vf_10
    have vg_11 := vg_10.below b11; clear vg_10
    have vy_11 := vy_10.below b11; clear vy_10
    have va_11 := va_10.below b11; clear va_10
    have vp_11 := pp.below b11; clear pp
    clear hB10 b11
    go_wp2_with fail
    refine (terms_law _ _ _ _ _ _ (timesM F G) (timesM G F) _ vp_11 pq (times_comm F G)).mono ?_
    rintro e w12 ⟨rfl, dr12⟩
    have hB12 := hB11.trans (dr12.below _)
    have vf_12 := vf_11.below (dr12.below _); clear vf_11
    have vg_12 := vg_11.below (dr12.below _); clear vg_11
    have vy_12 := vy_11.below (dr12.below _); clear vy_11
    have va_12 := va_11.below (dr12.below _); clear va_11
    have vp_12 := vp_11.below (dr12.below _); clear vp_11
    have vq_12 := pq.below (dr12.below _); clear pq
    clear hB11 dr12
    clear vq_12
    go_wp2_with fail
    refine (isInt (implEval_ok _ _ _ _ _ (timesM F G) ys _ vp_12 HR.out.p HR.out.np vy_12 Hyl.out) HP.out).mono ?_
    rintro e w13 ⟨rfl, b13⟩
    have hB13 := hB12.trans (b13.mono hB12.size)
    have vf_13 := vf_12.below b13; clear vf_12
    have vg_13 := vg_12.below b13; clear vg_12
    have vy_13 := vy_12.below b13; clear vy_12
    have va_13 := va_12.below b13; clear va_12
    have vp_13 := vp_12.below b13; clear vp_12
    clear hB12 b13
    clear vp_13
    go_wp2_with fail
    refine (isInt (implEval_ok _ _ _ _ _ (F) ys _ vf_13 HD.out.okp HR.out.nf vy_13 Hyl.out) HAv.out).mono ?_
    rintro e w14 ⟨rfl, b14⟩
    have hB14 := hB13.trans (b14.mono hB13.size)
    have vf_14 := vf_13.below b14; clear vf_13
    have vg_14 := vg_13.below b14; clear vg_13
    have vy_14 := vy_13.below b14; clear vy_13
    have va_14 := va_13.below b14; clear va_13
    clear hB13 b14
    go_wp2_with fail
    refine (isInt (implEval_ok _ _ _ _ _ (G) ys _ vg_14 HE.out.okp HR.out.ng vy_14 Hyl.out) HBv.out).mono ?_
    rintro e w15 ⟨rfl, b15⟩
    have hB15 := hB14.trans (b15.mono hB14.size)
    have vf_15 := vf_14.below b15; clear vf_14
    have vg_15 := vg_14.below b15; clear vg_14
    have vy_15 := vy_14.below b15; clear vy_14
    have va_15 := va_14.below b15; clear va_14
    clear hB14 b15
    go_wp2_with fail
    refine (isInt (implEval_ok _ _ _ _ _ (plusM F 1 G) ys _ va_15 HR.out.a HR.out.na vy_15 Hyl.out) HA.out).mono ?_
    rintro e w16 ⟨rfl, b16⟩
    have hB16 := hB15.trans (b16.mono hB15.size)
    have vf_16 := vf_15.below b16; clear vf_15
    have vg_16 := vg_15.below b16; clear vg_15
    have vy_16 := vy_15.below b16; clear vy_15
    have va_16 := va_15.below b16; clear va_15
    clear hB15 b16
    clear va_16
    go_wp2_with fail
    refine (isInt (implEval_ok _ _ _ _ _ (F) ys _ vf_16 HD.out.okp HR.out.nf vy_16 Hyl.out) HAv.out).mono ?_
    rintro e w17 ⟨rfl, b17⟩
    have hB17 := hB16.trans (b17.mono hB16.size)
    have vf_17 := vf_16.below b17; clear vf_16
    have vg_17 := vg_16.below b17; clear vg_16
    have vy_17 := vy_16.below b17; clear vy_16
    clear hB16 b17
    go_wp2_with fail
    refine (isInt (implEval_ok _ _ _ _ _ (G) ys _ vg_17 HE.out.okp HR.out.ng vy_17 Hyl.out) HBv.out).mono ?_
    rintro e w18 ⟨rfl, b18⟩
    have hB18 := hB17.trans (b18.mono hB17.size)
    have vf_18 := vf_17.below b18; clear vf_17
    have vg_18 := vg_17.below b18; clear vg_17
    have vy_18 := vy_17.below b18; clear vy_17
    clear hB17 b18
    clear vg_18
    clear vy_18
    go_wp2_with fail
    refine (plus_law _ _ _ _ _ _ F F (-1) _ vf_18 vf_18 (by omega) HD.out.okp HD.out.okp HR.out.m).mono ?_
    rintro e w19 ⟨Az, nz, cz, rfl, pz, b19⟩
    have hB19 := hB18.trans (b19.mono hB18.size)
    have vf_19 := vf_18.below b19; clear vf_18
    clear hB18 b19
    clear vf_19
    obtain rfl : nz = 0 := by have := pz.len; rw [none_len (minus_self F)] at this; exact this.symm
    clear pz
    go_wp2
    go_ret
    exact ⟨rfl, hB19⟩
end Go.Proofs.Ytblhndkaikelaaa
