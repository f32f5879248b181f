/-
  Law FnLeibniz: for every input Leibniz' rule holds at two drawn polynomials. No condition. Written by a program of ours (leib.py).
-/
import Derived.Test.YtblhndkaikelaaaDrawPoly2
import Derived.Test.YtblhndkaikelaaaLeibLaw
import Derived.Test.YtblhndkaikelaaaLawSwap
namespace Go.Proofs.Ytblhndkaikelaaa
open Go.RowKit

set_option maxRecDepth 100000 in
set_option maxHeartbeats 6400000 in
theorem lawLeibniz_walk (w : World) (a : Option Addr) (n c : Nat) (xs : List Int) (hr : RB w a xs) (hn : xs.length = n) (hb : n ≤ 9223372036854775807) (hbs : Bytes xs) :
    Calls Try.prog 4 #[.slice a n c] w fun e w' => e = .returned (.bool true) ∧ Below w.heap.size w w' := by
  have Hn := Lib.hid hn; clear hn
  have Hbs := Lib.hid hbs; clear hbs
  by_cases hbig : 1048576 < n
  · have h1 := Lib.hid (show decide (1048576 < n) = true by simpa using hbig)
    go_enter Try.func4, Try.ntmps4
    go_wp2_with fail
    refine (is (big_any _ _ _ _ hb) h1.out).mono ?_
    rintro e w1 ⟨rfl, rfl⟩
    go_wp2
    go_ret
    exact ⟨rfl, Below.refl _ _⟩
  · have h1 := Lib.hid (show decide (1048576 < n) = false by simpa using hbig)
    go_enter Try.func4, Try.ntmps4
    go_wp2_with fail
    refine (is (big_any _ _ _ _ hb) h1.out).mono ?_
    rintro e w1 ⟨rfl, rfl⟩
    go_wp2_with fail
    refine (drawPolys_any _ _ _ xs _ hr Hn.out (by omega) Hbs.out).mono ?_
    rintro e w1 ⟨F, G, H, af, nf, cf, ag, ng, cg, ah, nh, ch, i, rfl, hD, hE, -, hi3, hPf, hPg, -, hB1⟩
    have HD := Lib.hid hD
    have HE := Lib.hid hE
    have HL := Lib.hid (leibOk hi3 hD hE)
    clear hD hE hr h1 hbig
    go_wp2_with fail
    refine (implMul_ok _ _ _ _ _ _ F G _ hPf hPg HD.out.okp HE.out.okp HL.out.p).mono ?_
    rintro e w2 ⟨Ap, np, cp, rfl, pp, b2⟩
    have hB2 := hB1.trans (b2.mono hB1.size)
    have vf_2 := hPf.below b2; clear hPf
    have vg_2 := hPg.below b2; clear hPg
    clear b2
    go_wp2_with fail
    refine (implDivOf_ok _ _ _ (timesM F G) i _ _ pp rfl (by omega) HL.out.p HL.out.d).mono ?_
    rintro e w3 ⟨Ad, nd, cd, rfl, pd, b3⟩
    have hB3 := hB2.trans (b3.mono hB2.size)
    have vf_3 := vf_2.below b3; clear vf_2
    have vg_3 := vg_2.below b3; clear vg_2
    have vp_3 := pp.below b3; clear pp
    clear hB2 b3
    clear vp_3
    go_wp2_with fail
    refine (divided_law _ _ _ F i _ _ vf_3 rfl (by omega) HD.out.okp HL.out.df).mono ?_
    rintro e w4 ⟨Ax, nx, cx, rfl, px, b4⟩
    have hB4 := hB3.trans (b4.mono hB3.size)
    have vf_4 := vf_3.below b4; clear vf_3
    have vg_4 := vg_3.below b4; clear vg_3
    have vd_4 := pd.below b4; clear pd
    clear hB3 b4
    go_wp2_with fail
    refine (times_law _ _ _ _ _ _ (dividedM i F) G _ px vg_4 HL.out.df HE.out.okp HL.out.a).mono ?_
    rintro e w5 ⟨Aa, na, ca, rfl, pa, b5⟩
    have hB5 := hB4.trans (b5.mono hB4.size)
    have vf_5 := vf_4.below b5; clear vf_4
    have vg_5 := vg_4.below b5; clear vg_4
    have vd_5 := vd_4.below b5; clear vd_4
    have vx_5 := px.below b5; clear px
    clear hB4 b5
    clear vx_5
    go_wp2_with fail
    refine (implSwap_ok _ _ _ F i _ _ vf_5 rfl (by omega) HD.out.okp HL.out.sf).mono ?_
    rintro e w6 ⟨As, ns, cs, rfl, ps, b6⟩
    have hB6 := hB5.trans (b6.mono hB5.size)
    have vf_6 := vf_5.below b6; clear vf_5
    have vg_6 := vg_5.below b6; clear vg_5
    have vd_6 := vd_5.below b6; clear vd_5
    have va_6 := pa.below b6; clear pa
    clear hB5 b6
    go_wp2_with fail
    refine (divided_law _ _ _ G i _ _ vg_6 rfl (by omega) HE.out.okp HL.out.dg).mono ?_
    rintro e w7 ⟨Ay, ny, cy, rfl, py, b7⟩
    have hB7 := hB6.trans (b7.mono hB6.size)
    have vf_7 := vf_6.below b7; clear vf_6
    have vg_7 := vg_6.below b7; clear vg_6
    have vd_7 := vd_6.below b7; clear vd_6
    have va_7 := va_6.below b7; clear va_6
    have vs_7 := ps.below b7; clear ps
    clear hB6 b7
    clear vf_7
    clear vg_7
    go_wp2_with fail
    refine (times_law _ _ _ _ _ _ (swapM i F) (dividedM i G) _ vs_7 py HL.out.sf HL.out.dg HL.out.b).mono ?_
    rintro e w8 ⟨Ab, nb, cb, rfl, pb, b8⟩
    have hB8 := hB7.trans (b8.mono hB7.size)
    have vd_8 := vd_7.below b8; clear vd_7
    have va_8 := va_7.below b8; clear va_7
    have vs_8 := vs_7.below b8; clear vs_7
    have vy_8 := py.below b8; clear py
    clear hB7 b8
    clear vs_8
    clear vy_8
    go_wp2_with fail
    refine (plus_law _ _ _ _ _ _ (timesM (dividedM i F) G) (timesM (swapM i F) (dividedM i G)) 1 _ va_8 pb (by omega) HL.out.a HL.out.b HL.out.s).mono ?_
    rintro e w9 ⟨Az, nz, cz, rfl, pz, b9⟩
    have hB9 := hB8.trans (b9.mono hB8.size)
    have vd_9 := vd_8.below b9; clear vd_8
    have va_9 := va_8.below b9; clear va_8
    have vb_9 := pb.below b9; clear pb
    clear hB8 b9
    clear va_9
    clear vb_9
    go_wp2_with fail
    refine (terms_law _ _ _ _ _ _ (dividedM i (timesM F G)) (leibR i F G) _ vd_9 pz (leib hi3 HD.out.keys HE.out.keys).eqv).mono ?_
    rintro e w10 ⟨rfl, dr10⟩
    have hB10 := hB9.trans (dr10.below _)
    have vd_10 := vd_9.below (dr10.below _); clear vd_9
    have vz_10 := pz.below (dr10.below _); clear pz
    clear hB9 dr10
    clear vd_10
    clear vz_10
    go_wp2
    go_ret
    exact ⟨rfl, hB10⟩
end Go.Proofs.Ytblhndkaikelaaa
