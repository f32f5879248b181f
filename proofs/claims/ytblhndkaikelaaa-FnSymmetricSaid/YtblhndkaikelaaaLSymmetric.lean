/-
  Law FnSymmetric: for every input symmetric polynomials are those without divided difference, images are symmetric, symmetric factors go through. No condition. Written by a program of ours (symm.py).
-/
import Derived.Test.YtblhndkaikelaaaDrawPoly2
import Derived.Test.YtblhndkaikelaaaSymLaw
import Derived.Test.YtblhndkaikelaaaLawSym
namespace Go.Proofs.Ytblhndkaikelaaa
open Go.RowKit

set_option maxRecDepth 100000 in
set_option maxHeartbeats 6400000 in
theorem lawSymmetric_walk (w : World) (a : Option Addr) (n c : Nat) (xs : List Int) (hr : RB w a xs) (hn : xs.length = n) (hb : n ≤ 9223372036854775807) (hbs : Bytes xs) :
    Calls Try.prog 6 #[.slice a n c] w fun e w' => e = .returned (.bool true) ∧ Below w.heap.size w w' := by
  have Hn := Lib.hid hn; clear hn
  have Hbs := Lib.hid hbs; clear hbs
  by_cases hbig : 1048576 < n
  · have h1 := Lib.hid (show decide (1048576 < n) = true by simpa using hbig)
    go_enter Try.func6, Try.ntmps6
    go_wp2_with fail
    refine (is (big_any _ _ _ _ hb) h1.out).mono ?_
    rintro e w1 ⟨rfl, rfl⟩
    go_wp2
    go_ret
    exact ⟨rfl, Below.refl _ _⟩
  · have h1 := Lib.hid (show decide (1048576 < n) = false by simpa using hbig)
    go_enter Try.func6, Try.ntmps6
    go_wp2_with fail
    refine (is (big_any _ _ _ _ hb) h1.out).mono ?_
    rintro e w1 ⟨rfl, rfl⟩
    go_wp2_with fail
    refine (drawPolys_any _ _ _ xs _ hr Hn.out (by omega) Hbs.out).mono ?_
    rintro e w1 ⟨F, G, H, af, nf, cf, ag, ng, cg, ah, nh, ch, i, rfl, hD, hE, -, hi3, hPf, hPg, -, hB1⟩
    have HD := Lib.hid hD
    have HE := Lib.hid hE
    have HS := Lib.hid (symOk_all hi3 hD hE)
    have Hsd := Lib.hid (show decide (termsM (dividedM i F) = termsM (swapM i (dividedM i F))) = true by rw [decide_eq_true_eq]; exact termsM_eqv (swap_div hi3 hD.keys).symm.eqv)
    have Hss := Lib.hid (show decide (termsM (demM i G) = termsM (swapM i (demM i G))) = true by rw [decide_eq_true_eq]; exact termsM_eqv (swap_dem hi3 hE.keys).symm.eqv)
    have Hnd := Lib.hid (show nrm (dividedM i F) ≤ 1000000 by
      have h2 := (dd_sizes (B := 6) hD.bd (i := i) (by omega)).2
      have h3 := hD.nrm
      omega)
    rcases Decidable.em (termsM F = termsM (swapM i F)) with hs | hs
    · have Hb := Lib.hid (show decide (termsM F = termsM (swapM i F)) = true by rw [decide_eq_true_eq]; exact hs)
      have Hs := Lib.hid ((sym_iff hi3 hD).1 hs)
      clear hs hD hE hr h1 hbig
      go_wp2_with fail
      refine (implSym_ok _ _ _ F i _ true _ hPf rfl (by omega) HD.out.okp HS.out.sf Hb.out).mono ?_
      rintro e w2 ⟨rfl, b2⟩
      have hB2 := hB1.trans (b2.mono hB1.size)
      have vf_2 := hPf.below b2; clear hPf
      have vg_2 := hPg.below b2; clear hPg
      clear b2
      go_wp2_with fail
      refine (implDivOf_ok _ _ _ F i _ _ vf_2 rfl (by omega) HD.out.okp HS.out.d).mono ?_
      rintro e w3 ⟨Ad, nd, cd, rfl, pd, b3⟩
      have hB3 := hB2.trans (b3.mono hB2.size)
      have vf_3 := vf_2.below b3; clear vf_2
      have vg_3 := vg_2.below b3; clear vg_2
      clear hB2 b3
      obtain rfl : nd = 0 := by have := pd.len; rw [none_len Hs.out] at this; exact this.symm
      go_wp2_with fail
      refine (implDemOf_ok _ _ _ G i _ _ vg_3 rfl (by omega) HE.out.okp HS.out.s).mono ?_
      rintro e w4 ⟨As, ns, cs, rfl, ps, b4⟩
      have hB4 := hB3.trans (b4.mono hB3.size)
      have vf_4 := vf_3.below b4; clear vf_3
      have vg_4 := vg_3.below b4; clear vg_3
      have vd_4 := pd.below b4; clear pd
      clear hB3 b4
      go_wp2_with fail
      refine (implSym_ok _ _ _ (dividedM i F) i _ true _ vd_4 rfl (by omega) HS.out.d HS.out.sd Hsd.out).mono ?_
      rintro e w5 ⟨rfl, b5⟩
      have hB5 := hB4.trans (b5.mono hB4.size)
      have vf_5 := vf_4.below b5; clear vf_4
      have vg_5 := vg_4.below b5; clear vg_4
      have vd_5 := vd_4.below b5; clear vd_4
      have vs_5 := ps.below b5; clear ps
      clear hB4 b5
      go_wp2_with fail
      refine (implSym_ok _ _ _ (demM i G) i _ true _ vs_5 rfl (by omega) HS.out.s HS.out.ss Hss.out).mono ?_
      rintro e w6 ⟨rfl, b6⟩
      have hB6 := hB5.trans (b6.mono hB5.size)
      have vf_6 := vf_5.below b6; clear vf_5
      have vg_6 := vg_5.below b6; clear vg_5
      have vd_6 := vd_5.below b6; clear vd_5
      have vs_6 := vs_5.below b6; clear vs_5
      clear hB5 b6
      go_wp2_with fail
      refine (implAtom_ok _ _ _ G i _ _ vg_6 rfl (by omega) HE.out.okp HS.out.a).mono ?_
      rintro e w7 ⟨At, nt, ct, rfl, pt, b7⟩
      have hB7 := hB6.trans (b7.mono hB6.size)
      have vf_7 := vf_6.below b7; clear vf_6
      have vg_7 := vg_6.below b7; clear vg_6
      have vd_7 := vd_6.below b7; clear vd_6
      have vs_7 := vs_6.below b7; clear vs_6
      clear hB6 b7
      go_wp2_with fail
      refine (implMul_ok _ _ _ _ _ _ (demM i G) F _ vs_7 vf_7 HS.out.s HD.out.okp HS.out.p).mono ?_
      rintro e w8 ⟨Ap, np, cp, rfl, pp, b8⟩
      have hB8 := hB7.trans (b8.mono hB7.size)
      have vf_8 := vf_7.below b8; clear vf_7
      have vg_8 := vg_7.below b8; clear vg_7
      have vd_8 := vd_7.below b8; clear vd_7
      have vs_8 := vs_7.below b8; clear vs_7
      have vt_8 := pt.below b8; clear pt
      clear hB7 b8
      clear vf_8
      go_wp2_with fail
      refine (plus_law _ _ _ _ _ _ (atomM i G) G 1 _ vt_8 vg_8 (by omega) HS.out.a HE.out.okp HS.out.ag).mono ?_
      rintro e w9 ⟨Az, nz, cz, rfl, pz, b9⟩
      have hB9 := hB8.trans (b9.mono hB8.size)
      have vg_9 := vg_8.below b9; clear vg_8
      have vd_9 := vd_8.below b9; clear vd_8
      have vs_9 := vs_8.below b9; clear vs_8
      have vt_9 := vt_8.below b9; clear vt_8
      have vp_9 := pp.below b9; clear pp
      clear hB8 b9
      clear vt_9
      clear vg_9
      go_wp2_with fail
      refine (terms_law _ _ _ _ _ _ (plusM (atomM i G) 1 G) (demM i G) _ pz vs_9 (atom_back i G).eqv).mono ?_
      rintro e w10 ⟨rfl, dr10⟩
      have hB10 := hB9.trans (dr10.below _)
      have vd_10 := vd_9.below (dr10.below _); clear vd_9
      have vs_10 := vs_9.below (dr10.below _); clear vs_9
      have vp_10 := vp_9.below (dr10.below _); clear vp_9
      have vz_10 := pz.below (dr10.below _); clear pz
      clear hB9 dr10
      clear vz_10
      go_wp2_with fail
      refine (divided_law _ _ _ (timesM (demM i G) F) i _ _ vp_10 rfl (by omega) HS.out.p HS.out.dp).mono ?_
      rintro e w11 ⟨Ax, nx, cx, rfl, px, b11⟩
      have hB11 := hB10.trans (b11.mono hB10.size)
      have vd_11 := vd_10.below b11; clear vd_10
      have vs_11 := vs_10.below b11; clear vs_10
      have vp_11 := vp_10.below b11; clear vp_10
      clear hB10 b11
      clear vp_11
      go_wp2_with fail
      refine (times_law _ _ _ _ _ _ (demM i G) (dividedM i F) _ vs_11 vd_11 HS.out.s HS.out.d HS.out.t).mono ?_
      rintro e w12 ⟨Ay, ny, cy, rfl, py, b12⟩
      have hB12 := hB11.trans (b12.mono hB11.size)
      have vd_12 := vd_11.below b12; clear vd_11
      have vs_12 := vs_11.below b12; clear vs_11
      have vx_12 := px.below b12; clear px
      clear hB11 b12
      clear vs_12
      clear vd_12
      go_wp2_with fail
      refine (terms_law _ _ _ _ _ _ (dividedM i (timesM (demM i G) F)) (timesM (demM i G) (dividedM i F)) _ vx_12 py (dem_through hi3 HD.out HE.out).eqv).mono ?_
      rintro e w13 ⟨rfl, dr13⟩
      have hB13 := hB12.trans (dr13.below _)
      have vx_13 := vx_12.below (dr13.below _); clear vx_12
      have vy_13 := py.below (dr13.below _); clear py
      clear hB12 dr13
      clear vx_13
      clear vy_13
      go_wp2
      go_ret
      exact ⟨rfl, hB13⟩
    · have Hb := Lib.hid (show decide (termsM F = termsM (swapM i F)) = false by rw [decide_eq_false_iff_not]; exact hs)
      have Hs := Lib.hid (show ¬ Same (dividedM i F) [] from fun h => hs ((sym_iff hi3 hD).2 h))
      clear hs hD hE hr h1 hbig
      go_wp2_with fail
      refine (implSym_ok _ _ _ F i _ false _ hPf rfl (by omega) HD.out.okp HS.out.sf Hb.out).mono ?_
      rintro e w2 ⟨rfl, b2⟩
      have hB2 := hB1.trans (b2.mono hB1.size)
      have vf_2 := hPf.below b2; clear hPf
      have vg_2 := hPg.below b2; clear hPg
      clear b2
      go_wp2_with fail
      refine (implDivOf_ok _ _ _ F i _ _ vf_2 rfl (by omega) HD.out.okp HS.out.d).mono ?_
      rintro e w3 ⟨Ad, nd, cd, rfl, pd, b3⟩
      have hB3 := hB2.trans (b3.mono hB2.size)
      have vf_3 := vf_2.below b3; clear vf_2
      have vg_3 := vg_2.below b3; clear vg_2
      clear hB2 b3
      have hnd : ((nd : Int) == 0) = false := by
        have h1 := pd.len
        have h2 : (termsM (dividedM i F)).length ≠ 0 := fun h => Hs.out (len_none Hnd.out h)
        simp; omega
      go_wp2_with fail
      refine (implDemOf_ok _ _ _ G i _ _ vg_3 rfl (by omega) HE.out.okp HS.out.s).mono ?_
      rintro e w4 ⟨As, ns, cs, rfl, ps, b4⟩
      have hB4 := hB3.trans (b4.mono hB3.size)
      have vf_4 := vf_3.below b4; clear vf_3
      have vg_4 := vg_3.below b4; clear vg_3
      have vd_4 := pd.below b4; clear pd
      clear hB3 b4
      go_wp2_with fail
      refine (implSym_ok _ _ _ (dividedM i F) i _ true _ vd_4 rfl (by omega) HS.out.d HS.out.sd Hsd.out).mono ?_
      rintro e w5 ⟨rfl, b5⟩
      have hB5 := hB4.trans (b5.mono hB4.size)
      have vf_5 := vf_4.below b5; clear vf_4
      have vg_5 := vg_4.below b5; clear vg_4
      have vd_5 := vd_4.below b5; clear vd_4
      have vs_5 := ps.below b5; clear ps
      clear hB4 b5
      go_wp2_with fail
      refine (implSym_ok _ _ _ (demM i G) i _ true _ vs_5 rfl (by omega) HS.out.s HS.out.ss Hss.out).mono ?_
      rintro e w6 ⟨rfl, b6⟩
      have hB6 := hB5.trans (b6.mono hB5.size)
      have vf_6 := vf_5.below b6; clear vf_5
      have vg_6 := vg_5.below b6; clear vg_5
      have vd_6 := vd_5.below b6; clear vd_5
      have vs_6 := vs_5.below b6; clear vs_5
      clear hB5 b6
      go_wp2_with fail
      refine (implAtom_ok _ _ _ G i _ _ vg_6 rfl (by omega) HE.out.okp HS.out.a).mono ?_
      rintro e w7 ⟨At, nt, ct, rfl, pt, b7⟩
      have hB7 := hB6.trans (b7.mono hB6.size)
      have vf_7 := vf_6.below b7; clear vf_6
      have vg_7 := vg_6.below b7; clear vg_6
      have vd_7 := vd_6.below b7; clear vd_6
      have vs_7 := vs_6.below b7; clear vs_6
      clear hB6 b7
      go_wp2_with fail
      refine (implMul_ok _ _ _ _ _ _ (demM i G) F _ vs_7 vf_7 HS.out.s HD.out.okp HS.out.p).mono ?_
      rintro e w8 ⟨Ap, np, cp, rfl, pp, b8⟩
      have hB8 := hB7.trans (b8.mono hB7.size)
      have vf_8 := vf_7.below b8; clear vf_7
      have vg_8 := vg_7.below b8; clear vg_7
      have vd_8 := vd_7.below b8; clear vd_7
      have vs_8 := vs_7.below b8; clear vs_7
      have vt_8 := pt.below b8; clear pt
      clear hB7 b8
      clear vf_8
      go_wp2_with fail
      refine (plus_law _ _ _ _ _ _ (atomM i G) G 1 _ vt_8 vg_8 (by omega) HS.out.a HE.out.okp HS.out.ag).mono ?_
      rintro e w9 ⟨Az, nz, cz, rfl, pz, b9⟩
      have hB9 := hB8.trans (b9.mono hB8.size)
      have vg_9 := vg_8.below b9; clear vg_8
      have vd_9 := vd_8.below b9; clear vd_8
      have vs_9 := vs_8.below b9; clear vs_8
      have vt_9 := vt_8.below b9; clear vt_8
      have vp_9 := pp.below b9; clear pp
      clear hB8 b9
      clear vt_9
      clear vg_9
      go_wp2_with fail
      refine (terms_law _ _ _ _ _ _ (plusM (atomM i G) 1 G) (demM i G) _ pz vs_9 (atom_back i G).eqv).mono ?_
      rintro e w10 ⟨rfl, dr10⟩
      have hB10 := hB9.trans (dr10.below _)
      have vd_10 := vd_9.below (dr10.below _); clear vd_9
      have vs_10 := vs_9.below (dr10.below _); clear vs_9
      have vp_10 := vp_9.below (dr10.below _); clear vp_9
      have vz_10 := pz.below (dr10.below _); clear pz
      clear hB9 dr10
      clear vz_10
      go_wp2_with fail
      refine (divided_law _ _ _ (timesM (demM i G) F) i _ _ vp_10 rfl (by omega) HS.out.p HS.out.dp).mono ?_
      rintro e w11 ⟨Ax, nx, cx, rfl, px, b11⟩
      have hB11 := hB10.trans (b11.mono hB10.size)
      have vd_11 := vd_10.below b11; clear vd_10
      have vs_11 := vs_10.below b11; clear vs_10
      have vp_11 := vp_10.below b11; clear vp_10
      clear hB10 b11
      clear vp_11
      go_wp2_with fail
      refine (times_law _ _ _ _ _ _ (demM i G) (dividedM i F) _ vs_11 vd_11 HS.out.s HS.out.d HS.out.t).mono ?_
      rintro e w12 ⟨Ay, ny, cy, rfl, py, b12⟩
      have hB12 := hB11.trans (b12.mono hB11.size)
      have vd_12 := vd_11.below b12; clear vd_11
      have vs_12 := vs_11.below b12; clear vs_11
      have vx_12 := px.below b12; clear px
      clear hB11 b12
      clear vs_12
      clear vd_12
      go_wp2_with fail
      refine (terms_law _ _ _ _ _ _ (dividedM i (timesM (demM i G) F)) (timesM (demM i G) (dividedM i F)) _ vx_12 py (dem_through hi3 HD.out HE.out).eqv).mono ?_
      rintro e w13 ⟨rfl, dr13⟩
      have hB13 := hB12.trans (dr13.below _)
      have vx_13 := vx_12.below (dr13.below _); clear vx_12
      have vy_13 := py.below (dr13.below _); clear py
      clear hB12 dr13
      clear vx_13
      clear vy_13
      go_wp2
      go_ret
      exact ⟨rfl, hB13⟩
end Go.Proofs.Ytblhndkaikelaaa
