/-
  Law FnBraids: for every input the squares and the braids of the operators hold at a drawn polynomial. No condition. Written by a program of ours (braids.py).
-/
import Derived.Test.YtblhndkaikelaaaDrawPoly2
namespace Go.Proofs.Ytblhndkaikelaaa
open Go.RowKit

theorem PT.zero {w : World} {a : Option Addr} {n : Nat} {F : Mons} (h : PT w a n F) (e : Same F []) : n = 0 := by
  have := h.len
  rw [termsM_eqv e.eqv] at this
  rw [← this]
  simp [termsM, canon, keysOf, uniq]
set_option maxRecDepth 100000 in
set_option maxHeartbeats 6400000 in
theorem lawBraids_walk (w : World) (a : Option Addr) (n c : Nat) (xs : List Int) (hr : RB w a xs) (hn : xs.length = n) (hb : n ≤ 9223372036854775807) (hbs : Bytes xs) :
    Calls Try.prog 5 #[.slice a n c] w fun e w' => e = .returned (.bool true) ∧ Below w.heap.size w w' := by
  have Hn := Lib.hid hn; clear hn
  have Hbs := Lib.hid hbs; clear hbs
  by_cases hbig : 1048576 < n
  · have h1 := Lib.hid (show decide (1048576 < n) = true by simpa using hbig)
    go_enter Try.func5, Try.ntmps5
    go_wp2_with fail
    refine (is (big_any _ _ _ _ hb) h1.out).mono ?_
    rintro e w1 ⟨rfl, rfl⟩
    go_wp2
    go_ret
    exact ⟨rfl, Below.refl _ _⟩
  · have h1 := Lib.hid (show decide (1048576 < n) = false by simpa using hbig)
    go_enter Try.func5, Try.ntmps5
    go_wp2_with fail
    refine (is (big_any _ _ _ _ hb) h1.out).mono ?_
    rintro e w1 ⟨rfl, rfl⟩
    go_wp2_with fail
    refine (drawPolys_any _ _ _ xs _ hr Hn.out (by omega) Hbs.out).mono ?_
    rintro e w1 ⟨F, G, H, af, nf, cf, ag, ng, cg, ah, nh, ch, i, rfl, hD, -, -, hi3, hPf, -, -, hB1⟩
    have HD := Lib.hid hD
    have q1 : IntKind.i64.wrap ((i : Int) + 1) = (i : Int) + 1 := IntWalk.i64_in _ (by omega)
    have q2 : IntKind.i64.wrap ((i : Int) + 2) = (i : Int) + 2 := IntWalk.i64_in _ (by omega)
    have q3 : ¬ (i : Int) + 2 > 5 := by omega
    clear hD hr h1 hbig
    go_wp2_with fail
    refine (implDivOf_ok _ _ _ F i _ _ hPf rfl (by omega) HD.out.okp (braid_okp HD.out hi3 (o := 0) (by decide) (l := [(0, 0)]) (by decide))).mono ?_
    rintro e w2 ⟨ad, nd, cd, rfl, pd, b2⟩
    have hB2 := hB1.trans (b2.mono hB1.size)
    have f2 := hPf.below b2; clear hPf
    clear b2
    have qd : PT w2 ad nd (chM i [(0, 0)] F) := pd; clear pd
    go_wp2_with fail
    refine (divided_law _ _ _ (chM i [(0, 0)] F) i _ _ qd rfl (by omega) (braid_okp HD.out hi3 (o := 0) (by decide) (l := [(0, 0)]) (by decide)) (braid_okp HD.out hi3 (o := 0) (by decide) (l := [(0, 0), (0, 0)]) (by decide))).mono ?_
    rintro e w3 ⟨Add, ndd, cdd, rfl, pdd, b3⟩
    have hB3 := hB2.trans (b3.mono hB2.size)
    have f3 := f2.below b3; clear f2
    have d3 := qd.below b3; clear qd
    clear hB2 b3
    have qdd : PT w3 Add ndd (chM i [(0, 0), (0, 0)] F) := pdd; clear pdd
    clear d3
    obtain rfl : ndd = 0 := qdd.zero (square_none HD.out hi3)
    clear qdd
    go_wp2_with fail
    refine (demazure_law _ _ _ F i _ _ f3 rfl (by omega) HD.out.okp (braid_okp HD.out hi3 (o := 1) (by decide) (l := [(1, 0)]) (by decide))).mono ?_
    rintro e w4 ⟨Ae, ne, ce, rfl, pe, b4⟩
    have hB4 := hB3.trans (b4.mono hB3.size)
    have f4 := f3.below b4; clear f3
    clear hB3 b4
    have qe : PT w4 Ae ne (chM i [(1, 0)] F) := pe; clear pe
    go_wp2_with fail
    refine (demazure_law _ _ _ (chM i [(1, 0)] F) i _ _ qe rfl (by omega) (braid_okp HD.out hi3 (o := 1) (by decide) (l := [(1, 0)]) (by decide)) (braid_okp HD.out hi3 (o := 1) (by decide) (l := [(1, 0), (1, 0)]) (by decide))).mono ?_
    rintro e w5 ⟨Aee, nee, cee, rfl, pee, b5⟩
    have hB5 := hB4.trans (b5.mono hB4.size)
    have f5 := f4.below b5; clear f4
    have e5 := qe.below b5; clear qe
    clear hB4 b5
    have qee : PT w5 Aee nee (chM i [(1, 0), (1, 0)] F) := pee; clear pee
    clear e5
    go_wp2_with fail
    refine (demazure_law _ _ _ F i _ _ f5 rfl (by omega) HD.out.okp (braid_okp HD.out hi3 (o := 1) (by decide) (l := [(1, 0)]) (by decide))).mono ?_
    rintro e w6 ⟨Ae1, ne1, ce1, rfl, pe1, b6⟩
    have hB6 := hB5.trans (b6.mono hB5.size)
    have f6 := f5.below b6; clear f5
    have ee6 := qee.below b6; clear qee
    clear hB5 b6
    have qe1 : PT w6 Ae1 ne1 (chM i [(1, 0)] F) := pe1; clear pe1
    go_wp2_with fail
    refine (terms_law _ _ _ _ _ _ (chM i [(1, 0), (1, 0)] F) (chM i [(1, 0)] F) _ ee6 qe1 (square_dem HD.out hi3).eqv).mono ?_
    rintro e w7 ⟨rfl, d7⟩
    have hB7 := hB6.trans (d7.below _)
    have f7 := f6.below (d7.below _); clear f6
    have ee7 := ee6.below (d7.below _); clear ee6
    have e17 := qe1.below (d7.below _); clear qe1
    clear hB6 d7
    clear ee7
    clear e17
    go_wp2_with fail
    refine (isobaric_law _ _ _ F i _ _ f7 rfl (by omega) HD.out.okp (braid_okp HD.out hi3 (o := 2) (by decide) (l := [(2, 0)]) (by decide))).mono ?_
    rintro e w8 ⟨As, ns, cs, rfl, ps, b8⟩
    have hB8 := hB7.trans (b8.mono hB7.size)
    have f8 := f7.below b8; clear f7
    clear hB7 b8
    have qs : PT w8 As ns (chM i [(2, 0)] F) := ps; clear ps
    go_wp2_with fail
    refine (isobaric_law _ _ _ (chM i [(2, 0)] F) i _ _ qs rfl (by omega) (braid_okp HD.out hi3 (o := 2) (by decide) (l := [(2, 0)]) (by decide)) (braid_okp HD.out hi3 (o := 2) (by decide) (l := [(2, 0), (2, 0)]) (by decide))).mono ?_
    rintro e w9 ⟨Ass, nss, css, rfl, pss, b9⟩
    have hB9 := hB8.trans (b9.mono hB8.size)
    have f9 := f8.below b9; clear f8
    have s9 := qs.below b9; clear qs
    clear hB8 b9
    have qss : PT w9 Ass nss (chM i [(2, 0), (2, 0)] F) := pss; clear pss
    clear s9
    go_wp2_with fail
    refine (isobaric_law _ _ _ F i _ _ f9 rfl (by omega) HD.out.okp (braid_okp HD.out hi3 (o := 2) (by decide) (l := [(2, 0)]) (by decide))).mono ?_
    rintro e w10 ⟨As1, ns1, cs1, rfl, ps1, b10⟩
    have hB10 := hB9.trans (b10.mono hB9.size)
    have f10 := f9.below b10; clear f9
    have ss10 := qss.below b10; clear qss
    clear hB9 b10
    have qs1 : PT w10 As1 ns1 (chM i [(2, 0)] F) := ps1; clear ps1
    go_wp2_with fail
    refine (terms_law _ _ _ _ _ _ (chM i [(2, 0), (2, 0)] F) (chM i [(2, 0)] F) _ ss10 qs1 (square_iso HD.out hi3).eqv).mono ?_
    rintro e w11 ⟨rfl, d11⟩
    have hB11 := hB10.trans (d11.below _)
    have f11 := f10.below (d11.below _); clear f10
    have ss11 := ss10.below (d11.below _); clear ss10
    have s111 := qs1.below (d11.below _); clear qs1
    clear hB10 d11
    clear ss11
    clear s111
    go_wp2_with fail
    refine (divided_law _ _ _ F i _ _ f11 rfl (by omega) HD.out.okp (braid_okp HD.out hi3 (o := 0) (by decide) (l := [(0, 0)]) (by decide))).mono ?_
    rintro e w12 ⟨Ax0, nx0, cx0, rfl, px0, b12⟩
    have hB12 := hB11.trans (b12.mono hB11.size)
    have f12 := f11.below b12; clear f11
    clear hB11 b12
    have qx0 : PT w12 Ax0 nx0 (chM i [(0, 0)] F) := px0; clear px0
    go_wp2_with fail
    refine (divided_law _ _ _ (chM i [(0, 0)] F) (i + 1) _ _ qx0 (by omega) (by omega) (braid_okp HD.out hi3 (o := 0) (by decide) (l := [(0, 0)]) (by decide)) (braid_okp HD.out hi3 (o := 0) (by decide) (l := [(0, 1), (0, 0)]) (by decide))).mono ?_
    rintro e w13 ⟨Ay0, ny0, cy0, rfl, py0, b13⟩
    have hB13 := hB12.trans (b13.mono hB12.size)
    have f13 := f12.below b13; clear f12
    have x013 := qx0.below b13; clear qx0
    clear hB12 b13
    have qy0 : PT w13 Ay0 ny0 (chM i [(0, 1), (0, 0)] F) := py0; clear py0
    clear x013
    go_wp2_with fail
    refine (divided_law _ _ _ (chM i [(0, 1), (0, 0)] F) i _ _ qy0 rfl (by omega) (braid_okp HD.out hi3 (o := 0) (by decide) (l := [(0, 1), (0, 0)]) (by decide)) (braid_okp HD.out hi3 (o := 0) (by decide) (l := [(0, 0), (0, 1), (0, 0)]) (by decide))).mono ?_
    rintro e w14 ⟨Az0, nz0, cz0, rfl, pz0, b14⟩
    have hB14 := hB13.trans (b14.mono hB13.size)
    have f14 := f13.below b14; clear f13
    have y014 := qy0.below b14; clear qy0
    clear hB13 b14
    have qz0 : PT w14 Az0 nz0 (chM i [(0, 0), (0, 1), (0, 0)] F) := pz0; clear pz0
    clear y014
    go_wp2_with fail
    refine (divided_law _ _ _ F (i + 1) _ _ f14 (by omega) (by omega) HD.out.okp (braid_okp HD.out hi3 (o := 0) (by decide) (l := [(0, 1)]) (by decide))).mono ?_
    rintro e w15 ⟨At0, nt0, ct0, rfl, pt0, b15⟩
    have hB15 := hB14.trans (b15.mono hB14.size)
    have f15 := f14.below b15; clear f14
    have z015 := qz0.below b15; clear qz0
    clear hB14 b15
    have qt0 : PT w15 At0 nt0 (chM i [(0, 1)] F) := pt0; clear pt0
    go_wp2_with fail
    refine (divided_law _ _ _ (chM i [(0, 1)] F) i _ _ qt0 rfl (by omega) (braid_okp HD.out hi3 (o := 0) (by decide) (l := [(0, 1)]) (by decide)) (braid_okp HD.out hi3 (o := 0) (by decide) (l := [(0, 0), (0, 1)]) (by decide))).mono ?_
    rintro e w16 ⟨Au0, nu0, cu0, rfl, pu0, b16⟩
    have hB16 := hB15.trans (b16.mono hB15.size)
    have f16 := f15.below b16; clear f15
    have z016 := z015.below b16; clear z015
    have t016 := qt0.below b16; clear qt0
    clear hB15 b16
    have qu0 : PT w16 Au0 nu0 (chM i [(0, 0), (0, 1)] F) := pu0; clear pu0
    clear t016
    go_wp2_with fail
    refine (divided_law _ _ _ (chM i [(0, 0), (0, 1)] F) (i + 1) _ _ qu0 (by omega) (by omega) (braid_okp HD.out hi3 (o := 0) (by decide) (l := [(0, 0), (0, 1)]) (by decide)) (braid_okp HD.out hi3 (o := 0) (by decide) (l := [(0, 1), (0, 0), (0, 1)]) (by decide))).mono ?_
    rintro e w17 ⟨Av0, nv0, cv0, rfl, pv0, b17⟩
    have hB17 := hB16.trans (b17.mono hB16.size)
    have f17 := f16.below b17; clear f16
    have z017 := z016.below b17; clear z016
    have u017 := qu0.below b17; clear qu0
    clear hB16 b17
    have qv0 : PT w17 Av0 nv0 (chM i [(0, 1), (0, 0), (0, 1)] F) := pv0; clear pv0
    clear u017
    go_wp2_with fail
    refine (terms_law _ _ _ _ _ _ (chM i [(0, 0), (0, 1), (0, 0)] F) (chM i [(0, 1), (0, 0), (0, 1)] F) _ z017 qv0 (braid_same HD.out hi3 (o := 0) (by decide)).eqv).mono ?_
    rintro e w18 ⟨rfl, d18⟩
    have hB18 := hB17.trans (d18.below _)
    have f18 := f17.below (d18.below _); clear f17
    have z018 := z017.below (d18.below _); clear z017
    have v018 := qv0.below (d18.below _); clear qv0
    clear hB17 d18
    clear z018
    clear v018
    go_wp2_with fail
    refine (demazure_law _ _ _ F i _ _ f18 rfl (by omega) HD.out.okp (braid_okp HD.out hi3 (o := 1) (by decide) (l := [(1, 0)]) (by decide))).mono ?_
    rintro e w19 ⟨Ax1, nx1, cx1, rfl, px1, b19⟩
    have hB19 := hB18.trans (b19.mono hB18.size)
    have f19 := f18.below b19; clear f18
    clear hB18 b19
    have qx1 : PT w19 Ax1 nx1 (chM i [(1, 0)] F) := px1; clear px1
    go_wp2_with fail
    refine (demazure_law _ _ _ (chM i [(1, 0)] F) (i + 1) _ _ qx1 (by omega) (by omega) (braid_okp HD.out hi3 (o := 1) (by decide) (l := [(1, 0)]) (by decide)) (braid_okp HD.out hi3 (o := 1) (by decide) (l := [(1, 1), (1, 0)]) (by decide))).mono ?_
    rintro e w20 ⟨Ay1, ny1, cy1, rfl, py1, b20⟩
    have hB20 := hB19.trans (b20.mono hB19.size)
    have f20 := f19.below b20; clear f19
    have x120 := qx1.below b20; clear qx1
    clear hB19 b20
    have qy1 : PT w20 Ay1 ny1 (chM i [(1, 1), (1, 0)] F) := py1; clear py1
    clear x120
    go_wp2_with fail
    refine (demazure_law _ _ _ (chM i [(1, 1), (1, 0)] F) i _ _ qy1 rfl (by omega) (braid_okp HD.out hi3 (o := 1) (by decide) (l := [(1, 1), (1, 0)]) (by decide)) (braid_okp HD.out hi3 (o := 1) (by decide) (l := [(1, 0), (1, 1), (1, 0)]) (by decide))).mono ?_
    rintro e w21 ⟨Az1, nz1, cz1, rfl, pz1, b21⟩
    have hB21 := hB20.trans (b21.mono hB20.size)
    have f21 := f20.below b21; clear f20
    have y121 := qy1.below b21; clear qy1
    clear hB20 b21
    have qz1 : PT w21 Az1 nz1 (chM i [(1, 0), (1, 1), (1, 0)] F) := pz1; clear pz1
    clear y121
    go_wp2_with fail
    refine (demazure_law _ _ _ F (i + 1) _ _ f21 (by omega) (by omega) HD.out.okp (braid_okp HD.out hi3 (o := 1) (by decide) (l := [(1, 1)]) (by decide))).mono ?_
    rintro e w22 ⟨At1, nt1, ct1, rfl, pt1, b22⟩
    have hB22 := hB21.trans (b22.mono hB21.size)
    have f22 := f21.below b22; clear f21
    have z122 := qz1.below b22; clear qz1
    clear hB21 b22
    have qt1 : PT w22 At1 nt1 (chM i [(1, 1)] F) := pt1; clear pt1
    go_wp2_with fail
    refine (demazure_law _ _ _ (chM i [(1, 1)] F) i _ _ qt1 rfl (by omega) (braid_okp HD.out hi3 (o := 1) (by decide) (l := [(1, 1)]) (by decide)) (braid_okp HD.out hi3 (o := 1) (by decide) (l := [(1, 0), (1, 1)]) (by decide))).mono ?_
    rintro e w23 ⟨Au1, nu1, cu1, rfl, pu1, b23⟩
    have hB23 := hB22.trans (b23.mono hB22.size)
    have f23 := f22.below b23; clear f22
    have z123 := z122.below b23; clear z122
    have t123 := qt1.below b23; clear qt1
    clear hB22 b23
    have qu1 : PT w23 Au1 nu1 (chM i [(1, 0), (1, 1)] F) := pu1; clear pu1
    clear t123
    go_wp2_with fail
    refine (demazure_law _ _ _ (chM i [(1, 0), (1, 1)] F) (i + 1) _ _ qu1 (by omega) (by omega) (braid_okp HD.out hi3 (o := 1) (by decide) (l := [(1, 0), (1, 1)]) (by decide)) (braid_okp HD.out hi3 (o := 1) (by decide) (l := [(1, 1), (1, 0), (1, 1)]) (by decide))).mono ?_
    rintro e w24 ⟨Av1, nv1, cv1, rfl, pv1, b24⟩
    have hB24 := hB23.trans (b24.mono hB23.size)
    have f24 := f23.below b24; clear f23
    have z124 := z123.below b24; clear z123
    have u124 := qu1.below b24; clear qu1
    clear hB23 b24
    have qv1 : PT w24 Av1 nv1 (chM i [(1, 1), (1, 0), (1, 1)] F) := pv1; clear pv1
    clear u124
    go_wp2_with fail
    refine (terms_law _ _ _ _ _ _ (chM i [(1, 0), (1, 1), (1, 0)] F) (chM i [(1, 1), (1, 0), (1, 1)] F) _ z124 qv1 (braid_same HD.out hi3 (o := 1) (by decide)).eqv).mono ?_
    rintro e w25 ⟨rfl, d25⟩
    have hB25 := hB24.trans (d25.below _)
    have f25 := f24.below (d25.below _); clear f24
    have z125 := z124.below (d25.below _); clear z124
    have v125 := qv1.below (d25.below _); clear qv1
    clear hB24 d25
    clear z125
    clear v125
    go_wp2_with fail
    refine (isobaric_law _ _ _ F i _ _ f25 rfl (by omega) HD.out.okp (braid_okp HD.out hi3 (o := 2) (by decide) (l := [(2, 0)]) (by decide))).mono ?_
    rintro e w26 ⟨Ax2, nx2, cx2, rfl, px2, b26⟩
    have hB26 := hB25.trans (b26.mono hB25.size)
    have f26 := f25.below b26; clear f25
    clear hB25 b26
    have qx2 : PT w26 Ax2 nx2 (chM i [(2, 0)] F) := px2; clear px2
    go_wp2_with fail
    refine (isobaric_law _ _ _ (chM i [(2, 0)] F) (i + 1) _ _ qx2 (by omega) (by omega) (braid_okp HD.out hi3 (o := 2) (by decide) (l := [(2, 0)]) (by decide)) (braid_okp HD.out hi3 (o := 2) (by decide) (l := [(2, 1), (2, 0)]) (by decide))).mono ?_
    rintro e w27 ⟨Ay2, ny2, cy2, rfl, py2, b27⟩
    have hB27 := hB26.trans (b27.mono hB26.size)
    have f27 := f26.below b27; clear f26
    have x227 := qx2.below b27; clear qx2
    clear hB26 b27
    have qy2 : PT w27 Ay2 ny2 (chM i [(2, 1), (2, 0)] F) := py2; clear py2
    clear x227
    go_wp2_with fail
    refine (isobaric_law _ _ _ (chM i [(2, 1), (2, 0)] F) i _ _ qy2 rfl (by omega) (braid_okp HD.out hi3 (o := 2) (by decide) (l := [(2, 1), (2, 0)]) (by decide)) (braid_okp HD.out hi3 (o := 2) (by decide) (l := [(2, 0), (2, 1), (2, 0)]) (by decide))).mono ?_
    rintro e w28 ⟨Az2, nz2, cz2, rfl, pz2, b28⟩
    have hB28 := hB27.trans (b28.mono hB27.size)
    have f28 := f27.below b28; clear f27
    have y228 := qy2.below b28; clear qy2
    clear hB27 b28
    have qz2 : PT w28 Az2 nz2 (chM i [(2, 0), (2, 1), (2, 0)] F) := pz2; clear pz2
    clear y228
    go_wp2_with fail
    refine (isobaric_law _ _ _ F (i + 1) _ _ f28 (by omega) (by omega) HD.out.okp (braid_okp HD.out hi3 (o := 2) (by decide) (l := [(2, 1)]) (by decide))).mono ?_
    rintro e w29 ⟨At2, nt2, ct2, rfl, pt2, b29⟩
    have hB29 := hB28.trans (b29.mono hB28.size)
    have f29 := f28.below b29; clear f28
    have z229 := qz2.below b29; clear qz2
    clear hB28 b29
    have qt2 : PT w29 At2 nt2 (chM i [(2, 1)] F) := pt2; clear pt2
    go_wp2_with fail
    refine (isobaric_law _ _ _ (chM i [(2, 1)] F) i _ _ qt2 rfl (by omega) (braid_okp HD.out hi3 (o := 2) (by decide) (l := [(2, 1)]) (by decide)) (braid_okp HD.out hi3 (o := 2) (by decide) (l := [(2, 0), (2, 1)]) (by decide))).mono ?_
    rintro e w30 ⟨Au2, nu2, cu2, rfl, pu2, b30⟩
    have hB30 := hB29.trans (b30.mono hB29.size)
    have f30 := f29.below b30; clear f29
    have z230 := z229.below b30; clear z229
    have t230 := qt2.below b30; clear qt2
    clear hB29 b30
    have qu2 : PT w30 Au2 nu2 (chM i [(2, 0), (2, 1)] F) := pu2; clear pu2
    clear t230
    go_wp2_with fail
    refine (isobaric_law _ _ _ (chM i [(2, 0), (2, 1)] F) (i + 1) _ _ qu2 (by omega) (by omega) (braid_okp HD.out hi3 (o := 2) (by decide) (l := [(2, 0), (2, 1)]) (by decide)) (braid_okp HD.out hi3 (o := 2) (by decide) (l := [(2, 1), (2, 0), (2, 1)]) (by decide))).mono ?_
    rintro e w31 ⟨Av2, nv2, cv2, rfl, pv2, b31⟩
    have hB31 := hB30.trans (b31.mono hB30.size)
    have f31 := f30.below b31; clear f30
    have z231 := z230.below b31; clear z230
    have u231 := qu2.below b31; clear qu2
    clear hB30 b31
    have qv2 : PT w31 Av2 nv2 (chM i [(2, 1), (2, 0), (2, 1)] F) := pv2; clear pv2
    clear u231
    go_wp2_with fail
    refine (terms_law _ _ _ _ _ _ (chM i [(2, 0), (2, 1), (2, 0)] F) (chM i [(2, 1), (2, 0), (2, 1)] F) _ z231 qv2 (braid_same HD.out hi3 (o := 2) (by decide)).eqv).mono ?_
    rintro e w32 ⟨rfl, d32⟩
    have hB32 := hB31.trans (d32.below _)
    have f32 := f31.below (d32.below _); clear f31
    have z232 := z231.below (d32.below _); clear z231
    have v232 := qv2.below (d32.below _); clear qv2
    clear hB31 d32
    clear z232
    clear v232
    go_wp2_with fail
    refine (divided_law _ _ _ F i _ _ f32 rfl (by omega) HD.out.okp (braid_okp HD.out hi3 (o := 0) (by decide) (l := [(0, 0)]) (by decide))).mono ?_
    rintro e w33 ⟨Ag, ng, cg, rfl, pg, b33⟩
    have hB33 := hB32.trans (b33.mono hB32.size)
    have f33 := f32.below b33; clear f32
    clear hB32 b33
    have qg : PT w33 Ag ng (chM i [(0, 0)] F) := pg; clear pg
    go_wp2_with fail
    refine (divided_law _ _ _ (chM i [(0, 0)] F) (i + 2) _ _ qg (by omega) (by omega) (braid_okp HD.out hi3 (o := 0) (by decide) (l := [(0, 0)]) (by decide)) (braid_okp2 HD.out hi3 (l := [(0, 2), (0, 0)]) (by decide))).mono ?_
    rintro e w34 ⟨Agg, ngg, cgg, rfl, pgg, b34⟩
    have hB34 := hB33.trans (b34.mono hB33.size)
    have f34 := f33.below b34; clear f33
    have g34 := qg.below b34; clear qg
    clear hB33 b34
    have qgg : PT w34 Agg ngg (chM i [(0, 2), (0, 0)] F) := pgg; clear pgg
    clear g34
    go_wp2_with fail
    refine (divided_law _ _ _ F (i + 2) _ _ f34 (by omega) (by omega) HD.out.okp (braid_okp2 HD.out hi3 (l := [(0, 2)]) (by decide))).mono ?_
    rintro e w35 ⟨Ak, nk, ck, rfl, pk, b35⟩
    have hB35 := hB34.trans (b35.mono hB34.size)
    have f35 := f34.below b35; clear f34
    have gg35 := qgg.below b35; clear qgg
    clear hB34 b35
    have qk : PT w35 Ak nk (chM i [(0, 2)] F) := pk; clear pk
    go_wp2_with fail
    refine (divided_law _ _ _ (chM i [(0, 2)] F) i _ _ qk rfl (by omega) (braid_okp2 HD.out hi3 (l := [(0, 2)]) (by decide)) (braid_okp2 HD.out hi3 (l := [(0, 0), (0, 2)]) (by decide))).mono ?_
    rintro e w36 ⟨Akk, nkk, ckk, rfl, pkk, b36⟩
    have hB36 := hB35.trans (b36.mono hB35.size)
    have f36 := f35.below b36; clear f35
    have gg36 := gg35.below b36; clear gg35
    have k36 := qk.below b36; clear qk
    clear hB35 b36
    have qkk : PT w36 Akk nkk (chM i [(0, 0), (0, 2)] F) := pkk; clear pkk
    clear k36
    go_wp2_with fail
    refine (terms_law _ _ _ _ _ _ (chM i [(0, 2), (0, 0)] F) (chM i [(0, 0), (0, 2)] F) _ gg36 qkk (far_same HD.out hi3).eqv).mono ?_
    rintro e w37 ⟨rfl, d37⟩
    have hB37 := hB36.trans (d37.below _)
    have f37 := f36.below (d37.below _); clear f36
    have gg37 := gg36.below (d37.below _); clear gg36
    have kk37 := qkk.below (d37.below _); clear qkk
    clear hB36 d37
    clear gg37
    clear kk37
    go_wp2
    go_ret
    exact ⟨rfl, hB37⟩
end Go.Proofs.Ytblhndkaikelaaa
