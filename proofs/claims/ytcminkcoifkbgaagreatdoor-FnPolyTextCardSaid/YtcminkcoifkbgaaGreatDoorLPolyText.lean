/-
  Law FnPolyText: for every input polynomials are read back from their text, only their own texts are read, and degrees take them apart. Condition: the package variable MaxLen reads as an integer.
-/
import Derived.Test.YtcminkcoifkbgaaGreatDoorBuQ7
import Derived.Test.YtcminkcoifkbgaaGreatDoorBuQ8
namespace Go.Proofs.YtcminkcoifkbgaaGreatDoor
open Go.RowKit

theorem pPoly_few {s : ByteArray} (h : (pPoly s).2 = true) : (pPoly s).1.length ≤ 600 := by
  cases ho : polyOk (pPoly s).1
  · have h1 := pPoly_back h
    rw [polyText, if_neg (by rw [ho]; simp)] at h1
    rw [← h1, pPoly_empty] at h
    cases h
  · exact polyOk_len ho
theorem ok_short {xs : List (List Int × Int)} (h : polyOk xs = true) : ∀ p ∈ xs, p.1.length ≤ 1048576 := by
  intro p hp
  obtain ⟨k, hk⟩ := List.getElem?_of_mem hp
  obtain ⟨s, c⟩ := p
  have := (polyOk_each h hk).1
  simp only
  omega
theorem PT.mons {w : World} {a : Option Addr} {n : Nat} {xs : List (List Int × Int)} (hr : RP w a xs) (hn : xs.length = n) (hok : polyOk xs = true) : PT w a n (monsOf xs) :=
  ⟨by rw [terms_mons hok]; exact hr, by rw [terms_mons hok]; exact hn, by rw [← hn]; exact polyOk_len hok⟩
def YesPost (w : World) (e : Ending) (w' : World) : Prop := e = .returned (.bool true) ∧ Below w.heap.size w w'

set_option maxRecDepth 100000 in
set_option maxHeartbeats 6400000 in
theorem lawPolyText_walk (w : World) (a : Option Addr) (n c : Nat) (xs : List Int) (hr : RB w a xs) (hn : xs.length = n) (hb : n ≤ 9223372036854775807) (hbs : Bytes xs) (hm : MX w) :
    Calls Tryz.prog 3 #[.slice a n c] w fun e w' => e = .returned (.bool true) ∧ Below w.heap.size w w' := by
  have Hn := Lib.hid hn; clear hn
  have Hbs := Lib.hid hbs; clear hbs
  by_cases hbig : 1048576 < n
  · have h1 := Lib.hid (show decide (1048576 < n) = true by simpa using hbig)
    go_enter Tryz.func3, Tryz.ntmps3
    go_wp2_with fail
    refine (is (big_any _ _ _ _ hb) h1.out).mono ?_
    rintro e w1 ⟨rfl, rfl⟩
    go_wp2
    go_ret
    exact ⟨rfl, Below.refl _ _⟩
  have h1 := Lib.hid (show decide (1048576 < n) = false by simpa using hbig)
  go_enter Tryz.func3, Tryz.ntmps3
  go_wp2_with fail
  refine (is (big_any _ _ _ _ hb) h1.out).mono ?_
  rintro e w1 ⟨rfl, rfl⟩
  have hn20 : n ≤ 1048576 := by omega
  clear h1 hbig hb
  go_wp2_with fail
  refine (drawFormat_any _ _ _ xs _ hr Hn.out hn20 Hbs.out).mono ?_
  rintro e w1 ⟨ys, a1, n1, c1, rfl, hr1, hn1, h1000, hcap, hB1⟩
  have Hn1 := Lib.hid hn1; clear hn1
  have hr' := hr.below hB1
  clear hr
  go_wp2_with fail
  refine (drawParse_any _ _ _ xs _ hr' Hn.out hn20 Hbs.out).mono ?_
  rintro e w2 ⟨s, rfl, hss, hB2⟩
  have hr2 := hr1.below hB2
  have hB12 := hB1.trans (hB2.mono hB1.size)
  have hm2 := hm.below hB12
  clear hr1 hB1 hB2 hr' hm
  go_wp2_with fail
  refine (implFormat_any _ _ _ ys _ hr2 Hn1.out (by omega)).mono ?_
  rintro e w3 ⟨rfl, hB3⟩
  have hr3 := hr2.below hB3
  have hm3 := hm2.below hB3
  have hB13 := hB12.trans (hB3.mono hB12.size)
  have hsz := polyText_size ys
  clear hr2 hm2 hB12 hB3
  go_wp2_with fail
  refine (parsePoly_any _ _ hm3 (by omega)).mono ?_
  rintro e w4 ⟨a4, n4, c4, rfl, hk4, hB4⟩
  have hr4 := hr3.below hB4
  have hm4 := hm3.below hB4
  have hB14 := hB13.trans (hB4.mono hB13.size)
  have Hg := Lib.hid (And.intro hk4.rd hk4.len)
  clear hr3 hm3 hB13 hB4 hk4
  cases hok : polyOk ys
  · have Hok := Lib.hid hok
    have e1 : pPoly (polyText ys) = ([], false) := by
      rw [show polyText ys = ⟨#[]⟩ by rw [polyText, if_neg (by rw [hok]; simp)]]
      exact pPoly_empty
    rw [e1]
    clear e1 Hg hok hsz
    go_wp2_with fail
    refine (is (specPolyOk_any _ _ _ ys _ hr4 Hn1.out (by omega)) Hok.out).mono ?_
    rintro e w5 ⟨rfl, hB5⟩
    have hm5 := hm4.below hB5
    have hB15 := hB14.trans (hB5.mono hB14.size)
    clear hr4 hm4 hB14 hB5
    go_wp2_with fail
    refine (parsePoly_any s _ hm5 (by omega)).mono ?_
    rintro e w6 ⟨a6, n6, c6, rfl, hk6, hB6⟩
    have hB16 := hB15.trans (hB6.mono hB15.size)
    have Hh := Lib.hid (And.intro hk6.rd hk6.len)
    clear hm5 hB15 hB6 hk6
    cases hf : (pPoly s).2
    · go_wp2
      go_ret
      exact ⟨rfl, hB16⟩
    · have hfew := pPoly_few hf
      have Hbk := Lib.hid (pPoly_back hf)
      have hn6 : n6 ≤ 600 := by rw [← Hh.out.2]; exact hfew
      clear hf hfew
      go_wp2_with fail
      refine (implFormat_any _ _ _ (pPoly s).1 _ Hh.out.1 Hh.out.2 (by omega)).mono ?_
      rintro e w7 ⟨rfl, hB7⟩
      rw [Hbk.out]
      have hB17 := hB16.trans (hB7.mono hB16.size)
      clear hB7 hB16
      go_wp2
      go_ret
      exact ⟨rfl, hB17⟩
  · have Hok := Lib.hid hok
    have Hsh := Lib.hid (ok_short hok)
    have h600 : n1 ≤ 600 := by rw [← Hn1.out]; exact polyOk_len hok
    rw [pPoly_text hok] at Hg ⊢
    clear hok hsz
    go_wp2_with fail
    refine (is (specPolyOk_any _ _ _ ys _ hr4 Hn1.out (by omega)) Hok.out).mono ?_
    rintro e w5 ⟨rfl, hB5⟩
    have hr5 := hr4.below hB5
    have hm5 := hm4.below hB5
    have hB15 := hB14.trans (hB5.mono hB14.size)
    have Hg5 := Lib.hid (And.intro (Hg.out.1.below hB5) Hg.out.2)
    clear hr4 hm4 hB14 hB5 Hg
    go_wp2_with fail
    refine (is (lawTerms_any _ _ _ _ _ _ ys ys _ Hg5.out.1 hr5 Hg5.out.2 Hn1.out (by have h := Hg5.out.2; rw [Hn1.out] at h; omega) Hsh.out) (decide_eq_true (Eq.refl ys))).mono ?_
    rintro e w6 ⟨rfl, hd6⟩
    have hB6 := hd6.below w5.heap.size
    have hr6 := hr5.below hB6
    have hm6 := hm5.below hB6
    have hB16 := hB15.trans (hB6.mono hB15.size)
    clear hr5 hm5 hB15 hB6 Hg5 hd6
    go_wp2_with fail
    refine (parsePoly_any s _ hm6 (by omega)).mono ?_
    rintro e w7 ⟨a7, n7, c7, rfl, hk7, hB7⟩
    have hr7 := hr6.below hB7
    have hB17 := hB16.trans (hB7.mono hB16.size)
    have Hh := Lib.hid (And.intro hk7.rd hk7.len)
    clear hr6 hm6 hB16 hB7 hk7
    cases hf : (pPoly s).2
    · obtain ⟨w8, hw8⟩ : ∃ w8, w8 = w7 := ⟨_, rfl⟩
      subst hw8
      have hr8 := hr7
      have hB18 := hB17
      clear hr7 hB17 hf
      have hP0 : PT (w8.alloc (.cells #[] 50)) (some ⟨w8.heap.size, 0, none⟩) 0 (lowD 0 (monsOf ys)) := ⟨by rw [low_zero Hok.out]; exact .inl rfl, by rw [low_zero Hok.out]; rfl, by omega⟩
      have hA8 : Below w8.heap.size w8 (w8.alloc (.cells #[] 50)) := (Below.refl _ _).alloc (Nat.le_refl _) _
      have HP0 := Lib.hid hP0
      clear hP0 Hh
      go_wp2
      go_loopw [9, 10] (fun wv dv wr => Hid (∃ (d : Nat) (a' : Option Addr) (m c' : Nat), dv = .int .i64 d ∧ d ≤ 1001 ∧ wv = .slice a' m c' ∧ PT wr a' m (lowD d (monsOf ys))) ∧ Below w8.heap.size w8 wr) (fun _ dv _ => 1001 - (intOf dv).toNat)
      case atStart => exact ⟨⟨0, _, _, _, rfl, by omega, rfl, HP0.out⟩, hA8⟩
      case round =>
        clear hA8 HP0
        obtain ⟨HV, hd⟩ := hrel
        obtain ⟨wo, rfl⟩ : ∃ wo : World, wo = wr := ⟨_, rfl⟩
        obtain ⟨d, a', m, c', rfl, hd1001, rfl, hpt⟩ := HV.out
        have HPT := Lib.hid hpt
        clear HV hpt
        go_wp2_with fail
        refine (implDegree_top _ _ _ ys _ (hr8.below hd) Hn1.out Hok.out).mono ?_
        rintro e w9 ⟨D, rfl, hD0, hD1, HD, hB9⟩
        have hd9 := hd.trans (hB9.mono hd.size)
        have HPT9 := Lib.hid (HPT.out.below hB9)
        clear HPT hB9
        by_cases hdD : (d : Int) ≤ D
        · go_wp2_with fail
          refine (partOf_any (d : Int) _ _ _ (monsOf ys) _ (PT.mons (hr8.below hd9) Hn1.out Hok.out) (mons_okp Hok.out)).mono ?_
          rintro e w10 ⟨a10, n10, c10, rfl, hp10, hB10⟩
          have hd10 := hd9.trans (hB10.mono hd9.size)
          have HPT10 := Lib.hid (HPT9.out.below hB10)
          have HP10 := Lib.hid hp10
          clear HPT9 hB10 hp10
          go_wp2_with fail
          refine (plus_law _ _ _ _ _ _ _ _ 1 _ HPT10.out HP10.out (by omega) (low_okp Hok.out d) (part_okp Hok.out (d : Int)) (plus_okp Hok.out d)).mono ?_
          rintro e w11 ⟨a11, n11, c11, rfl, hp11, hB11⟩
          have hd11 := hd10.trans (hB11.mono hd10.size)
          have HP11 := Lib.hid (hp11.eqv (low_next d (monsOf ys)))
          clear HPT10 HP10 hp11 hB11 hd hd9 hd10
          go_wp2
          go_roundw
          case rel => exact ⟨⟨d + 1, _, _, _, by go_num, by omega, rfl, HP11.out⟩, hd11⟩
          case measure => simp [intOf]; omega
        · have Hl := Lib.hid (show RP w9 a' ys ∧ ys.length = m by
            have e := low_all (d := d) Hok.out (fun t ht => by have := HD.out t ht; omega)
            have h1 := HPT9.out.rd
            have h2 := HPT9.out.len
            rw [e] at h1 h2
            exact ⟨h1, h2⟩)
          have hm := HPT9.out.small
          clear HPT9
          go_wp2_with fail
          refine (is (lawTerms_any _ _ _ _ _ _ ys ys _ Hl.out.1 (hr8.below hd9) Hl.out.2 Hn1.out (by omega) Hsh.out) (decide_eq_true (Eq.refl ys))).mono ?_
          rintro e w10 ⟨rfl, hd10⟩
          have hB10 := hd9.trans ((hd10.below w9.heap.size).mono hd9.size)
          have hfin := hB18.trans (hB10.mono hB18.size)
          clear hd10 hB10
          go_wp2
          go_ret
          exact ⟨rfl, hfin⟩
    · have hfew := pPoly_few hf
      have Hbk := Lib.hid (pPoly_back hf)
      have hn7 : n7 ≤ 600 := by rw [← Hh.out.2]; exact hfew
      clear hf hfew
      go_wp2_with fail
      refine (implFormat_any _ _ _ (pPoly s).1 _ Hh.out.1 Hh.out.2 (by omega)).mono ?_
      rintro e w8 ⟨rfl, hB8⟩
      rw [Hbk.out]
      have hr8 := hr7.below hB8
      have hB18 := hB17.trans (hB8.mono hB17.size)
      clear hB8 hB17 hr7
      have hP0 : PT (w8.alloc (.cells #[] 50)) (some ⟨w8.heap.size, 0, none⟩) 0 (lowD 0 (monsOf ys)) := ⟨by rw [low_zero Hok.out]; exact .inl rfl, by rw [low_zero Hok.out]; rfl, by omega⟩
      have hA8 : Below w8.heap.size w8 (w8.alloc (.cells #[] 50)) := (Below.refl _ _).alloc (Nat.le_refl _) _
      have HP0 := Lib.hid hP0
      clear hP0 Hh
      go_wp2
      go_loopw [9, 10] (fun wv dv wr => Hid (∃ (d : Nat) (a' : Option Addr) (m c' : Nat), dv = .int .i64 d ∧ d ≤ 1001 ∧ wv = .slice a' m c' ∧ PT wr a' m (lowD d (monsOf ys))) ∧ Below w8.heap.size w8 wr) (fun _ dv _ => 1001 - (intOf dv).toNat)
      case atStart => exact ⟨⟨0, _, _, _, rfl, by omega, rfl, HP0.out⟩, hA8⟩
      case round =>
        clear hA8 HP0
        obtain ⟨HV, hd⟩ := hrel
        obtain ⟨wo, rfl⟩ : ∃ wo : World, wo = wr := ⟨_, rfl⟩
        obtain ⟨d, a', m, c', rfl, hd1001, rfl, hpt⟩ := HV.out
        have HPT := Lib.hid hpt
        clear HV hpt
        go_wp2_with fail
        refine (implDegree_top _ _ _ ys _ (hr8.below hd) Hn1.out Hok.out).mono ?_
        rintro e w9 ⟨D, rfl, hD0, hD1, HD, hB9⟩
        have hd9 := hd.trans (hB9.mono hd.size)
        have HPT9 := Lib.hid (HPT.out.below hB9)
        clear HPT hB9
        by_cases hdD : (d : Int) ≤ D
        · go_wp2_with fail
          refine (partOf_any (d : Int) _ _ _ (monsOf ys) _ (PT.mons (hr8.below hd9) Hn1.out Hok.out) (mons_okp Hok.out)).mono ?_
          rintro e w10 ⟨a10, n10, c10, rfl, hp10, hB10⟩
          have hd10 := hd9.trans (hB10.mono hd9.size)
          have HPT10 := Lib.hid (HPT9.out.below hB10)
          have HP10 := Lib.hid hp10
          clear HPT9 hB10 hp10
          go_wp2_with fail
          refine (plus_law _ _ _ _ _ _ _ _ 1 _ HPT10.out HP10.out (by omega) (low_okp Hok.out d) (part_okp Hok.out (d : Int)) (plus_okp Hok.out d)).mono ?_
          rintro e w11 ⟨a11, n11, c11, rfl, hp11, hB11⟩
          have hd11 := hd10.trans (hB11.mono hd10.size)
          have HP11 := Lib.hid (hp11.eqv (low_next d (monsOf ys)))
          clear HPT10 HP10 hp11 hB11 hd hd9 hd10
          go_wp2
          go_roundw
          case rel => exact ⟨⟨d + 1, _, _, _, by go_num, by omega, rfl, HP11.out⟩, hd11⟩
          case measure => simp [intOf]; omega
        · have Hl := Lib.hid (show RP w9 a' ys ∧ ys.length = m by
            have e := low_all (d := d) Hok.out (fun t ht => by have := HD.out t ht; omega)
            have h1 := HPT9.out.rd
            have h2 := HPT9.out.len
            rw [e] at h1 h2
            exact ⟨h1, h2⟩)
          have hm := HPT9.out.small
          clear HPT9
          go_wp2_with fail
          refine (is (lawTerms_any _ _ _ _ _ _ ys ys _ Hl.out.1 (hr8.below hd9) Hl.out.2 Hn1.out (by omega) Hsh.out) (decide_eq_true (Eq.refl ys))).mono ?_
          rintro e w10 ⟨rfl, hd10⟩
          have hB10 := hd9.trans ((hd10.below w9.heap.size).mono hd9.size)
          have hfin := hB18.trans (hB10.mono hB18.size)
          clear hd10 hB10
          go_wp2
          go_ret
          exact ⟨rfl, hfin⟩
end Go.Proofs.YtcminkcoifkbgaaGreatDoor
