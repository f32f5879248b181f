/-
  Contract of TransitionOf, the program's.
-/
import Derived.Test.YtageojkepoejiaaTransLaw
import Derived.Test.YtageojkepoejiaaSortII
namespace Go.Proofs.Ytageojkepoejiaa
open Go.RowKit

theorem results_tmp4 {fn : Func} {t u v x : Tmp} (h : fn.results = #[.tmp t, .tmp u, .tmp v, .tmp x]) (tmps : Array Value) (P : Program) (w : World) :
    (results fn tmps).run P w = .ok (.tuple #[tmps.getD t undef, tmps.getD u undef, tmps.getD v undef, tmps.getD x undef]) w := by
  simp [results, h]
def PostTr (xs : List Int) (w : World) (e : Ending) (w' : World) : Prop :=
  ∃ r0 a1 n1 c1 a2 n2 c2 r3 mid, e = .returned (.tuple #[.int .i64 r0, .slice a1 n1 c1, .slice a2 n2 c2, .bool r3]) ∧ Hid (r0 = tr0 xs) ∧ OwI w' w.heap.size mid a1 n1 c1 (tr1 xs) ∧ IIO w' mid w'.heap.size a2 n2 c2 (tr2 xs) ∧
    Hid (r3 = trOk xs) ∧ w.heap.size ≤ mid ∧ mid ≤ w'.heap.size ∧ Below w.heap.size w w'

theorem iio_made (w : World) : IIO (w.alloc (.cells #[] 22)) w.heap.size (w.alloc (.cells #[] 22)).heap.size (some ⟨w.heap.size, 0, none⟩) 0 0 [] :=
  ⟨[], World.ownsRow_made _ #[] 0 (Nat.le_refl _) (Nat.zero_le _) rfl, fun k hk => by simp [Value.ownBlock] at hk; simp; omega, rfl, by simp, by simp⟩
theorem iio_lo {w : World} {B S : Nat} {a : Option Addr} {n c : Nat} {xss : List (List Int)} (h : IIO w B S a n c xss) : ∀ k, (Value.slice a n c).ownBlock = some k → B ≤ k := by
  obtain ⟨vs, h1, _, _⟩ := h
  intro k hk
  rcases ownsRow_shape h1 with ⟨_, rfl, _, _⟩ | ⟨g, rfl, hg, _⟩
  · simp [Value.ownBlock] at hk
  · simp [Value.ownBlock] at hk; omega

set_option maxRecDepth 100000 in
set_option maxHeartbeats 6400000 in
theorem implTrans_any (a : Option Addr) (n c : Nat) (xs : List Int) (w : World) (hr : RI w a xs) (hn : xs.length = n) (hb : n ≤ 1048576) :
    Calls Try.prog 10 #[.slice a n c] w (PostTr xs w) := by
  have Hn := Lib.hid hn
  cases hok : trOk xs
  · have H0 := Lib.hid (tr_no hok)
    have Hok := Lib.hid hok
    clear hok hn
    go_enter Try.func10, Try.ntmps10
    go_wp2_with fail
    refine (implDescents_any _ _ _ xs _ hr Hn.out (by omega)).mono ?_
    rintro e w1 ⟨a1, n1, c1, rfl, ho1, hb1⟩
    obtain rfl : n1 = 0 := by have := ho1.len; rw [H0.out.2.2.2] at this; exact this.symm
    clear ho1
    go_wp2
    (try simp only [Exit.inBlock, Exit.then]); refine bodyPost_ret (results_tmp4 rfl _ _ _) rfl ?_
    exact ⟨_, _, _, _, _, _, _, _, w1.heap.size, rfl, H0.out.1.symm, by rw [H0.out.2.1]; exact OwI.nil, by rw [H0.out.2.2.1]; exact IIO.nil, Hok.out.symm, hb1.size, Nat.le_refl _, hb1⟩
  obtain ⟨hp, hrn, hdd, hlast, hrs, hsn⟩ := tr_facts hok
  have H0 := Lib.hid (tr_yes hok)
  have HV := Lib.hid (trV_facts hok)
  have Hok := Lib.hid hok
  have hn7 : n ≤ 7 := by rw [← hn]; exact ((isPerm_iff xs).1 hp).2.1
  have HtV := Lib.hid (show trV xs = swp xs (trR xs) (trS xs) from rfl)
  have HtS := Lib.hid (show trS xs = lastLess xs (trR xs) n by unfold trS; rw [hn])
  rw [hn] at hrn hsn
  generalize trR xs = r at *
  generalize trS xs = s at *
  generalize trV xs = v at *
  have Hl := Lib.hid hlast
  have Hp := Lib.hid hp
  obtain ⟨xr, hxr⟩ := some_at Hn.out (show r < n by omega)
  have Hxr := Lib.hid hxr
  have hxr1 : ∃ y, xs[r + 1]? = some y := some_at Hn.out hrn
  obtain ⟨y, hy⟩ := hxr1
  rw [getD_of hy, getD_of hxr] at hdd
  have Hdd := Lib.hid (show y < xr from hdd)
  have Hy := Lib.hid hy
  have Hrs := Lib.hid hrs
  obtain ⟨b, off, rfl, hcell⟩ := hr.at (k := r) (by rw [hn]; omega)
  clear hlast hp hok hn hxr hy hdd
  go_enter Try.func10, Try.ntmps10
  go_wp2_with fail
  refine (implDescents_any _ _ _ xs _ hr Hn.out (by omega)).mono ?_
  rintro e w1 ⟨a1, n1, c1, rfl, ho1, hb1⟩
  have hl1 := ho1.len
  obtain ⟨m, hnm⟩ : ∃ m, n1 = m + 1 := ⟨n1 - 1, by
    have := (List.getElem?_eq_some_iff.1 Hl.out).1
    omega⟩
  have Hl1 := Lib.hid (show (descents xs)[m]? = some (r : Int) by have := Hl.out; rw [hl1, hnm] at this; exact this)
  obtain ⟨b1, off1, rfl, hc1⟩ := ho1.rd.at (k := m) (by omega)
  have p1 := hc1 m _ Hl1.out
  have hm6 : m ≤ 1000 := by have := descents_len xs; omega
  have q1 : ((n1 : Int) == 0) = false := by simp; omega
  have q2 : IntKind.i64.wrap ((n1 : Int) - 1) = (m : Int) := by rw [IntWalk.i64_in _ (by omega)]; omega
  have q3 : IntKind.i64.wrap ((n : Int) - 1) = ((n - 1 : Nat) : Int) := by rw [IntWalk.i64_in _ (by omega)]; omega
  have q4 : (m : Int) < (n1 : Int) := by omega
  have hr1 := hr.below hb1
  clear ho1 hc1 hl1 hnm
  go_wp2
  have hB1 := hb1
  clear hb1 p1 q1 q2 q3 q4
  go_loopw [8] (fun sv wr => Hid (∃ t : Nat, sv = .int .i64 t ∧ r + 1 ≤ t ∧ t < n ∧ lastLess xs r (t + 1) = s) ∧ Below w.heap.size w wr) (fun sv _ => (intOf sv).toNat)
  case atStart => exact ⟨⟨n - 1, rfl, by omega, by omega, by rw [HtS.out]; congr 1; omega⟩, hB1⟩
  case round =>
    clear hB1 hr1
    obtain ⟨HT, hB⟩ := hrel
    obtain ⟨wo, rfl⟩ : ∃ wo : World, wo = wr := ⟨_, rfl⟩
    obtain ⟨t, rfl, ht1, htn, htl⟩ := HT.out
    clear HT
    have Htl := Lib.hid htl
    clear htl
    obtain ⟨xt, hxt⟩ := some_at Hn.out htn
    have Hxt := Lib.hid hxt
    have hro := hr.below hB
    have pt : wo.cell? ⟨b, off + t, none⟩ = some (.int .i64 xt) := by rw [hB.cell (World.block_lt_of_cell? w _ (hcell t xt hxt))]; exact hcell t xt hxt
    have pr : wo.cell? ⟨b, off + r, none⟩ = some (.int .i64 xr) := by rw [hB.cell (World.block_lt_of_cell? w _ (hcell r xr Hxr.out))]; exact hcell r xr Hxr.out
    have q5 : (t : Int) < (n : Int) := by omega
    have q6 : (r : Int) < (n : Int) := by omega
    clear hxt
    by_cases hlt : xt < xr
    · have hge : ¬ xr ≤ xt := by omega
      have hts : t = s := by rw [← Htl.out, lastLess_yes (by omega) Hxt.out Hxr.out hlt]
      subst hts
      have hBd := hB.trans ((Drew.below (w := wo) (w' := wo.drew) ⟨1, rfl⟩ _))
      have hrd := hr.below hBd
      have Hrd := Lib.hid hrd
      have HtV' := Lib.hid (show swp xs r t = v from HtV.out.symm)
      clear hro hB hrd
      have hge2 : decide (xr ≤ xt) = false := by simp; omega
      go_wp2
      go_region
      go_wp2_with fail
      refine (exchanged_any _ _ _ xs r t _ _ _ Hrd.out Hn.out (by omega) rfl rfl (by omega) (by omega) (by omega)).mono ?_
      rintro e w3 ⟨a3, c3, rfl, ho3, hb3⟩
      have hB3 := hBd.trans (hb3.mono hBd.size)
      rw [HtV'.out] at ho3
      have ho3 := ho3.mono (B' := w.heap.size) (S' := w3.heap.size) hBd.size (Nat.le_refl _)
      have Hv3 := Lib.hid ho3
      have hBa : Below w3.heap.size w3 (w3.alloc (.cells #[] 22)) := (Below.refl _ _).alloc (Nat.le_refl _) _
      have HK0 := Lib.hid (iio_made w3)
      have hvl : v.length = n := by rw [HV.out.2.1, Hn.out]
      have Hvl := Lib.hid hvl
      obtain ⟨S0, hS0⟩ : ∃ S, sumI (code v) = S := ⟨_, rfl⟩
      have hS0b := sum_bd hvl (by omega)
      rw [hS0] at hS0b
      have HS0 := Lib.hid hS0
      clear hb3 ho3 hBd hvl hS0
      go_wp2
      go_loopw [10, 44] (fun ov iv wr => Hid (∃ (q : Nat) (a1 : Option Addr) (n1 c1 : Nat), iv = .int .i64 q ∧ q ≤ r ∧ ov = .slice a1 n1 c1 ∧ IIO wr w3.heap.size wr.heap.size a1 n1 c1 (trTo v r q)) ∧ Below w3.heap.size w3 wr) (fun _ iv _ => r - (intOf iv).toNat)
      case atStart => exact ⟨⟨0, _, _, _, rfl, Nat.zero_le _, rfl, HK0.out⟩, hBa⟩
      case round =>
        clear HK0 hBa
        obtain ⟨HW, hBr⟩ := hrel
        obtain ⟨wi, rfl⟩ : ∃ wi : World, wi = wr := ⟨_, rfl⟩
        obtain ⟨q, a4, n4, c4, rfl, hq, rfl, hK⟩ := HW.out
        clear HW
        have hlen4 : n4 ≤ 7 := by
          have h1 := hK.len
          have h2 := trTo_len v r q
          omega
        have HK := Lib.hid hK
        have Hvi := Lib.hid (Hv3.out.below hBr)
        have hz3 : w3.heap.size ≤ wi.heap.size := hBr.size
        have hBw := hB3.trans (hBr.mono hB3.size)
        clear hK
        by_cases hqr : q < r
        · have Hsw := Lib.hid (show (swp v q r).length = n by rw [swp_length, Hvl.out])
          have Hswp := Lib.hid (isPerm_swp HV.out.1 (i := q) (j := r) (by rw [Hvl.out]; omega) (by rw [Hvl.out]; omega))
          obtain ⟨S1, hS1⟩ : ∃ S, sumI (code (swp v q r)) = S := ⟨_, rfl⟩
          have hS1b := sum_bd Hsw.out (by omega)
          rw [hS1] at hS1b
          have HS1 := Lib.hid hS1
          have Hhit := Lib.hid (show trHit v q r = decide (S1 = S0 + 1) by unfold trHit; rw [hS1, HS0.out])
          have HRow := Lib.hid (show trTo v r (q + 1) = if trHit v q r = true then trTo v r q ++ [swp v q r] else trTo v r q from rfl)
          have hrv := Hvi.out.rd
          have q8 : (q : Int) < (r : Int) := by omega
          clear hS1
          go_wp2_with fail
          refine (exchanged_any _ _ _ v q r _ _ _ hrv Hvl.out (by omega) rfl rfl (by omega) (by omega) (by omega)).mono ?_
          rintro e w5 ⟨a5, c5, rfl, ho5, hb5⟩
          have Ho5 := Lib.hid ho5
          have hz5 := hb5.size
          have Hv5 := Lib.hid (Hvi.out.below hb5)
          clear ho5 hrv
          go_wp2_with fail
          refine (isInt (lengthOf_any _ _ _ (swp v q r) _ Ho5.out.rd Hsw.out (by omega) Ho5.out.1.lt Hswp.out) HS1.out).mono ?_
          rintro e w6 ⟨rfl, hb6⟩
          have hz6 := hb6.size
          have Hv6 := Lib.hid (Hv5.out.below hb6)
          go_wp2_with fail
          refine (isInt (lengthOf_any _ _ _ v _ Hv6.out.rd Hvl.out (by omega) Hv6.out.1.lt HV.out.1) HS0.out).mono ?_
          rintro e w7 ⟨rfl, hb7⟩
          have hz7 := hb7.size
          have h57 := hb5.trans ((hb6.trans (hb7.mono hb6.size)).mono hb5.size)
          have hB7 := hBr.trans (h57.mono hBr.size)
          have Ho7 := Lib.hid (Ho5.out.below (hb6.trans (hb7.mono hb6.size)))
          have HK7 := Lib.hid (HK.out.below h57)
          have HRf := HRow.out
          clear hb5 hb6 hb7 Ho5 HK h57 Hv5 Hv6
          cases hhit : trHit v q r
          · have q9 : (S1 == S0 + 1) = false := by
              have := Hhit.out
              rw [hhit] at this
              simpa using this.symm
            have HF := Lib.hid (show IIO w7 w3.heap.size w7.heap.size a4 n4 c4 (trTo v r (q + 1)) by
              rw [HRf, hhit]
              exact HK7.out.mono (by omega))
            clear hhit HRf HK7
            go_wp2
            go_roundw
            case rel => exact ⟨⟨q + 1, _, _, _, by go_num, by omega, rfl, HF.out⟩, hB7⟩
            case measure => simp [intOf]; omega
          · have q9 : (S1 == S0 + 1) = true := by
              have := Hhit.out
              rw [hhit] at this
              simpa using this.symm
            have HRn := Lib.hid (show trTo v r q ++ [swp v q r] = trTo v r (q + 1) by rw [HRf, hhit, if_pos rfl])
            have hn4 : n4 + 1 ≤ 16777216 := by omega
            have hz57 : w5.heap.size ≤ w7.heap.size := by omega
            have hzi7 : wi.heap.size ≤ w7.heap.size := by omega
            have hz37 : w3.heap.size ≤ w7.heap.size := by omega
            clear hhit HRf
            go_wp2_with (first | (at_builtin; go_loud (refine wpList_pushII (by rfl) (by rfl) _ _ (by rfl) HK7.out (by rfl) Ho7.out hz3 (by rfl) hn4 hz37 hzi7 hz57 ?_)))
            intro a8 c8 w8 ho8 hg8
            have hB8 := hg8.below hB7 hB7.size (iio_lo HK7.out)
            rw [HRn.out] at ho8
            have HF := Lib.hid ho8
            clear ho8 hg8 HK7 Ho7
            go_wp2
            go_roundw
            case rel => exact ⟨⟨q + 1, _, _, _, by go_num, by omega, rfl, HF.out⟩, hB8⟩
            case measure => simp [intOf]; omega
        · obtain rfl : q = r := by omega
          have Hg := Lib.hid (trTo_good HV.out.2.2 (r := q) (k := q) (by rw [Hvl.out]; omega) (Nat.le_refl _) (by rw [Hvl.out]; omega))
          go_wp2_with fail
          refine (sortII_any _ _ _ _ _ _ _ HK.out Hg.out (by omega)).mono ?_
          rintro e w9 ⟨rfl, l9, hp9, hs9, ho9, hon9⟩
          have hB9 := hon9.below hBw (by have := hB3.size; omega) hBw.size
          have Hv9 := Lib.hid (Hvi.out.only hon9 (.inl (Nat.le_refl _)))
          have he9 := ascOf_perm hp9 hs9
          rw [he9] at ho9
          have Ho9 := Lib.hid (ho9.mono hon9.size)
          have hz9 : w3.heap.size ≤ w9.heap.size := Nat.le_trans hz3 hon9.size
          clear ho9 he9 hs9 hp9 hon9 HK Hvi hBr hBw Hg
          go_wp2
          (try simp only [Exit.inBlock, Exit.then]); refine bodyPost_ret (results_tmp4 rfl _ _ _) rfl ?_
          exact ⟨_, _, _, _, _, _, _, _, w3.heap.size, rfl, H0.out.1.symm, by rw [H0.out.2.1]; exact Hv9.out, by rw [H0.out.2.2]; exact Ho9.out, Hok.out.symm, hB3.size, hz9, hB9⟩
    · have hge : xr ≤ xt := by omega
      have q7 : IntKind.i64.wrap ((t : Int) - 1) = ((t - 1 : Nat) : Int) := by rw [IntWalk.i64_in _ (by omega)]; omega
      have htr : t ≠ r + 1 := by
        intro e
        subst e
        have h1 := Hxt.out
        rw [Hy.out] at h1
        have h2 := Option.some.inj h1
        have h3 := Hdd.out
        omega
      have Hst := Lib.hid (show lastLess xs r (t - 1 + 1) = s by rw [← Htl.out, lastLess_no Hxt.out Hxr.out hlt]; congr 1; omega)
      have hBd := hB.trans ((Drew.below (w := wo) (w' := wo.drew) ⟨1, rfl⟩ _))
      clear hro hB
      go_wp2
      go_region
      go_wp2
      go_roundw
      case rel => exact ⟨⟨t - 1, rfl, by omega, by omega, Hst.out⟩, hBd⟩
      case measure => simp [intOf]; omega
end Go.Proofs.Ytageojkepoejiaa
