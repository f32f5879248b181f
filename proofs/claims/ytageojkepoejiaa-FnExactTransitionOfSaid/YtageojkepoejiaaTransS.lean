/-
  Contract of TransitionOf, that of the reference.
-/
import Derived.Test.YtageojkepoejiaaTransI
import Derived.Test.YtageojkepoejiaaL1Insert
namespace Go.Proofs.Ytageojkepoejiaa
open Go.RowKit

def PostTrS (xs : List Int) (w : World) (e : Ending) (w' : World) : Prop :=
  ∃ r0 a1 n1 c1 a2 n2 c2 r3 mid, e = .returned (.tuple #[.int .i64 r0, .slice a1 n1 c1, .slice a2 n2 c2, .bool r3]) ∧ Hid (r0 = tr0 xs) ∧ OwI w' w.heap.size mid a1 n1 c1 (tr1 xs) ∧ IIS w' mid w'.heap.size a2 n2 c2 (tr2 xs) ∧
    Hid (r3 = trOk xs) ∧ w.heap.size ≤ mid ∧ mid ≤ w'.heap.size ∧ Below w.heap.size w w'
theorem iis_lo {w : World} {B S : Nat} {a : Option Addr} {n c : Nat} {xss : List (List Int)} (h : IIS w B S a n c xss) : ∀ k, (Value.slice a n c).ownBlock = some k → B ≤ k := by
  obtain ⟨vs, h1, _, _⟩ := h
  intro k hk
  rcases ownsRow_shape h1 with ⟨_, rfl, _, _⟩ | ⟨g, rfl, hg, _⟩
  · simp [Value.ownBlock] at hk
  · simp [Value.ownBlock] at hk; omega
theorem ascOf_short {v : List Int} {r k m : Nat} (hv : v.length ≤ m) : ∀ p ∈ ascOf (trTo v r k), p.length ≤ m := by
  intro p hp
  rw [mem_ascOf] at hp
  obtain ⟨q, _, rfl⟩ := trTo_mem hp
  rw [swp_length]
  exact hv

set_option maxRecDepth 100000 in
set_option maxHeartbeats 6400000 in
theorem specTrans_any (a : Option Addr) (n c : Nat) (xs : List Int) (w : World) (hr : RI w a xs) (hn : xs.length = n) (hb : n ≤ 1048576) (hcap : n ≤ c) :
    Calls Try.prog 8 #[.slice a n c] w (PostTrS xs w) := by
  have Hn := Lib.hid hn
  cases hok : trOk xs
  · have H0 := Lib.hid (tr_no hok)
    have Hok := Lib.hid hok
    clear hok hn
    go_enter Try.func8, Try.ntmps8
    go_wp2_with fail
    refine (specDescents_any _ _ _ xs _ hr Hn.out (by omega) hcap).mono ?_
    rintro e w1 ⟨a1, n1, c1, rfl, ho1, hb1⟩
    obtain rfl : n1 = 0 := by have := ho1.len; rw [H0.out.2.2.2] at this; exact this.symm
    clear ho1
    go_wp2
    (try simp only [Exit.inBlock, Exit.then]); refine bodyPost_ret (results_tmp4 rfl _ _ _) rfl ?_
    exact ⟨_, _, _, _, _, _, _, _, w1.heap.size, rfl, H0.out.1.symm, by rw [H0.out.2.1]; exact OwI.nil, by rw [H0.out.2.2.1]; exact IIO.nil.toS, Hok.out.symm, hb1.size, Nat.le_refl _, hb1⟩
  obtain ⟨hp, hrn, hdd, hlast, hrs, hsn⟩ := tr_facts hok
  have H0 := Lib.hid (tr_yes hok)
  have HV := Lib.hid (trV_facts hok)
  have Hok := Lib.hid hok
  have hn7 : n ≤ 7 := by rw [← hn]; exact ((isPerm_iff xs).1 hp).2.1
  have HtV := Lib.hid (show trV xs = swp xs (trR xs) (trS xs) from rfl)
  have HtS := Lib.hid (show trS xs = lastLess xs (trR xs) n by unfold trS; rw [hn])
  rw [hn] at hrn hsn
  generalize trR xs = r at *
  generalize trS xs = s at *
  generalize trV xs = v at *
  have Hl := Lib.hid hlast
  have Hp := Lib.hid hp
  obtain ⟨xr, hxr⟩ := some_at Hn.out (show r < n by omega)
  have Hxr := Lib.hid hxr
  have Hrs := Lib.hid hrs
  have Hst := Lib.hid (lastLess_start xs r (r + 1) (by omega))
  obtain ⟨b, off, rfl, hcell⟩ := hr.at (k := r) (by rw [hn]; omega)
  clear hlast hp hok hn hxr hdd
  go_enter Try.func8, Try.ntmps8
  go_wp2_with fail
  refine (specDescents_any _ _ _ xs _ hr Hn.out (by omega) hcap).mono ?_
  rintro e w1 ⟨a1, n1, c1, rfl, ho1, hb1⟩
  have hl1 := ho1.len
  obtain ⟨m, hnm⟩ : ∃ m, n1 = m + 1 := ⟨n1 - 1, by
    have := (List.getElem?_eq_some_iff.1 Hl.out).1
    omega⟩
  have Hl1 := Lib.hid (show (descents xs)[m]? = some (r : Int) by have := Hl.out; rw [hl1, hnm] at this; exact this)
  obtain ⟨b1, off1, rfl, hc1⟩ := ho1.rd.at (k := m) (by omega)
  have p1 := hc1 m _ Hl1.out
  have hm6 : m ≤ 1000 := by have := descents_len xs; omega
  have q1 : ((n1 : Int) == 0) = false := by simp; omega
  have q2 : IntKind.i64.wrap ((n1 : Int) - 1) = (m : Int) := by rw [IntWalk.i64_in _ (by omega)]; omega
  have q4 : (m : Int) < (n1 : Int) := by omega
  have q3 : IntKind.i64.wrap ((r : Int) + 1) = ((r + 1 : Nat) : Int) := by rw [IntWalk.i64_in _ (by omega)]; omega
  have hr1 := hr.below hb1
  clear ho1 hc1 hl1 hnm
  go_wp2
  have hB1 := hb1
  clear hb1 p1 q1 q2 q3 q4
  go_loopw [8, 9] (fun sv jv wr => Hid (∃ j : Nat, jv = .int .i64 j ∧ r + 1 ≤ j ∧ j ≤ n ∧ sv = .int .i64 (lastLess xs r j : Nat)) ∧ Below w.heap.size w wr) (fun _ jv _ => n - (intOf jv).toNat)
  case atStart => exact ⟨⟨r + 1, rfl, by omega, by omega, by rw [Hst.out]; go_num⟩, hB1⟩
  case round =>
    clear hB1 hr1
    obtain ⟨HT, hB⟩ := hrel
    obtain ⟨wo, rfl⟩ : ∃ wo : World, wo = wr := ⟨_, rfl⟩
    obtain ⟨t, rfl, ht1, htn, rfl⟩ := HT.out
    clear HT
    have hro := hr.below hB
    by_cases hlt : t < n
    · obtain ⟨xt, hxt⟩ := some_at Hn.out hlt
      have Hxt := Lib.hid hxt
      have pt : wo.cell? ⟨b, off + t, none⟩ = some (.int .i64 xt) := by rw [hB.cell (World.block_lt_of_cell? w _ (hcell t xt hxt))]; exact hcell t xt hxt
      have pr : wo.cell? ⟨b, off + r, none⟩ = some (.int .i64 xr) := by rw [hB.cell (World.block_lt_of_cell? w _ (hcell r xr Hxr.out))]; exact hcell r xr Hxr.out
      have q5 : (t : Int) < (n : Int) := by omega
      have q6 : (r : Int) < (n : Int) := by omega
      have hBd := hB.trans ((Drew.below (w := wo) (w' := wo.drew) ⟨1, rfl⟩ _))
      clear hxt
      generalize hll : lastLess xs r t = ll
      have Hll := Lib.hid hll
      clear hll hro hB
      cases hlx : decide (xt < xr)
      · have hno := Lib.hid (show lastLess xs r (t + 1) = ll by rw [lastLess_no Hxt.out Hxr.out (by simpa using hlx), Hll.out])
        go_wp2
        go_region
        go_wp2
        go_roundw
        case rel => exact ⟨⟨t + 1, by go_num, by omega, by omega, by rw [hno.out]⟩, hBd⟩
        case measure => simp [intOf]; omega
      · have hyes := Lib.hid (show lastLess xs r (t + 1) = t from lastLess_yes (by omega) Hxt.out Hxr.out (by simpa using hlx))
        go_wp2
        go_region
        go_wp2
        go_roundw
        case rel => exact ⟨⟨t + 1, by go_num, by omega, by omega, by rw [hyes.out]⟩, hBd⟩
        case measure => simp [intOf]; omega
    · obtain rfl : t = n := by omega
      have HtS' := Lib.hid (show lastLess xs r t = s from HtS.out.symm)
      have Hrd := Lib.hid hro
      rw [HtS'.out]
      have HtV' := Lib.hid (show swp xs r s = v from HtV.out.symm)
      clear hro
      go_wp2_with fail
      refine (l1Swap_any _ _ _ xs r s _ _ _ Hrd.out Hn.out (by omega) rfl rfl (by omega) (by omega)).mono ?_
      rintro e w3 ⟨a3, c3, rfl, ho3, hb3⟩
      have hB3 := hB.trans (hb3.mono hB.size)
      rw [HtV'.out] at ho3
      have ho3 := ho3.mono (B' := w.heap.size) (S' := w3.heap.size) hB.size (Nat.le_refl _)
      have Hv3 := Lib.hid ho3
      have hBa : Below w3.heap.size w3 (w3.alloc (.cells #[] 22)) := (Below.refl _ _).alloc (Nat.le_refl _) _
      have HK0 := Lib.hid (iio_made w3).toS
      have hvl : v.length = t := by rw [HV.out.2.1, Hn.out]
      have Hvl := Lib.hid hvl
      obtain ⟨S0, hS0⟩ : ∃ S, sumI (code v) = S := ⟨_, rfl⟩
      have hS0b := sum_bd hvl (by omega)
      rw [hS0] at hS0b
      have HS0 := Lib.hid hS0
      clear hb3 ho3 hvl hS0 hB
      go_wp2
      go_loopw [11, 12] (fun ov iv wr => Hid (∃ (q : Nat) (a1 : Option Addr) (n1 c1 : Nat), iv = .int .i64 q ∧ q ≤ r ∧ ov = .slice a1 n1 c1 ∧ IIS wr w3.heap.size wr.heap.size a1 n1 c1 (ascOf (trTo v r q))) ∧ Below w3.heap.size w3 wr) (fun _ iv _ => r - (intOf iv).toNat)
      case atStart => exact ⟨⟨0, _, _, _, rfl, Nat.zero_le _, rfl, HK0.out⟩, hBa⟩
      case round =>
        clear HK0 hBa
        obtain ⟨HW, hBr⟩ := hrel
        obtain ⟨wi, rfl⟩ : ∃ wi : World, wi = wr := ⟨_, rfl⟩
        obtain ⟨q, a4, n4, c4, rfl, hq, rfl, hK⟩ := HW.out
        clear HW
        have hlen4 : n4 ≤ 7 := by
          have h1 := hK.len
          have h2 := trTo_len v r q
          have h3 := ascOf_length (trTo v r q)
          omega
        have HK := Lib.hid hK
        have Hvi := Lib.hid (Hv3.out.below hBr)
        have hz3 : w3.heap.size ≤ wi.heap.size := hBr.size
        have hBw := hB3.trans (hBr.mono hB3.size)
        clear hK
        by_cases hqr : q < r
        · have Hsw := Lib.hid (show (swp v q r).length = t by rw [swp_length, Hvl.out])
          obtain ⟨S1, hS1⟩ : ∃ S, sumI (code (swp v q r)) = S := ⟨_, rfl⟩
          have hS1b := sum_bd Hsw.out (by omega)
          rw [hS1] at hS1b
          have HS1 := Lib.hid hS1
          have Hhit := Lib.hid (show trHit v q r = decide (S1 = S0 + 1) by unfold trHit; rw [hS1, HS0.out])
          have HRow := Lib.hid (show trTo v r (q + 1) = if trHit v q r = true then trTo v r q ++ [swp v q r] else trTo v r q from rfl)
          have hrv := Hvi.out.rd
          have q8 : (q : Int) < (r : Int) := by omega
          clear hS1
          go_wp2_with fail
          refine (l1Swap_any _ _ _ v q r _ _ _ hrv Hvl.out (by omega) rfl rfl (by omega) (by omega)).mono ?_
          rintro e w5 ⟨a5, c5, rfl, ho5, hb5⟩
          have Ho5 := Lib.hid ho5
          have hz5 := hb5.size
          have Hv5 := Lib.hid (Hvi.out.below hb5)
          clear ho5 hrv
          go_wp2_with fail
          refine (isInt (l1Length_any _ _ _ (swp v q r) _ Ho5.out.rd Hsw.out (by omega)) HS1.out).mono ?_
          rintro e w6 ⟨rfl, hb6⟩
          have hz6 := hb6.size
          have Hv6 := Lib.hid (Hv5.out.below hb6)
          go_wp2_with fail
          refine (isInt (l1Length_any _ _ _ v _ Hv6.out.rd Hvl.out (by omega)) HS0.out).mono ?_
          rintro e w7 ⟨rfl, hb7⟩
          have hz7 := hb7.size
          have h57 := hb5.trans ((hb6.trans (hb7.mono hb6.size)).mono hb5.size)
          have hB7 := hBr.trans (h57.mono hBr.size)
          have Ho7 := Lib.hid (Ho5.out.below (hb6.trans (hb7.mono hb6.size)))
          have HK7 := Lib.hid (HK.out.below h57)
          have HRf := HRow.out
          clear hb5 hb6 hb7 Ho5 HK h57 Hv5 Hv6
          cases hhit : trHit v q r
          · have q9 : (S1 == S0 + 1) = false := by
              have := Hhit.out
              rw [hhit] at this
              simpa using this.symm
            have HF := Lib.hid (show IIS w7 w3.heap.size w7.heap.size a4 n4 c4 (ascOf (trTo v r (q + 1))) by
              rw [HRf, hhit]
              exact HK7.out.mono (by omega))
            clear hhit HRf HK7
            go_wp2
            go_roundw
            case rel => exact ⟨⟨q + 1, _, _, _, by go_num, by omega, rfl, HF.out⟩, hB7⟩
            case measure => simp [intOf]; omega
          · have q9 : (S1 == S0 + 1) = true := by
              have := Hhit.out
              rw [hhit] at this
              simpa using this.symm
            have HRn := Lib.hid (show insL (swp v q r) (ascOf (trTo v r q)) = ascOf (trTo v r (q + 1)) by rw [HRf, hhit, if_pos rfl, ascOf_snoc])
            have hzi7 : wi.heap.size ≤ w7.heap.size := by omega
            have hz37 : w3.heap.size ≤ w7.heap.size := by omega
            have HKm := Lib.hid (HK7.out.mono hzi7)
            have Hom := Lib.hid (Ho7.out.mono (B' := w3.heap.size) (S' := w7.heap.size) hz3 (by omega))
            have Hshort := Lib.hid (ascOf_short (r := r) (k := q) (v := v) (m := 1048576) (by rw [Hvl.out]; omega))
            clear hhit HRf HK7 Ho7
            go_wp2_with fail
            refine (l1Insert_any _ _ _ _ _ _ _ _ _ _ _ HKm.out Hom.out (Nat.le_refl _) hz37 (by omega) (by omega) Hshort.out).mono ?_
            rintro e w8 ⟨a8, n8, c8, rfl, ho8, hb8⟩
            have hB8 := hB7.trans (hb8.mono hB7.size)
            rw [HRn.out] at ho8
            have HF := Lib.hid ho8
            clear ho8 hb8 HKm Hom
            go_wp2
            go_roundw
            case rel => exact ⟨⟨q + 1, _, _, _, by go_num, by omega, rfl, HF.out⟩, hB8⟩
            case measure => simp [intOf]; omega
        · obtain rfl : q = r := by omega
          clear hBr
          go_wp2
          (try simp only [Exit.inBlock, Exit.then]); refine bodyPost_ret (results_tmp4 rfl _ _ _) rfl ?_
          exact ⟨_, _, _, _, _, _, _, _, w3.heap.size, rfl, H0.out.1.symm, by rw [H0.out.2.1]; exact Hvi.out, by rw [H0.out.2.2]; exact HK.out, Hok.out.symm, hB3.size, hz3, hBw⟩
end Go.Proofs.Ytageojkepoejiaa
