/-
  MonkProduct, both.
-/
import Derived.Test.YtflkomgfgmephaaEmbed
import Derived.Test.YtflkomgfgmephaaL3Add
namespace Go.Proofs.Ytflkomgfgmephaa
open Go.RowKit

set_option maxRecDepth 100000 in
set_option maxHeartbeats 6400000 in
theorem implMonk_post (a : Option Addr) (n c : Nat) (xs : List Int) (K : Int) (w : World) (hr : RI w a xs) (hn : xs.length = n) (hb : n ≤ 1048576) (hcap : n ≤ c) :
    Calls Try.prog 22 #[.slice a n c, .int .i64 K] w (PostK w (monkT xs K) (monkIn xs K)) := by
  have Hn := Lib.hid hn
  cases hp : isPerm xs
  · have H0 := Lib.hid (monkIn_false (K := K) (.inl hp))
    have H1 := Lib.hid (monk_no H0.out)
    have Hp := Lib.hid hp
    clear hp hn
    go_enter Try.func22, Try.ntmps22
    go_wp2_with fail
    refine (is (implIsPerm_any _ _ _ xs _ hr Hn.out (by omega)) Hp.out).mono ?_
    rintro e w1 ⟨rfl, hB1⟩
    go_wp2
    go_ret2
    exact ⟨_, _, _, _, rfl, by rw [H1.out]; exact KO.nil, H0.out.symm, hB1⟩
  have Hp := Lib.hid hp
  by_cases h7 : n = 7
  · have H0 := Lib.hid (monkIn_false (xs := xs) (K := K) (.inr (.inl (by omega))))
    have H1 := Lib.hid (monk_no H0.out)
    subst h7
    clear hp hn
    go_enter Try.func22, Try.ntmps22
    go_wp2_with fail
    refine (is (implIsPerm_any _ _ _ xs _ hr Hn.out (by omega)) Hp.out).mono ?_
    rintro e w1 ⟨rfl, hB1⟩
    go_wp2
    go_ret2
    exact ⟨_, _, _, _, rfl, by rw [H1.out]; exact KO.nil, H0.out.symm, hB1⟩
  have q7 : ((n : Int) == 7) = false := by simp; omega
  by_cases hK0 : K < 0
  · have H0 := Lib.hid (monkIn_false (xs := xs) (K := K) (.inr (.inr (.inl hK0))))
    have H1 := Lib.hid (monk_no H0.out)
    clear hp hn
    go_enter Try.func22, Try.ntmps22
    go_wp2_with fail
    refine (is (implIsPerm_any _ _ _ xs _ hr Hn.out (by omega)) Hp.out).mono ?_
    rintro e w1 ⟨rfl, hB1⟩
    go_wp2
    go_ret2
    exact ⟨_, _, _, _, rfl, by rw [H1.out]; exact KO.nil, H0.out.symm, hB1⟩
  by_cases hKn : (n : Int) ≤ K
  · have H0 := Lib.hid (monkIn_false (xs := xs) (K := K) (.inr (.inr (.inr (by omega)))))
    have H1 := Lib.hid (monk_no H0.out)
    clear hp hn
    go_enter Try.func22, Try.ntmps22
    go_wp2_with fail
    refine (is (implIsPerm_any _ _ _ xs _ hr Hn.out (by omega)) Hp.out).mono ?_
    rintro e w1 ⟨rfl, hB1⟩
    go_wp2
    go_ret2
    exact ⟨_, _, _, _, rfl, by rw [H1.out]; exact KO.nil, H0.out.symm, hB1⟩
  obtain ⟨k, rfl⟩ : ∃ k : Nat, K = (k : Int) := ⟨K.toNat, by omega⟩
  have hkn : k < n := by omega
  have hl7 := (perm_len hp).2
  have hn6 : n ≤ 6 := by omega
  have hYes : monkIn xs (k : Int) = true := by
    unfold monkIn
    rw [hp, hn]
    simp
    omega
  have H0 := Lib.hid hYes
  obtain ⟨m, hm⟩ : ∃ m, n - k = m := ⟨_, rfl⟩
  have hkm : k + 1 + m = n + 1 := by omega
  have H1 := Lib.hid (show monkT xs (k : Int) = sortK (monkTo (grow1 xs) k m (k + 1)) by rw [monk_yes hYes]; unfold monkL; rw [Int.toNat_natCast, hn, hm])
  have Hxl := Lib.hid (show (grow1 xs).length = n + 1 by rw [grow1_length, hn])
  have Hxp := Lib.hid (grow1_perm hp (by omega))
  have Hnd := Lib.hid (show (grow1 xs).Nodup from ((isPerm_iff _).1 (grow1_perm hp (by omega))).2.2.2)
  have Hsum := Lib.hid (grow1_sum hp)
  obtain ⟨x, hx⟩ : ∃ x, grow1 xs = x := ⟨_, rfl⟩
  rw [hx] at H1 Hxl Hxp Hnd Hsum
  have Hx := Lib.hid hx
  obtain ⟨S0, hS0⟩ : ∃ S, sumI (code xs) = S := ⟨_, rfl⟩
  have hS0b := sum_bd hn (by omega)
  rw [hS0] at Hsum hS0b
  have HS0 := Lib.hid hS0
  clear hp hn hYes hm hx hS0 hl7
  go_enter Try.func22, Try.ntmps22
  go_wp2_with fail
  refine (is (implIsPerm_any _ _ _ xs _ hr Hn.out (by omega)) Hp.out).mono ?_
  rintro e w1 ⟨rfl, hB1⟩
  have hr1 := hr.below hB1
  go_wp2_with fail
  refine (embed_any _ _ _ xs _ _ hr1 Hn.out hn6 Hp.out rfl).mono ?_
  rintro e w2 ⟨a2, c2, rfl, ho2, hb2⟩
  rw [Hx.out] at ho2
  have hB2 := hB1.trans (hb2.mono hB1.size)
  have Hrx := Lib.hid ho2.rd
  have hr2 := hr1.below hb2
  have HK0 := Lib.hid (KO.made w2)
  have hBa : Below w2.heap.size w2 (w2.alloc (.cells #[] 81)) := (Below.refl _ _).alloc (Nat.le_refl _) _
  clear ho2 hb2 hr1
  go_wp2
  go_loopw [7, 37] (fun ov iv wr => Hid (∃ (i : Nat) (a1 : Option Addr) (n1 c1 : Nat), iv = .int .i64 i ∧ i ≤ k + 1 ∧ ov = .slice a1 n1 c1 ∧ KO wr w2.heap.size wr.heap.size a1 n1 c1 (monkTo x k m i)) ∧ Below w2.heap.size w2 wr) (fun _ iv _ => k + 1 - (intOf iv).toNat)
  case atStart => exact ⟨⟨0, _, _, _, rfl, Nat.zero_le _, rfl, HK0.out⟩, hBa⟩
  case round =>
    clear HK0 hBa
    obtain ⟨HV, hB⟩ := hrel
    obtain ⟨wo, rfl⟩ : ∃ wo : World, wo = wr := ⟨_, rfl⟩
    obtain ⟨i, a1, n1, c1, rfl, hi, rfl, hK⟩ := HV.out
    clear HV
    by_cases hlt : i < k + 1
    · have HK := Lib.hid hK
      have q1 : (i : Int) < (k : Int) + 1 := by omega
      clear hK
      go_wp2
      go_loopw [7, 9] (fun ov bv wr => Hid (∃ (t : Nat) (a1 : Option Addr) (n1 c1 : Nat), bv = .int .i64 ((k + 1 + t : Nat) : Int) ∧ t ≤ m ∧ ov = .slice a1 n1 c1 ∧ KO wr w2.heap.size wr.heap.size a1 n1 c1 (monkTo x k m i ++ rowTo x i k t)) ∧ Below w2.heap.size w2 wr) (fun _ bv _ => n + 1 - (intOf bv).toNat)
      case atStart => exact ⟨⟨0, _, _, _, by simp, Nat.zero_le _, rfl, by rw [rowTo, List.append_nil]; exact HK.out⟩, hB⟩
      case round =>
        clear HK hB
        obtain ⟨HV, hB⟩ := hrel
        obtain ⟨wi, rfl⟩ : ∃ wi : World, wi = wr := ⟨_, rfl⟩
        obtain ⟨t, a3, n3, c3, rfl, ht, rfl, hK⟩ := HV.out
        clear HV
        by_cases hlt2 : t < m
        · obtain ⟨b, hbq⟩ : ∃ b, k + 1 + t = b := ⟨_, rfl⟩
          have Hbq := Lib.hid hbq
          have q2 : (b : Int) < (n : Int) + 1 := by omega
          have q3 : ((b : Nat) : Int) < ((n + 1 : Nat) : Int) := by omega
          have hib : i < b := by omega
          have hbn : b < n + 1 := by omega
          rw [hbq]
          have hK2 := hK
          have hlen3 : n3 ≤ 100 := by
            have h1 := hK.len
            rw [List.length_append] at h1
            have h2 := monkTo_len x k m i
            have h3 := rowTo_len x i k t
            have h4 : i * m ≤ 7 * 7 := Nat.mul_le_mul (by omega) (by omega)
            omega
          have HK := Lib.hid hK
          have hrx := Hrx.out.below hB
          have hrw := hr2.below hB
          have HBu := Lib.hid hB
          have Hsw := Lib.hid (show (swp x i b).length = n + 1 by rw [swp_length, Hxl.out])
          have Hswp := Lib.hid (isPerm_swp Hxp.out (i := i) (j := b) (by rw [Hxl.out]; omega) (by rw [Hxl.out]; omega))
          obtain ⟨S1, hS1⟩ : ∃ S, sumI (code (swp x i b)) = S := ⟨_, rfl⟩
          have hS1b := sum_bd Hsw.out (by omega)
          rw [hS1] at hS1b
          have HS1 := Lib.hid hS1
          have Hhit := Lib.hid (show monkHit x i b = decide (S1 = S0 + 1) by unfold monkHit; rw [hS1, Hsum.out])
          have HRow := Lib.hid (show rowTo x i k (t + 1) = rowTo x i k t ++ if monkHit x i b = true then [monkCls x i b] else [] by rw [← hbq]; rfl)
          clear hK hK2 hS1 hbq
          go_wp2_with fail
          refine (exchanged_any _ _ _ x i b _ _ _ hrx Hxl.out (by omega) rfl rfl (by omega) (by omega) (by omega)).mono ?_
          rintro e w4 ⟨a4, c4, rfl, ho4, hb4⟩
          have hB4 := hB.trans (hb4.mono hB.size)
          have Ho4 := Lib.hid ho4
          have hz4 := hb4.size
          clear ho4
          go_wp2_with fail
          refine (isInt (lengthOf_any _ _ _ (swp x i b) _ Ho4.out.rd Hsw.out (by omega) Ho4.out.1.lt Hswp.out) HS1.out).mono ?_
          rintro e w5 ⟨rfl, hb5⟩
          have hB5 := hB4.trans (hb5.mono hB4.size)
          have hrw5 := hrw.below (hb4.trans (hb5.mono hb4.size))
          have hz5 := hb5.size
          go_wp2_with fail
          refine (isInt (lengthOf_any _ _ _ xs _ hrw5 Hn.out (by omega) hcap Hp.out) HS0.out).mono ?_
          rintro e w6 ⟨rfl, hb6⟩
          have hB6 := hB5.trans (hb6.mono hB5.size)
          have hz6 := hb6.size
          have h46 := hb4.trans ((hb5.trans (hb6.mono hb5.size)).mono hb4.size)
          have Ho46 := Lib.hid (Ho4.out.below (hb5.trans (hb6.mono hb5.size)))
          have HK6 := Lib.hid (HK.out.below h46)
          have HRf := HRow.out
          clear hrx hrw hrw5 hb4 hb5 hb6 Ho4 HK hB hB4 hB5
          cases hhit : monkHit x i b
          · have q5 : (S1 == S0 + 1) = false := by
              have := Hhit.out
              rw [hhit] at this
              simpa using this.symm
            have HRn := Lib.hid (show monkTo x k m i ++ rowTo x i k t = monkTo x k m i ++ rowTo x i k (t + 1) by rw [HRf, hhit]; simp)
            have HF := Lib.hid (show KO w6 w2.heap.size w6.heap.size a3 n3 c3 (monkTo x k m i ++ rowTo x i k (t + 1)) by rw [← HRn.out]; exact HK6.out.mono (Nat.le_refl _) h46.size)
            have HE : Hid (Value.int .i64 ((b : Int) + 1) = Value.int .i64 ((k + 1 + (t + 1) : Nat) : Int)) := by
              have := Hbq.out
              show _ = _
              congr 1
              omega
            clear hhit HRf HK6 h46
            go_wp2
            go_roundw
            case rel => exact ⟨⟨t + 1, _, _, _, HE.out, by omega, rfl, HF.out⟩, hB6⟩
            case measure => simp [intOf]; omega
          · have q5 : (S1 == S0 + 1) = true := by
              have := Hhit.out
              rw [hhit] at this
              simpa using this.symm
            have HRn := Lib.hid (show monkTo x k m i ++ (rowTo x i k t ++ [((swp x i b).take (trimLen (swp x i b) (n + 1)), 1)]) = monkTo x k m i ++ rowTo x i k (t + 1) by
              rw [HRf, hhit, if_pos rfl]
              unfold monkCls trimP
              rw [Hsw.out])
            have HE : Hid (Value.int .i64 ((b : Int) + 1) = Value.int .i64 ((k + 1 + (t + 1) : Nat) : Int)) := by
              have := Hbq.out
              show _ = _
              congr 1
              omega
            clear hhit HRf
            go_wp2_with fail
            refine (implTrim_any _ _ _ (swp x i b) _ Ho46.out.rd Hsw.out (by omega) Ho46.out.1.lt Hswp.out).mono ?_
            rintro e w7 ⟨a7, c7, rfl, ho7, hb7⟩
            have hB7 := hB6.trans (hb7.mono hB6.size)
            have HK7 := Lib.hid (HK6.out.below hb7)
            have Ho7 := Lib.hid (ho7.mono (B' := wi.heap.size) (S' := w7.heap.size) h46.size (Nat.le_refl _))
            have hbs := HBu.out.size
            have hz7 : wi.heap.size ≤ w7.heap.size := Nat.le_trans h46.size hb7.size
            have hn3' : n3 + 1 ≤ 1048576 := by omega
            clear ho7 hb7 HK6 Ho46 h46
            go_wp2_with (first | (at_builtin; go_loud (refine wpList_pushTK (by rfl) (by rfl) _ _ (by rfl) HK7.out (by rfl) Ho7.out hbs (by rfl) (by rfl) hn3' (by omega) hz7 (Nat.le_refl _) ?_)))
            intro a8 c8 w8 ho8 hg8
            have hB8 := below_grown (v := .slice a3 n3 c3) hB7 hg8 hB7.size HK7.out.lo
            rw [HRn.out] at ho8
            have HF := Lib.hid ho8
            clear ho8 hg8 HK7 Ho7
            go_wp2
            go_roundw
            case rel => exact ⟨⟨t + 1, _, _, _, HE.out, by omega, rfl, HF.out⟩, hB8⟩
            case measure => simp [intOf]; omega
        · obtain rfl : t = m := by omega
          have q2 : ¬ ((k + 1 + t : Nat) : Int) < (n : Int) + 1 := by omega
          have HF := Lib.hid (show KO wi w2.heap.size wi.heap.size a3 n3 c3 (monkTo x k t (i + 1)) from hK)
          clear hK
          go_wp2
          go_roundw
          case rel => exact ⟨⟨i + 1, _, _, _, by go_num, by omega, rfl, HF.out⟩, hB⟩
          case measure => simp [intOf]; omega
    · obtain rfl : i = k + 1 := by omega
      have q1 : ¬ ((k + 1 : Nat) : Int) < (k : Int) + 1 := by omega
      have hDst := monkTo_dst Hnd.out (by rw [Hxl.out]; omega) (k + 1) (Nat.le_refl _) (m := m) (k := k)
      have HG := Lib.hid (hDst.good fun p hp => by
        obtain ⟨a, b, _, _, _, rfl⟩ := monkTo_mem hp
        have := monk_short (x := x) (L := [monkCls x a b]) (fun q hq => ⟨a, b, by simpa using hq⟩) _ List.mem_cons_self
        rw [Hxl.out] at this
        omega)
      have hlen1 : n1 ≤ 1048576 := by
        have h1 := hK.len
        have h2 := monkTo_len x k m (k + 1)
        have h4 : (k + 1) * m ≤ 7 * 7 := Nat.mul_le_mul (by omega) (by omega)
        omega
      have HK := Lib.hid hK
      have HD := Lib.hid hDst
      clear hK hDst
      go_wp2_with fail
      refine (sortCls_any _ _ _ _ _ _ _ HK.out HG.out hlen1).mono ?_
      rintro e w5 ⟨rfl, ys, hperm, hasc, hK5, hO5⟩
      have hys : ys = sortK (monkTo x k m (k + 1)) := asc_unique hasc (sortK_asc HD.out) (hperm.trans (sortK_perm _).symm)
      subst hys
      have hB5 := hO5.below hB (Nat.le_refl _) hB.size
      have hBf := hB2.trans (hB5.mono hB2.size)
      have HK5 := Lib.hid (hK5.mono (B' := w.heap.size) (S' := w5.heap.size) hB2.size hO5.size)
      clear hK5 hperm hasc hO5
      go_wp2
      go_ret2
      exact ⟨_, _, _, _, rfl, by rw [H1.out]; exact HK5.out, H0.out.symm, hBf⟩
theorem implMonk_any (a : Option Addr) (n c : Nat) (xs : List Int) (K : Int) (w : World) (hr : RI w a xs) (hn : xs.length = n) (hb : n ≤ 1048576) (hcap : n ≤ c) (_hl : -9223372036854775808 ≤ K) (_hu : K ≤ 9223372036854775807) :
    Calls Try.prog 22 #[.slice a n c, .int .i64 K] w fun e w' => ∃ a' n' c' r, e = .returned (.tuple #[.slice a' n' c', .bool r]) ∧ KO w' w.heap.size w'.heap.size a' n' c' (monkT xs K) ∧ Hid (r = monkIn xs K) ∧ Below w.heap.size w w' :=
  (implMonk_post a n c xs K w hr hn hb hcap).mono fun _ _ h => h
end Go.Proofs.Ytflkomgfgmephaa
