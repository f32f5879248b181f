/-
  SchubertPoly of the program.
  PolyOk of the reference.
-/
import Derived.Test.YtjljacmepidgcaaBuK12
import Derived.Test.YtjljacmepidgcaaBuK15
import Derived.Test.YtjljacmepidgcaaBuK16
import Derived.Test.YtjljacmepidgcaaBuK9
namespace Go.Proofs.Ytjljacmepidgcaa
open Go.RowKit

def schT (xs : List Int) : List (List Int × Int) := if isPerm xs = true then closedT (schM (trim xs) (trimLen xs xs.length)) else []
def schOk (xs : List Int) : Bool := isPerm xs && polyOk (termsM (schM (trim xs) (trimLen xs xs.length)))
theorem sch_no {xs : List Int} (h : isPerm xs = false) : schT xs = [] ∧ schOk xs = false := by
  unfold schT schOk
  rw [h]
  exact ⟨rfl, rfl⟩
theorem sch_yes {xs : List Int} (h : isPerm xs = true) : schT xs = closedT (schM (trim xs) (trimLen xs xs.length)) ∧ schOk xs = polyOk (termsM (schM (trim xs) (trimLen xs xs.length))) := by
  unfold schT schOk
  rw [h]
  exact ⟨if_pos rfl, rfl⟩
theorem sch_b7 (v : List Int) {m : Nat} (hm : m ≤ 7) (hv : v.length = m) : B7 (schM v m) :=
  (B7.stair hm).low _ fun k hk => by have := ups_lt v k hk; omega

set_option maxRecDepth 100000 in
set_option maxHeartbeats 1600000 in
theorem implSchub_any (a : Option Addr) (n c : Nat) (xs : List Int) (w : World) (hr : RI w a xs) (hn : xs.length = n) (hb : n ≤ 7) (hc : n ≤ c) (hp : isPerm xs = true) :
    Calls Try.prog 42 #[.slice a n c] w fun e w' => ∃ r, e = .returned (.map (some r)) ∧ PF w' r (schM (xs.take (trimLen xs n)) (trimLen xs n)) ∧ Below w.heap.size w w' := by
  have Hn := Lib.hid hn; clear hn
  have HT := Lib.hid (fun w (hr : RI w a xs) => implTrim_any a n c xs w hr Hn.out (by omega) hc hp)
  have hmn := trimLen_le xs n
  obtain ⟨m, hm⟩ : ∃ m, trimLen xs n = m := ⟨_, rfl⟩
  rw [hm] at HT hmn ⊢
  obtain ⟨v, hv⟩ : ∃ v, xs.take m = v := ⟨_, rfl⟩
  have Hvl := Lib.hid (show v.length = m by rw [← hv, List.length_take, Hn.out]; omega)
  rw [hv] at HT ⊢
  clear hm hv hp
  have HB7 := Lib.hid (B7.stair (n := m) (by omega))
  go_enter Try.func42, Try.ntmps42
  go_wp2_with fail
  refine (HT.out _ hr).mono ?_
  rintro e w1 ⟨a1, c1, rfl, ho1, hb1⟩
  have Ho1 := Lib.hid ho1
  clear ho1
  go_wp2_with fail
  refine (implStair_any m _ (by omega)).mono ?_
  rintro e w2 ⟨r2, rfl, hF2, hb2⟩
  have hB2 := hb1.trans (hb2.mono hb1.size)
  have HF2 := Lib.hid hF2
  have Ho12 := Lib.hid (Ho1.out.below hb2)
  clear hF2
  go_wp2_with fail
  refine (lowered_any 41 (fun args w => by kernel_rfl) dividedM B7 7 (Nat.le_refl _) (fun i F hi h => h.divided (by omega)) (fun b i I F w hF hI hi _ => divided_any b i I F w hF hI (by omega)) (nin v + 1) _ _ _ v _ r2 _ (Nat.lt_succ_self _) Ho12.out.rd Hvl.out (by omega) HF2.out HB7.out).mono ?_
  rintro e w3 ⟨r3, rfl, hF3, _, hb3⟩
  have hB3 := hB2.trans (hb3.mono hB2.size)
  have HF3 := Lib.hid hF3
  clear hF3
  go_wp2
  go_ret
  exact ⟨_, rfl, HF3.out, hB3⟩

set_option maxRecDepth 100000 in
set_option maxHeartbeats 1600000 in
theorem implSch_any (a : Option Addr) (n c : Nat) (xs : List Int) (w : World) (hr : RI w a xs) (hn : xs.length = n) (hb : n ≤ 1048576) (hc : n ≤ c) :
    Calls Try.prog 24 #[.slice a n c] w fun e w' => ∃ a' n' c' r, e = .returned (.tuple #[.slice a' n' c', .bool r]) ∧ TO w' w.heap.size w'.heap.size a' n' c' (schT xs) ∧ Hid (r = schOk xs) ∧ Below w.heap.size w w' := by
  have Hn := Lib.hid hn
  cases hp : isPerm xs
  · have H0 := Lib.hid (sch_no hp)
    have Hp := Lib.hid hp
    clear hp hn
    go_enter Try.func24, Try.ntmps24
    go_wp2_with fail
    refine (is (implIsPerm_any _ _ _ xs _ hr Hn.out (by omega)) Hp.out).mono ?_
    rintro e w1 ⟨rfl, hB1⟩
    go_wp2
    go_ret2
    exact ⟨_, _, _, _, rfl, by rw [H0.out.1]; exact TO.nil, H0.out.2.symm, hB1⟩
  have h7 : n ≤ 7 := by rw [← hn]; exact ((isPerm_iff xs).1 hp).2.1
  have H0 := Lib.hid (sch_yes hp)
  have Hp := Lib.hid hp
  unfold trim at H0
  rw [hn] at H0
  clear hp hn
  go_enter Try.func24, Try.ntmps24
  go_wp2_with fail
  refine (is (implIsPerm_any _ _ _ xs _ hr Hn.out (by omega)) Hp.out).mono ?_
  rintro e w1 ⟨rfl, hB1⟩
  have hr1 := hr.below hB1
  go_wp2_with fail
  refine (implSchub_any _ _ _ xs _ hr1 Hn.out h7 hc Hp.out).mono ?_
  rintro e w4 ⟨r4, rfl, hF4, hb4⟩
  have hB4 := hB1.trans (hb4.mono hB1.size)
  have HF4 := Lib.hid hF4
  clear hF4
  go_wp2_with fail
  refine (closed_any r4 _ _ HF4.out).mono ?_
  rintro e w9 ⟨a9, n9, c9, r9, rfl, ho9, hh9, hb9⟩
  have hB9 := hB4.trans (hb9.mono hB4.size)
  have Ho9 := Lib.hid (ho9.mono (B' := w.heap.size) (S' := w9.heap.size) hB4.size (Nat.le_refl _))
  clear ho9
  go_wp2
  go_ret2
  exact ⟨_, _, _, _, rfl, by rw [H0.out.1]; exact Ho9.out, by rw [H0.out.2]; exact hh9, hB9⟩
end Go.Proofs.Ytjljacmepidgcaa

namespace Go.Proofs.Ytjljacmepidgcaa
open Go.RowKit

set_option maxRecDepth 100000 in
set_option maxHeartbeats 3200000 in
theorem specPolyOk_any (a : Option Addr) (n c : Nat) (xs : List (List Int × Int)) (w : World) (hr : RP w a xs) (hn : xs.length = n) (hb : n ≤ 1048576) :
    Calls Try.prog 45 #[.slice a n c] w fun e w' => e = .returned (.bool (polyOk xs)) ∧ Below w.heap.size w w' := by
  have Hn := Lib.hid hn; clear hn
  by_cases h600 : n ≤ 600
  case neg =>
    have H0 := Lib.hid (polyOk_long (xs := xs) (by rw [Hn.out]; exact h600))
    go_enter Try.func45, Try.ntmps45
    go_wp2
    go_ret
    exact ⟨ret_bool H0.out.symm, Below.refl _ _⟩
  go_enter Try.func45, Try.ntmps45
  go_wp2
  go_loopw [3] (fun i wr => ∃ k : Nat, k ≤ n ∧ i = .int .i64 k ∧ Hid (∀ j, j < k → termAt xs j = true) ∧ Below w.heap.size w wr) (fun i _ => n - (intOf i).toNat)
  case atStart => exact ⟨0, Nat.zero_le _, rfl, by intro j hj; omega, Below.refl _ _⟩
  case round =>
    obtain ⟨k, hk, rfl, HA, hd⟩ := hrel
    obtain ⟨wo, rfl⟩ : ∃ wo : World, wo = wr := ⟨_, rfl⟩
    by_cases hlt : k < n
    · obtain ⟨b, off, rfl, hcell⟩ := (hr.below hd).at (k := k) (by rw [Hn.out]; exact hlt)
      obtain ⟨s, x, hx⟩ := part_at Hn.out hlt
      obtain ⟨a1, c1, hc1, hc2, hri, _⟩ := hcell k _ hx
      simp only at hc1 hc2 hri
      have hlast : k ≠ 0 → ∃ t d a2 c2, xs[k-1]? = some (t, d) ∧ wo.cell? ⟨b, off + (k-1) * 2, none⟩ = some (.slice a2 t.length c2) ∧ RI wo a2 t := by
        intro h0
        obtain ⟨t, d, ht⟩ := part_at (k := k - 1) Hn.out (by omega)
        obtain ⟨a2, c2, e1, e2, e3, _⟩ := hcell (k - 1) _ ht
        exact ⟨t, d, a2, c2, ht, e1, e3⟩
      clear hcell
      have Hx := Lib.hid hx; clear hx
      obtain ⟨l, hl⟩ : ∃ l, s.length = l := ⟨_, rfl⟩
      rw [hl] at hc1
      have Hl := Lib.hid hl; clear hl
      have q1 : (k : Int) < (n : Int) := by omega
      by_cases hl7 : l = 7
      case neg =>
        clear hlast
        have e0 : ((l : Int) != 7) = true := by rw [bne_iff_ne]; omega
        have H0 := Lib.hid (polyOk_false (k := k) (by rw [Hn.out]; exact hlt) (termAt_head Hx.out (by simp [headOk, Hl.out, hl7])))
        go_wp2
        go_ret
        exact ⟨ret_bool H0.out.symm, hd⟩
      subst hl7
      have e0 : (((7 : Nat) : Int) != 7) = false := by decide
      by_cases hc0 : x = 0
      case pos =>
        clear hlast
        have e1 : (x == 0) = true := by simp [hc0]
        have H0 := Lib.hid (polyOk_false (k := k) (by rw [Hn.out]; exact hlt) (termAt_head Hx.out (by simp [headOk, coefOk, hc0])))
        clear hc0
        go_wp2
        go_ret
        exact ⟨ret_bool H0.out.symm, hd⟩
      have e1 : (x == 0) = false := by simp [hc0]
      by_cases hlo : x < -1000000 ∨ 1000000 < x
      case pos =>
        clear hlast
        have H0 := Lib.hid (polyOk_false (k := k) (by rw [Hn.out]; exact hlt) (termAt_head Hx.out (by simp [headOk, coefOk]; omega)))
        go_wp2_with fail
        refine (l1In_no x (-1000000) 1000000 _ hlo).mono ?_
        rintro e w2 ⟨rfl, hd2⟩
        go_wp2
        go_ret
        exact ⟨ret_bool H0.out.symm, hd.trans (hd2.below _)⟩
      have Hhead := Lib.hid (show headOk (s, x) = true by simp [headOk, coefOk, Hl.out]; omega)
      have hin : -1000000 ≤ x ∧ x ≤ 1000000 := by omega
      clear hc0 hlo
      go_wp2_with fail
      refine (l1In_yes x (-1000000) 1000000 _ hin).mono ?_
      rintro e w2 ⟨rfl, hd2⟩
      go_wp2
      go_loopw [4] (fun iv wr => ∃ i : Nat, i ≤ 7 ∧ iv = .int .i64 i ∧ Hid (∀ j z, j < i → s[j]? = some z → small z = true) ∧ Drew wo wr) (fun iv _ => 7 - (intOf iv).toNat)
      case atStart => exact ⟨0, by omega, rfl, (fun j z hj => by omega), hd2⟩
      case round =>
        clear hd2
        obtain ⟨i, hi, rfl, HS, hd3⟩ := hrel
        obtain ⟨wq, rfl⟩ : ∃ wq : World, wq = wr := ⟨_, rfl⟩
        have hri := hri.drew hd3
        have hd := hd.trans (hd3.below w.heap.size)
        have hc1 : wq.cell? ⟨b, off + k * 2, none⟩ = some (.slice a1 7 c1) := by rw [hd3.cell]; exact hc1
        have hlast : k ≠ 0 → ∃ t d a2 c2, xs[k-1]? = some (t, d) ∧ wq.cell? ⟨b, off + (k-1) * 2, none⟩ = some (.slice a2 t.length c2) ∧ RI wq a2 t := by
          intro h0
          obtain ⟨t, d, a2, c2, e1, e2, e3⟩ := hlast h0
          exact ⟨t, d, a2, c2, e1, by rw [hd3.cell]; exact e2, e3.drew hd3⟩
        by_cases hi7 : i < 7
        · obtain ⟨bs, offs, rfl, hcs⟩ := hri.at (k := i) (by rw [Hl.out]; exact hi7)
          obtain ⟨z, hz⟩ := some_at Hl.out hi7
          have hcz := hcs i z hz
          have r1 : (i : Int) < 7 := by omega
          have HZ := Lib.hid hz
          clear hcs hz hlast
          by_cases hz1 : z < 0 ∨ 24 < z
          · have H0 := Lib.hid (polyOk_false (k := k) (by rw [Hn.out]; exact hlt) (termAt_exp Hx.out HZ.out (by simp [small]; omega)))
            go_wp2_with fail
            refine (l1In_no z 0 24 _ hz1).mono ?_
            rintro e w2 ⟨rfl, hd2⟩
            go_wp2
            go_ret
            exact ⟨ret_bool H0.out.symm, hd.trans (hd2.below _)⟩
          · have hz2 : 0 ≤ z ∧ z ≤ 24 := by omega
            have HS1 := Lib.hid (show ∀ j u, j < i + 1 → s[j]? = some u → small u = true from fun j u hj hu => by
              rcases Nat.lt_or_ge j i with h | h
              · exact HS.out j u h hu
              · obtain rfl : j = i := by omega
                rw [HZ.out] at hu
                obtain rfl := Option.some.inj hu
                simp [small]; omega)
            clear hz1
            go_wp2_with fail
            refine (l1In_yes z 0 24 _ hz2).mono ?_
            rintro e w2 ⟨rfl, hd2⟩
            have hd4 := hd3.trans hd2
            go_wp2
            go_roundw
            case rel => exact ⟨i + 1, by omega, by go_num, HS1.out, hd4⟩
            case measure => simp [intOf]; omega
        · obtain rfl : i = 7 := by omega
          have HSm := Lib.hid (all_small Hl.out HS.out)
          have hinf := small_digs HSm.out
          have Hsd := Lib.hid hinf
          clear hinf
          by_cases hk0 : k = 0
          · subst hk0
            have g0 : decide ((0 : Int) < 0) = false := by decide
            clear hlast
            go_wp2
            go_quiet (fail)
            go_wp2
            go_roundw
            case rel => exact ⟨1, by omega, rfl, termAt_next HA.out (termAt_first Hx.out Hhead.out HSm.out), hd.trans (Drew.below (Drew.drewN _ _) _)⟩
            case measure => simp [intOf]; omega
          · obtain ⟨t, d, a2, c2, ht, hc3, hri2⟩ := hlast hk0
            clear hlast
            obtain ⟨ht7, htd, _⟩ := termAt_ok ht (HA.out (k - 1) (by omega))
            have Ht := Lib.hid ht; clear ht
            rw [ht7] at hc3
            have Htd := Lib.hid htd
            have Ht7 := Lib.hid ht7
            clear ht7 htd
            have g0 : 0 < k := by omega
            have g1 : (0 : Int) ≤ (k : Int) - 1 := by omega
            have g2 : (k : Int) - 1 < (n : Int) := by omega
            have g3 : IntKind.i64.wrap ((k : Int) - 1) = (k : Int) - 1 := IntWalk.i64_in _ (by omega)
            have g4 : ((k : Int) - 1).toNat = k - 1 := by omega
            obtain ⟨ks, hks⟩ : ∃ o, keyL s = o := ⟨_, rfl⟩
            obtain ⟨kt, hkt⟩ : ∃ o, keyL t = o := ⟨_, rfl⟩
            have HKs := Lib.hid hks
            have HKt := Lib.hid hkt
            clear hks hkt
            by_cases hneg : ks < kt
            · have Hlt := Lib.hid (show keyL s < keyL t by rw [HKs.out, HKt.out]; exact hneg)
              have g5 : decide (kt ≤ ks) = false := by simp; omega
              clear hneg
              go_wp2
              refine wp_region_quiet_lit (by kernel_rfl) (by kernel_rfl) ?_
              repeat (go_big_quiet_step (fail))
              go_big_quiet_want
              go_big_quiet_op
              apply Exists.intro
              refine ⟨fun _ => ?_, ?_⟩
              · go_at_call 57
                exact quiet ((isInt (l2Key_any _ _ _ t _ (hri2.drew (Drew.drewN _ _)) Ht7.out (by omega) Htd.out) HKt.out).mono fun _ _ ⟨he, hw⟩ => ⟨he, hw ▸ Drew.refl _⟩)
              go_big_quiet_on
              repeat (go_big_quiet_step (fail))
              go_big_quiet_want
              go_big_quiet_op
              apply Exists.intro
              refine ⟨fun _ => ?_, ?_⟩
              · go_at_call 57
                exact quiet ((isInt (l2Key_any _ _ _ s _ (hri.drew (Drew.drewN _ _)) Hl.out (by omega) Hsd.out) HKs.out).mono fun _ _ ⟨he, hw⟩ => ⟨he, hw ▸ Drew.refl _⟩)
              go_big_quiet_on
              repeat (go_big_quiet_step (fail))
              refine wpQuiet_nil ?_
              intro _ hw'
              obtain ⟨nq, rfl⟩ := hw'
              clear g3 g4
              go_wp2
              go_roundw
              case rel => exact ⟨k + 1, by omega, by go_num, termAt_next HA.out (termAt_rest Hx.out Ht.out Hhead.out HSm.out Hlt.out), hd.trans (Drew.below (Drew.drewN _ _) _)⟩
              case measure => simp [intOf]; omega
            · have H0 := Lib.hid (polyOk_false (k := k) (by rw [Hn.out]; exact hlt) (termAt_rise Hx.out Ht.out hk0 (by rw [HKs.out, HKt.out]; exact hneg)))
              have g5 : decide (kt ≤ ks) = true := by simp; omega
              clear hneg
              go_wp2
              refine wp_region_quiet_lit (by kernel_rfl) (by kernel_rfl) ?_
              repeat (go_big_quiet_step (fail))
              go_big_quiet_want
              go_big_quiet_op
              apply Exists.intro
              refine ⟨fun _ => ?_, ?_⟩
              · go_at_call 57
                exact quiet ((isInt (l2Key_any _ _ _ t _ (hri2.drew (Drew.drewN _ _)) Ht7.out (by omega) Htd.out) HKt.out).mono fun _ _ ⟨he, hw⟩ => ⟨he, hw ▸ Drew.refl _⟩)
              go_big_quiet_on
              repeat (go_big_quiet_step (fail))
              go_big_quiet_want
              go_big_quiet_op
              apply Exists.intro
              refine ⟨fun _ => ?_, ?_⟩
              · go_at_call 57
                exact quiet ((isInt (l2Key_any _ _ _ s _ (hri.drew (Drew.drewN _ _)) Hl.out (by omega) Hsd.out) HKs.out).mono fun _ _ ⟨he, hw⟩ => ⟨he, hw ▸ Drew.refl _⟩)
              go_big_quiet_on
              repeat (go_big_quiet_step (fail))
              refine wpQuiet_nil ?_
              intro _ hw'
              obtain ⟨nq, rfl⟩ := hw'
              clear g3 g4
              go_wp2
              go_ret
              exact ⟨ret_bool H0.out.symm, hd.trans (Drew.below (Drew.drewN _ _) _)⟩
    · obtain rfl : k = n := by omega
      have H0 := Lib.hid (polyOk_true (by rw [Hn.out]; exact h600) (by rw [Hn.out]; exact HA.out))
      go_wp2
      go_ret
      exact ⟨ret_bool H0.out.symm, hd⟩
end Go.Proofs.Ytjljacmepidgcaa
