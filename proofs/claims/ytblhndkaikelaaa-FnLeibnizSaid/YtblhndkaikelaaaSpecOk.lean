/-
  PolyOk of the reference.
-/
import Derived.Test.YtblhndkaikelaaaPolyOk
namespace Go.Proofs.Ytblhndkaikelaaa
open Go.RowKit

set_option maxRecDepth 100000 in
set_option maxHeartbeats 3200000 in
theorem specPolyOk_any (a : Option Addr) (n c : Nat) (xs : List (List Int × Int)) (w : World) (hr : RP w a xs) (hn : xs.length = n) (hb : n ≤ 1048576) :
    Calls Try.prog 35 #[.slice a n c] w fun e w' => e = .returned (.bool (polyOk xs)) ∧ Below w.heap.size w w' := by
  have Hn := Lib.hid hn; clear hn
  by_cases h600 : n ≤ 600
  case neg =>
    have H0 := Lib.hid (polyOk_long (xs := xs) (by rw [Hn.out]; exact h600))
    go_enter Try.func35, Try.ntmps35
    go_wp2
    go_ret
    exact ⟨ret_bool H0.out.symm, Below.refl _ _⟩
  go_enter Try.func35, Try.ntmps35
  go_wp2
  go_loopw [3] (fun i wr => ∃ k : Nat, k ≤ n ∧ i = .int .i64 k ∧ Hid (∀ j, j < k → termAt xs j = true) ∧ Below w.heap.size w wr) (fun i _ => n - (intOf i).toNat)
  case atStart => exact ⟨0, Nat.zero_le _, rfl, by intro j hj; omega, Below.refl _ _⟩
  case round =>
    obtain ⟨k, hk, rfl, HA, hd⟩ := hrel
    obtain ⟨wo, rfl⟩ : ∃ wo : World, wo = wr := ⟨_, rfl⟩
    by_cases hlt : k < n
    · obtain ⟨b, off, rfl, hcell⟩ := (hr.below hd).at (k := k) (by rw [Hn.out]; exact hlt)
      obtain ⟨s, x, hx⟩ := part_at Hn.out hlt
      obtain ⟨a1, c1, hc1, hc2, hri, _⟩ := hcell k _ hx
      simp only at hc1 hc2 hri
      have hlast : k ≠ 0 → ∃ t d a2 c2, xs[k-1]? = some (t, d) ∧ wo.cell? ⟨b, off + (k-1) * 2, none⟩ = some (.slice a2 t.length c2) ∧ RI wo a2 t := by
        intro h0
        obtain ⟨t, d, ht⟩ := part_at (k := k - 1) Hn.out (by omega)
        obtain ⟨a2, c2, e1, e2, e3, _⟩ := hcell (k - 1) _ ht
        exact ⟨t, d, a2, c2, ht, e1, e3⟩
      clear hcell
      have Hx := Lib.hid hx; clear hx
      obtain ⟨l, hl⟩ : ∃ l, s.length = l := ⟨_, rfl⟩
      rw [hl] at hc1
      have Hl := Lib.hid hl; clear hl
      have q1 : (k : Int) < (n : Int) := by omega
      by_cases hl7 : l = 7
      case neg =>
        clear hlast
        have e0 : ((l : Int) != 7) = true := by rw [bne_iff_ne]; omega
        have H0 := Lib.hid (polyOk_false (k := k) (by rw [Hn.out]; exact hlt) (termAt_head Hx.out (by simp [headOk, Hl.out, hl7])))
        go_wp2
        go_ret
        exact ⟨ret_bool H0.out.symm, hd⟩
      subst hl7
      have e0 : (((7 : Nat) : Int) != 7) = false := by decide
      by_cases hc0 : x = 0
      case pos =>
        clear hlast
        have e1 : (x == 0) = true := by simp [hc0]
        have H0 := Lib.hid (polyOk_false (k := k) (by rw [Hn.out]; exact hlt) (termAt_head Hx.out (by simp [headOk, coefOk, hc0])))
        clear hc0
        go_wp2
        go_ret
        exact ⟨ret_bool H0.out.symm, hd⟩
      have e1 : (x == 0) = false := by simp [hc0]
      by_cases hlo : x < -1000000 ∨ 1000000 < x
      case pos =>
        clear hlast
        have H0 := Lib.hid (polyOk_false (k := k) (by rw [Hn.out]; exact hlt) (termAt_head Hx.out (by simp [headOk, coefOk]; omega)))
        go_wp2_with fail
        refine (l1In_no x (-1000000) 1000000 _ hlo).mono ?_
        rintro e w2 ⟨rfl, hd2⟩
        go_wp2
        go_ret
        exact ⟨ret_bool H0.out.symm, hd.trans (hd2.below _)⟩
      have Hhead := Lib.hid (show headOk (s, x) = true by simp [headOk, coefOk, Hl.out]; omega)
      have hin : -1000000 ≤ x ∧ x ≤ 1000000 := by omega
      clear hc0 hlo
      go_wp2_with fail
      refine (l1In_yes x (-1000000) 1000000 _ hin).mono ?_
      rintro e w2 ⟨rfl, hd2⟩
      go_wp2
      go_loopw [4] (fun iv wr => ∃ i : Nat, i ≤ 7 ∧ iv = .int .i64 i ∧ Hid (∀ j z, j < i → s[j]? = some z → small z = true) ∧ Drew wo wr) (fun iv _ => 7 - (intOf iv).toNat)
      case atStart => exact ⟨0, by omega, rfl, (fun j z hj => by omega), hd2⟩
      case round =>
        clear hd2
        obtain ⟨i, hi, rfl, HS, hd3⟩ := hrel
        obtain ⟨wq, rfl⟩ : ∃ wq : World, wq = wr := ⟨_, rfl⟩
        have hri := hri.drew hd3
        have hd := hd.trans (hd3.below w.heap.size)
        have hc1 : wq.cell? ⟨b, off + k * 2, none⟩ = some (.slice a1 7 c1) := by rw [hd3.cell]; exact hc1
        have hlast : k ≠ 0 → ∃ t d a2 c2, xs[k-1]? = some (t, d) ∧ wq.cell? ⟨b, off + (k-1) * 2, none⟩ = some (.slice a2 t.length c2) ∧ RI wq a2 t := by
          intro h0
          obtain ⟨t, d, a2, c2, e1, e2, e3⟩ := hlast h0
          exact ⟨t, d, a2, c2, e1, by rw [hd3.cell]; exact e2, e3.drew hd3⟩
        by_cases hi7 : i < 7
        · obtain ⟨bs, offs, rfl, hcs⟩ := hri.at (k := i) (by rw [Hl.out]; exact hi7)
          obtain ⟨z, hz⟩ := some_at Hl.out hi7
          have hcz := hcs i z hz
          have r1 : (i : Int) < 7 := by omega
          have HZ := Lib.hid hz
          clear hcs hz hlast
          by_cases hz1 : z < 0 ∨ 24 < z
          · have H0 := Lib.hid (polyOk_false (k := k) (by rw [Hn.out]; exact hlt) (termAt_exp Hx.out HZ.out (by simp [small]; omega)))
            go_wp2_with fail
            refine (l1In_no z 0 24 _ hz1).mono ?_
            rintro e w2 ⟨rfl, hd2⟩
            go_wp2
            go_ret
            exact ⟨ret_bool H0.out.symm, hd.trans (hd2.below _)⟩
          · have hz2 : 0 ≤ z ∧ z ≤ 24 := by omega
            have HS1 := Lib.hid (show ∀ j u, j < i + 1 → s[j]? = some u → small u = true from fun j u hj hu => by
              rcases Nat.lt_or_ge j i with h | h
              · exact HS.out j u h hu
              · obtain rfl : j = i := by omega
                rw [HZ.out] at hu
                obtain rfl := Option.some.inj hu
                simp [small]; omega)
            clear hz1
            go_wp2_with fail
            refine (l1In_yes z 0 24 _ hz2).mono ?_
            rintro e w2 ⟨rfl, hd2⟩
            have hd4 := hd3.trans hd2
            go_wp2
            go_roundw
            case rel => exact ⟨i + 1, by omega, by go_num, HS1.out, hd4⟩
            case measure => simp [intOf]; omega
        · obtain rfl : i = 7 := by omega
          have HSm := Lib.hid (all_small Hl.out HS.out)
          have hinf := small_digs HSm.out
          have Hsd := Lib.hid hinf
          clear hinf
          by_cases hk0 : k = 0
          · subst hk0
            have g0 : decide ((0 : Int) < 0) = false := by decide
            clear hlast
            go_wp2
            go_quiet (fail)
            go_wp2
            go_roundw
            case rel => exact ⟨1, by omega, rfl, termAt_next HA.out (termAt_first Hx.out Hhead.out HSm.out), hd.trans (Drew.below (Drew.drewN _ _) _)⟩
            case measure => simp [intOf]; omega
          · obtain ⟨t, d, a2, c2, ht, hc3, hri2⟩ := hlast hk0
            clear hlast
            obtain ⟨ht7, htd, _⟩ := termAt_ok ht (HA.out (k - 1) (by omega))
            have Ht := Lib.hid ht; clear ht
            rw [ht7] at hc3
            have Htd := Lib.hid htd
            have Ht7 := Lib.hid ht7
            clear ht7 htd
            have g0 : 0 < k := by omega
            have g1 : (0 : Int) ≤ (k : Int) - 1 := by omega
            have g2 : (k : Int) - 1 < (n : Int) := by omega
            have g3 : IntKind.i64.wrap ((k : Int) - 1) = (k : Int) - 1 := IntWalk.i64_in _ (by omega)
            have g4 : ((k : Int) - 1).toNat = k - 1 := by omega
            obtain ⟨ks, hks⟩ : ∃ o, keyL s = o := ⟨_, rfl⟩
            obtain ⟨kt, hkt⟩ : ∃ o, keyL t = o := ⟨_, rfl⟩
            have HKs := Lib.hid hks
            have HKt := Lib.hid hkt
            clear hks hkt
            by_cases hneg : ks < kt
            · have Hlt := Lib.hid (show keyL s < keyL t by rw [HKs.out, HKt.out]; exact hneg)
              have g5 : decide (kt ≤ ks) = false := by simp; omega
              clear hneg
              go_wp2
              refine wp_region_quiet_lit (by kernel_rfl) (by kernel_rfl) ?_
              repeat (go_big_quiet_step (fail))
              go_big_quiet_want
              go_big_quiet_op
              apply Exists.intro
              refine ⟨fun _ => ?_, ?_⟩
              · go_at_call 60
                exact quiet ((isInt (l2Key_any _ _ _ t _ (hri2.drew (Drew.drewN _ _)) Ht7.out (by omega) Htd.out) HKt.out).mono fun _ _ ⟨he, hw⟩ => ⟨he, hw ▸ Drew.refl _⟩)
              go_big_quiet_on
              repeat (go_big_quiet_step (fail))
              go_big_quiet_want
              go_big_quiet_op
              apply Exists.intro
              refine ⟨fun _ => ?_, ?_⟩
              · go_at_call 60
                exact quiet ((isInt (l2Key_any _ _ _ s _ (hri.drew (Drew.drewN _ _)) Hl.out (by omega) Hsd.out) HKs.out).mono fun _ _ ⟨he, hw⟩ => ⟨he, hw ▸ Drew.refl _⟩)
              go_big_quiet_on
              repeat (go_big_quiet_step (fail))
              refine wpQuiet_nil ?_
              intro _ hw'
              obtain ⟨nq, rfl⟩ := hw'
              clear g3 g4
              go_wp2
              go_roundw
              case rel => exact ⟨k + 1, by omega, by go_num, termAt_next HA.out (termAt_rest Hx.out Ht.out Hhead.out HSm.out Hlt.out), hd.trans (Drew.below (Drew.drewN _ _) _)⟩
              case measure => simp [intOf]; omega
            · have H0 := Lib.hid (polyOk_false (k := k) (by rw [Hn.out]; exact hlt) (termAt_rise Hx.out Ht.out hk0 (by rw [HKs.out, HKt.out]; exact hneg)))
              have g5 : decide (kt ≤ ks) = true := by simp; omega
              clear hneg
              go_wp2
              refine wp_region_quiet_lit (by kernel_rfl) (by kernel_rfl) ?_
              repeat (go_big_quiet_step (fail))
              go_big_quiet_want
              go_big_quiet_op
              apply Exists.intro
              refine ⟨fun _ => ?_, ?_⟩
              · go_at_call 60
                exact quiet ((isInt (l2Key_any _ _ _ t _ (hri2.drew (Drew.drewN _ _)) Ht7.out (by omega) Htd.out) HKt.out).mono fun _ _ ⟨he, hw⟩ => ⟨he, hw ▸ Drew.refl _⟩)
              go_big_quiet_on
              repeat (go_big_quiet_step (fail))
              go_big_quiet_want
              go_big_quiet_op
              apply Exists.intro
              refine ⟨fun _ => ?_, ?_⟩
              · go_at_call 60
                exact quiet ((isInt (l2Key_any _ _ _ s _ (hri.drew (Drew.drewN _ _)) Hl.out (by omega) Hsd.out) HKs.out).mono fun _ _ ⟨he, hw⟩ => ⟨he, hw ▸ Drew.refl _⟩)
              go_big_quiet_on
              repeat (go_big_quiet_step (fail))
              refine wpQuiet_nil ?_
              intro _ hw'
              obtain ⟨nq, rfl⟩ := hw'
              clear g3 g4
              go_wp2
              go_ret
              exact ⟨ret_bool H0.out.symm, hd.trans (Drew.below (Drew.drewN _ _) _)⟩
    · obtain rfl : k = n := by omega
      have H0 := Lib.hid (polyOk_true (by rw [Hn.out]; exact h600) (by rw [Hn.out]; exact HA.out))
      go_wp2
      go_ret
      exact ⟨ret_bool H0.out.symm, hd⟩
end Go.Proofs.Ytblhndkaikelaaa
