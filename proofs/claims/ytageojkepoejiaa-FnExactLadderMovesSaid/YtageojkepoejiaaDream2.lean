/-
  Contract of l3Crosses: whether cells are a dream.
-/
import Derived.Test.YtageojkepoejiaaDream
namespace Go.Proofs.Ytageojkepoejiaa
open Go.RowKit

set_option maxRecDepth 100000 in
set_option maxHeartbeats 3200000 in
theorem specDream_any (N : Int) (a : Option Addr) (n c : Nat) (xs : List (Int × Int)) (w : World) (hl : -9223372036854775808 ≤ N) (hu : N ≤ 9223372036854775807) (hr : RC w a xs) (hn : xs.length = n) (hb : n ≤ 1048576) :
    Calls Try.prog 44 #[.int .i64 N, .slice a n c] w fun e w' => e = .returned (.bool (isDream N xs)) ∧ Below w.heap.size w w' := by
  have Hn := Lib.hid hn; clear hn
  by_cases hN : 1 ≤ N ∧ N ≤ 6
  rotate_left
  · have Hres := Lib.hid (isDream_size (xs := xs) hN)
    have hno : N < 1 ∨ 6 < N := by omega
    clear hN
    go_enter Try.func44, Try.ntmps44
    go_wp2_with fail
    refine (l1In_no _ _ _ _ hno).mono ?_
    rintro e w1 ⟨rfl, hd⟩
    go_wp2
    go_ret
    exact ⟨ret_bool Hres.out.symm, hd.below _⟩
  by_cases h15 : 15 < n
  · have Hres := Lib.hid (isDream_long (n := N) (xs := xs) (by rw [Hn.out]; exact h15))
    go_enter Try.func44, Try.ntmps44
    go_wp2_with fail
    refine (l1In_yes _ _ _ _ hN).mono ?_
    rintro e w1 ⟨rfl, hd⟩
    go_wp2
    go_ret
    exact ⟨ret_bool Hres.out.symm, hd.below _⟩
  have HN := Lib.hid hN
  go_enter Try.func44, Try.ntmps44
  go_wp2_with fail
  refine (l1In_yes _ _ _ _ hN).mono ?_
  rintro e w1 ⟨rfl, hd1⟩
  have hB1 := hd1.below w.heap.size
  obtain ⟨hN1, hN2⟩ := hN
  clear hd1
  go_wp2
  go_loopw [5] (fun i wr => ∃ k : Nat, k ≤ n ∧ i = .int .i64 k ∧ Hid (∀ j, j < k → dreamAt N xs j = true) ∧ Below w.heap.size w wr) (fun i _ => n - (intOf i).toNat)
  case atStart => exact ⟨0, Nat.zero_le _, rfl, by intro j hj; omega, hB1⟩
  case round =>
    clear hB1
    obtain ⟨k, hk, rfl, HA, hd⟩ := hrel
    obtain ⟨wo, rfl⟩ : ∃ wo : World, wo = wr := ⟨_, rfl⟩
    have hbs := hd.size
    by_cases hlt : k < n
    · obtain ⟨b, off, rfl, hcell⟩ := (hr.below hd).at (k := k) (by rw [Hn.out]; exact hlt)
      obtain ⟨r, c0, hx⟩ := pair_at Hn.out hlt
      obtain ⟨hc1, hc2⟩ := hcell k _ hx
      simp only at hc1 hc2
      have hlast : k ≠ 0 → ∃ r' c', xs[k-1]? = some (r', c') ∧ wo.cell? ⟨b, off + (k-1) * 2, none⟩ = some (.int .i64 r') ∧ wo.cell? ⟨b, off + (k-1) * 2 + 1, none⟩ = some (.int .i64 c') ∧ Low r' ∧ Low c' := by
        intro h0
        obtain ⟨r', c', ht⟩ := pair_at (k := k - 1) Hn.out (by omega)
        obtain ⟨e1, e2⟩ := hcell (k - 1) _ ht
        have := stair_in HN.out (dreamAt_stair ht (HA.out (k - 1) (by omega)))
        exact ⟨r', c', ht, e1, e2, this.1, this.2⟩
      clear hcell
      have Hx := Lib.hid hx; clear hx
      have q1 : (k : Int) < (n : Int) := by omega
      have hdW := hd
      have hbW := hbs
      obtain ⟨W, hW⟩ : ∃ W, wo = W := ⟨_, rfl⟩
      subst hW
      have k0 := fun d os => cell_regrown hc1 d os
      have k1 := fun d os => cell_regrown hc2 d os
      by_cases hrow : 0 ≤ r ∧ r ≤ N - 2
      rotate_left
      · clear hlast
        have c1 : ∀ (d : Nat) (os : Array Obj), Calls Try.prog 71 #[.int .i64 r, .int .i64 0, .int .i64 (N - 2)] (Go.Sort.grow (redrawn wo d) os) fun e w'' => e = .returned (.bool false) ∧ ∃ p : Regrown, w'' = Go.Sort.grow (redrawn wo p.d) p.os := fun d os => Calls.regrown_of ((l1In_no (r) (0) (N - 2) _ (by omega)).mono fun _ _ ⟨h1, h2⟩ => ⟨h1, h2.below _⟩)
        have C1 := Lib.hid c1; clear c1
        go_wp2
        refine wp_region_quiet_below (by kernel_rfl) (by kernel_rfl) ?_
        repeat (go_big_quiet_step (first | (go_at_call 71; with_reducible exact C1.out _ _)))
        refine wpQuiet_nil ?_
        intro _ hw'
        obtain ⟨⟨dq, osq⟩, hw''⟩ := hw'
        subst hw''
        have hB2 := hdW.trans ((below_regrown wo dq osq).mono hbW)
        go_wp2
        go_ret
        exact ⟨ret_bool (isDream_false (k := k) (by rw [Hn.out]; exact hlt) (dreamAt_out Hx.out (stair_bad (.inl hrow)))).symm, hB2⟩
      · obtain ⟨hr0, hr1⟩ := hrow
        have c1 : ∀ (d : Nat) (os : Array Obj), Calls Try.prog 71 #[.int .i64 r, .int .i64 0, .int .i64 (N - 2)] (Go.Sort.grow (redrawn wo d) os) fun e w'' => e = .returned (.bool true) ∧ ∃ p : Regrown, w'' = Go.Sort.grow (redrawn wo p.d) p.os := fun d os => Calls.regrown_of ((l1In_yes (r) (0) (N - 2) _ ⟨hr0, hr1⟩).mono fun _ _ ⟨h1, h2⟩ => ⟨h1, h2.below _⟩)
        have C1 := Lib.hid c1; clear c1
        by_cases hcol : 0 ≤ c0 ∧ c0 ≤ N - 2 - r
        rotate_left
        · clear hlast
          have c2 : ∀ (d : Nat) (os : Array Obj), Calls Try.prog 71 #[.int .i64 c0, .int .i64 0, .int .i64 (N - 2 - r)] (Go.Sort.grow (redrawn wo d) os) fun e w'' => e = .returned (.bool false) ∧ ∃ p : Regrown, w'' = Go.Sort.grow (redrawn wo p.d) p.os := fun d os => Calls.regrown_of ((l1In_no (c0) (0) (N - 2 - r) _ (by omega)).mono fun _ _ ⟨h1, h2⟩ => ⟨h1, h2.below _⟩)
          have C2 := Lib.hid c2; clear c2
          go_wp2
          refine wp_region_quiet_below (by kernel_rfl) (by kernel_rfl) ?_
          repeat (go_big_quiet_step (first | (go_at_call 71; with_reducible exact C1.out _ _) | (go_at_call 71; with_reducible exact C2.out _ _)))
          refine wpQuiet_nil ?_
          intro _ hw'
          obtain ⟨⟨dq, osq⟩, hw''⟩ := hw'
          subst hw''
          have hB2 := hdW.trans ((below_regrown wo dq osq).mono hbW)
          go_wp2
          go_ret
          exact ⟨ret_bool (isDream_false (k := k) (by rw [Hn.out]; exact hlt) (dreamAt_out Hx.out (stair_bad (.inr hcol)))).symm, hB2⟩
        · obtain ⟨hcol0, hcol1⟩ := hcol
          have c2 : ∀ (d : Nat) (os : Array Obj), Calls Try.prog 71 #[.int .i64 c0, .int .i64 0, .int .i64 (N - 2 - r)] (Go.Sort.grow (redrawn wo d) os) fun e w'' => e = .returned (.bool true) ∧ ∃ p : Regrown, w'' = Go.Sort.grow (redrawn wo p.d) p.os := fun d os => Calls.regrown_of ((l1In_yes (c0) (0) (N - 2 - r) _ ⟨hcol0, hcol1⟩).mono fun _ _ ⟨h1, h2⟩ => ⟨h1, h2.below _⟩)
          have C2 := Lib.hid c2; clear c2
          have HS := Lib.hid (stair_ok ⟨hr0, hr1⟩ ⟨hcol0, hcol1⟩)
          by_cases hk0 : k = 0
          · clear hlast
            subst hk0
            simp only [Nat.zero_mul, Nat.add_zero] at k0 k1
            have g0 : decide ((0 : Int) < 0) = false := by decide
            go_wp2
            refine wp_region_quiet_below (by kernel_rfl) (by kernel_rfl) ?_
            repeat (go_big_quiet_step (first | (go_at_call 71; with_reducible exact C1.out _ _) | (go_at_call 71; with_reducible exact C2.out _ _)))
            refine wpQuiet_nil ?_
            intro _ hw'
            obtain ⟨⟨dq, osq⟩, hw''⟩ := hw'
            subst hw''
            have hB2 := hdW.trans ((below_regrown wo dq osq).mono hbW)
            go_wp2
            go_roundw
            case rel => exact ⟨1, by omega, rfl, dream_next HA.out (dreamAt_first Hx.out HS.out), hB2⟩
            case measure => simp [intOf]; omega
          · obtain ⟨r2, c2, ht, hc3, hc4, hl1, hl2⟩ := hlast hk0
            clear hlast
            have Ht := Lib.hid ht; clear ht
            have k2 := fun d os => cell_regrown hc3 d os
            have k3 := fun d os => cell_regrown hc4 d os
            have g0 : 0 < k := by omega
            have g1 : (0 : Int) ≤ (k : Int) - 1 := by omega
            have g2 : (k : Int) - 1 < (n : Int) := by omega
            cases hL : cellLess (r2, c2) (r, c0)
            · have HL := Lib.hid hL
              have cl : ∀ (d : Nat) (os : Array Obj), Calls Try.prog 90 #[.agg #[.int .i64 r2, .int .i64 c2], .agg #[.int .i64 r, .int .i64 c0]] (Go.Sort.grow (redrawn wo d) os) fun e w'' => e = .returned (.bool false) ∧ ∃ p : Regrown, w'' = Go.Sort.grow (redrawn wo p.d) p.os := fun d os => Calls.regrown_of (by rw [← hL]; exact l3Less_any r2 c2 r c0 _)
              have CL := Lib.hid cl; clear cl hL
              have g3 : IntKind.i64.wrap ((k : Int) - 1) = (k : Int) - 1 := IntWalk.i64_in _ (by omega)
              have g4 : ((k : Int) - 1).toNat = k - 1 := by omega
              go_wp2
              refine wp_region_quiet_below (by kernel_rfl) (by kernel_rfl) ?_
              repeat (go_big_quiet_step (first | (go_at_call 71; with_reducible exact C1.out _ _) | (go_at_call 71; with_reducible exact C2.out _ _) | (go_at_call 90; exact CL.out _ _)))
              refine wpQuiet_nil ?_
              intro _ hw'
              obtain ⟨⟨dq, osq⟩, hw''⟩ := hw'
              subst hw''
              have hB2 := hdW.trans ((below_regrown wo dq osq).mono hbW)
              clear g3 g4
              go_wp2
              go_ret
              exact ⟨ret_bool (isDream_false (k := k) (by rw [Hn.out]; exact hlt) (dreamAt_rise Hx.out Ht.out hk0 HL.out)).symm, hB2⟩
            · have HL := Lib.hid hL
              have cl : ∀ (d : Nat) (os : Array Obj), Calls Try.prog 90 #[.agg #[.int .i64 r2, .int .i64 c2], .agg #[.int .i64 r, .int .i64 c0]] (Go.Sort.grow (redrawn wo d) os) fun e w'' => e = .returned (.bool true) ∧ ∃ p : Regrown, w'' = Go.Sort.grow (redrawn wo p.d) p.os := fun d os => Calls.regrown_of (by rw [← hL]; exact l3Less_any r2 c2 r c0 _)
              have CL := Lib.hid cl; clear cl hL
              have g3 : IntKind.i64.wrap ((k : Int) - 1) = (k : Int) - 1 := IntWalk.i64_in _ (by omega)
              have g4 : ((k : Int) - 1).toNat = k - 1 := by omega
              go_wp2
              refine wp_region_quiet_below (by kernel_rfl) (by kernel_rfl) ?_
              repeat (go_big_quiet_step (first | (go_at_call 71; with_reducible exact C1.out _ _) | (go_at_call 71; with_reducible exact C2.out _ _) | (go_at_call 90; exact CL.out _ _)))
              refine wpQuiet_nil ?_
              intro _ hw'
              obtain ⟨⟨dq, osq⟩, hw''⟩ := hw'
              subst hw''
              have hB2 := hdW.trans ((below_regrown wo dq osq).mono hbW)
              clear g3 g4
              go_wp2
              go_roundw
              case rel => exact ⟨k + 1, by omega, by go_num, dream_next HA.out (dreamAt_next Hx.out Ht.out HS.out HL.out), hB2⟩
              case measure => simp [intOf]; omega
    · obtain rfl : k = n := by omega
      go_wp2
      go_ret
      exact ⟨ret_bool (isDream_true HN.out (by rw [Hn.out]; exact HA.out)).symm, hd⟩
end Go.Proofs.Ytageojkepoejiaa
