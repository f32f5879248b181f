/-
  Contracts of isDream and l3Crosses: whether cells are a dream.
-/
import Derived.Test.YtnjfbgdighaiiaaCells
namespace Go.Proofs.Ytnjfbgdighaiiaa
open Go.RowKit

theorem stair_bad {n : Int} {r c : Int} (h : ¬ (0 ≤ r ∧ r ≤ n - 2) ∨ ¬ (0 ≤ c ∧ c ≤ n - 2 - r)) : inStair n (r, c) = false := by
  unfold inStair
  rw [Bool.and_eq_false_iff]
  rcases h with h | h
  · exact .inl (decide_eq_false h)
  · exact .inr (decide_eq_false h)
theorem stair_ok {n : Int} {r c : Int} (h : 0 ≤ r ∧ r ≤ n - 2) (k : 0 ≤ c ∧ c ≤ n - 2 - r) : inStair n (r, c) = true := by
  unfold inStair
  rw [Bool.and_eq_true]
  exact ⟨decide_eq_true h, decide_eq_true k⟩
theorem stair_in {n : Int} {p : Int × Int} (hn : 1 ≤ n ∧ n ≤ 6) (h : inStair n p = true) : Low p.1 ∧ Low p.2 := by
  unfold inStair at h
  simp only [Bool.and_eq_true, decide_eq_true_eq] at h
  unfold Low
  omega
theorem dreamAt_stair {n : Int} {xs : List (Int × Int)} {k : Nat} {p : Int × Int} (h : xs[k]? = some p) (h1 : dreamAt n xs k = true) : inStair n p = true := by
  unfold dreamAt at h1
  rw [cellOf_at h, Bool.and_eq_true] at h1
  exact h1.1

set_option maxRecDepth 100000 in
set_option maxHeartbeats 3200000 in
theorem implDream_any (N : Int) (a : Option Addr) (n c : Nat) (xs : List (Int × Int)) (w : World) (hl : -9223372036854775808 ≤ N) (hu : N ≤ 9223372036854775807) (hr : RC w a xs) (hn : xs.length = n) (hb : n ≤ 1048576) :
    Calls Try.prog 94 #[.int .i64 N, .slice a n c] w fun e w' => e = .returned (.bool (isDream N xs)) ∧ Below w.heap.size w w' := by
  have Hn := Lib.hid hn; clear hn
  by_cases hN : 1 ≤ N ∧ N ≤ 6
  rotate_left
  · have Hres := Lib.hid (isDream_size (xs := xs) hN)
    by_cases hlow : N < 1
    · clear hN
      go_enter Try.func94, Try.ntmps94
      go_wp2
      go_ret
      exact ⟨ret_bool Hres.out.symm, Below.refl _ _⟩
    · have hhigh : 6 < N := by omega
      clear hN
      go_enter Try.func94, Try.ntmps94
      go_wp2
      go_ret
      exact ⟨ret_bool Hres.out.symm, Below.refl _ _⟩
  have HN := Lib.hid hN
  obtain ⟨hN1, hN2⟩ := hN
  have hB1 := Below.refl w.heap.size w
  go_enter Try.func94, Try.ntmps94
  go_wp2
  go_loopw [15] (fun i wr => ∃ k : Nat, k ≤ n ∧ i = .int .i64 k ∧ Hid (∀ j, j < k → dreamAt N xs j = true) ∧ Below w.heap.size w wr) (fun i _ => n - (intOf i).toNat)
  case atStart => exact ⟨0, Nat.zero_le _, rfl, by intro j hj; omega, hB1⟩
  case round =>
    clear hB1
    obtain ⟨k, hk, rfl, HA, hd⟩ := hrel
    obtain ⟨wo, rfl⟩ : ∃ wo : World, wo = wr := ⟨_, rfl⟩
    have hbs := hd.size
    by_cases hlt : k < n
    · obtain ⟨b, off, rfl, hcell⟩ := (hr.below hd).at (k := k) (by rw [Hn.out]; exact hlt)
      obtain ⟨r, c0, hx⟩ := pair_at Hn.out hlt
      obtain ⟨hc1, hc2⟩ := hcell k _ hx
      simp only at hc1 hc2
      have hlast : k ≠ 0 → ∃ r' c', xs[k-1]? = some (r', c') ∧ wo.cell? ⟨b, off + (k-1) * 2, none⟩ = some (.int .i64 r') ∧ wo.cell? ⟨b, off + (k-1) * 2 + 1, none⟩ = some (.int .i64 c') ∧ Low r' ∧ Low c' := by
        intro h0
        obtain ⟨r', c', ht⟩ := pair_at (k := k - 1) Hn.out (by omega)
        obtain ⟨e1, e2⟩ := hcell (k - 1) _ ht
        have := stair_in HN.out (dreamAt_stair ht (HA.out (k - 1) (by omega)))
        exact ⟨r', c', ht, e1, e2, this.1, this.2⟩
      clear hcell
      have Hx := Lib.hid hx; clear hx
      have q1 : (k : Int) < (n : Int) := by omega
      obtain ⟨W, hW⟩ : ∃ W, wo.alloc (.cells #[.int .i64 r, .int .i64 c0] 44) = W := ⟨_, rfl⟩
      have hBW : Below wo.heap.size wo W := by rw [← hW]; exact (Below.refl _ _).alloc (Nat.le_refl _) _
      have hdW := hd.trans (hBW.mono hbs)
      have hbW := hdW.size
      have g0 : W.heap[wo.heap.size]? = some (.cells #[.int .i64 r, .int .i64 c0] 44) := by rw [← hW]; exact heap_alloc_new wo _
      have p0 : W.cell? ⟨wo.heap.size, 0, none⟩ = some (.int .i64 r) := by rw [cell_of_row W _ 0 _ _ (0, 0) g0]; rfl
      have p1 : W.cell? ⟨wo.heap.size, 1, none⟩ = some (.int .i64 c0) := by rw [cell_of_row W _ 1 _ _ (0, 0) g0]; rfl
      have k0 := fun d os => cell_regrown p0 d os
      have k1 := fun d os => cell_regrown p1 d os
      clear g0
      by_cases h1 : r < 0
      · clear hlast
        go_wp2
        refine wp_region_quiet_below (by kernel_rfl) (by kernel_rfl) ?_
        repeat (go_big_quiet_step (fail))
        refine wpQuiet_nil ?_
        intro _ hw'
        obtain ⟨⟨dq, osq⟩, hw''⟩ := hw'
        subst hw''
        have hB2 := hdW.trans ((below_regrown W dq osq).mono hbW)
        go_wp2
        go_ret
        exact ⟨ret_bool (isDream_false (k := k) (by rw [Hn.out]; exact hlt) (dreamAt_out Hx.out (stair_bad (.inl (by omega))))).symm, hB2⟩
      have n1 : decide (r < 0) = false := by simp; omega
      by_cases h2 : N - 2 < r
      · clear hlast
        go_wp2
        refine wp_region_quiet_below (by kernel_rfl) (by kernel_rfl) ?_
        repeat (go_big_quiet_step (fail))
        refine wpQuiet_nil ?_
        intro _ hw'
        obtain ⟨⟨dq, osq⟩, hw''⟩ := hw'
        subst hw''
        have hB2 := hdW.trans ((below_regrown W dq osq).mono hbW)
        go_wp2
        go_ret
        exact ⟨ret_bool (isDream_false (k := k) (by rw [Hn.out]; exact hlt) (dreamAt_out Hx.out (stair_bad (.inl (by omega))))).symm, hB2⟩
      have n2 : decide (N - 2 < r) = false := by simp; omega
      by_cases h3 : c0 < 0
      · clear hlast
        go_wp2
        refine wp_region_quiet_below (by kernel_rfl) (by kernel_rfl) ?_
        repeat (go_big_quiet_step (fail))
        refine wpQuiet_nil ?_
        intro _ hw'
        obtain ⟨⟨dq, osq⟩, hw''⟩ := hw'
        subst hw''
        have hB2 := hdW.trans ((below_regrown W dq osq).mono hbW)
        go_wp2
        go_ret
        exact ⟨ret_bool (isDream_false (k := k) (by rw [Hn.out]; exact hlt) (dreamAt_out Hx.out (stair_bad (.inr (by omega))))).symm, hB2⟩
      have n3 : decide (c0 < 0) = false := by simp; omega
      by_cases h4 : N - 2 - r < c0
      · clear hlast
        go_wp2
        refine wp_region_quiet_below (by kernel_rfl) (by kernel_rfl) ?_
        repeat (go_big_quiet_step (fail))
        refine wpQuiet_nil ?_
        intro _ hw'
        obtain ⟨⟨dq, osq⟩, hw''⟩ := hw'
        subst hw''
        have hB2 := hdW.trans ((below_regrown W dq osq).mono hbW)
        go_wp2
        go_ret
        exact ⟨ret_bool (isDream_false (k := k) (by rw [Hn.out]; exact hlt) (dreamAt_out Hx.out (stair_bad (.inr (by omega))))).symm, hB2⟩
      have n4 : decide (N - 2 - r < c0) = false := by simp; omega
      obtain ⟨hr0, hr1⟩ : 0 ≤ r ∧ r ≤ N - 2 := by simp at n1 n2; omega
      obtain ⟨hcol0, hcol1⟩ : 0 ≤ c0 ∧ c0 ≤ N - 2 - r := by simp at n3 n4; omega
      have HS := Lib.hid (stair_ok ⟨hr0, hr1⟩ ⟨hcol0, hcol1⟩)
      by_cases hk0 : k = 0
      · clear hlast
        subst hk0
        simp only [Nat.zero_mul, Nat.add_zero] at hc1 hc2
        have g0 : decide ((0 : Int) < 0) = false := by decide
        go_wp2
        refine wp_region_quiet_below (by kernel_rfl) (by kernel_rfl) ?_
        repeat (go_big_quiet_step (fail))
        refine wpQuiet_nil ?_
        intro _ hw'
        obtain ⟨⟨dq, osq⟩, hw''⟩ := hw'
        subst hw''
        have hB2 := hdW.trans ((below_regrown W dq osq).mono hbW)
        go_wp2
        go_roundw
        case rel => exact ⟨1, by omega, rfl, dream_next HA.out (dreamAt_first Hx.out HS.out), hB2⟩
        case measure => simp [intOf]; omega
      · obtain ⟨r2, c2, ht, hc3, hc4, hl1, hl2⟩ := hlast hk0
        clear hlast
        have Ht := Lib.hid ht; clear ht
        have hc3 : W.cell? ⟨b, off + (k-1) * 2, none⟩ = some (.int .i64 r2) := by rw [hBW.cell (World.block_lt_of_cell? wo _ hc3)]; exact hc3
        have hc4 : W.cell? ⟨b, off + (k-1) * 2 + 1, none⟩ = some (.int .i64 c2) := by rw [hBW.cell (World.block_lt_of_cell? wo _ hc4)]; exact hc4
        have k2 := fun d os => cell_regrown hc3 d os
        have k3 := fun d os => cell_regrown hc4 d os
        have g0 : 0 < k := by omega
        have g1 : (0 : Int) ≤ (k : Int) - 1 := by omega
        have g2 : (k : Int) - 1 < (n : Int) := by omega
        cases hL : cellLess (r2, c2) (r, c0)
        · have HL := Lib.hid hL
          obtain ⟨oo, hoo⟩ : ∃ o, cellCmp (r2, c2) (r, c0) = o := ⟨_, rfl⟩
          have ho2 : decide (0 ≤ oo) = !(cellLess (r2, c2) (r, c0)) := by rw [← cellCmp_less, hoo]; by_cases h : oo < 0 <;> simp [h] <;> omega
          rw [hL] at ho2
          simp only [Bool.not_false] at ho2
          have cl : ∀ (d : Nat) (os : Array Obj), Calls Try.prog 98 #[.agg #[.int .i64 r2, .int .i64 c2], .agg #[.int .i64 r, .int .i64 c0]] (Go.Sort.grow (redrawn W d) os) fun e w'' => e = .returned (.int .i64 oo) ∧ ∃ p : Regrown, w'' = Go.Sort.grow (redrawn W p.d) p.os := fun d os => Calls.regrown_of (by rw [← hoo]; exact byCells_any r2 c2 r c0 _ hl1 hl2 (by unfold Low; omega) (by unfold Low; omega))
          have CL := Lib.hid cl; clear cl hL hoo
          have g3 : IntKind.i64.wrap ((k : Int) - 1) = (k : Int) - 1 := IntWalk.i64_in _ (by omega)
          have g4 : ((k : Int) - 1).toNat = k - 1 := by omega
          go_wp2
          refine wp_region_quiet_below (by kernel_rfl) (by kernel_rfl) ?_
          repeat (go_big_quiet_step (first | (go_at_call 98; exact CL.out _ _)))
          refine wpQuiet_nil ?_
          intro _ hw'
          obtain ⟨⟨dq, osq⟩, hw''⟩ := hw'
          subst hw''
          have hB2 := hdW.trans ((below_regrown W dq osq).mono hbW)
          clear g3 g4
          go_wp2
          go_ret
          exact ⟨ret_bool (isDream_false (k := k) (by rw [Hn.out]; exact hlt) (dreamAt_rise Hx.out Ht.out hk0 HL.out)).symm, hB2⟩
        · have HL := Lib.hid hL
          obtain ⟨oo, hoo⟩ : ∃ o, cellCmp (r2, c2) (r, c0) = o := ⟨_, rfl⟩
          have ho2 : decide (0 ≤ oo) = !(cellLess (r2, c2) (r, c0)) := by rw [← cellCmp_less, hoo]; by_cases h : oo < 0 <;> simp [h] <;> omega
          rw [hL] at ho2
          simp only [Bool.not_true] at ho2
          have cl : ∀ (d : Nat) (os : Array Obj), Calls Try.prog 98 #[.agg #[.int .i64 r2, .int .i64 c2], .agg #[.int .i64 r, .int .i64 c0]] (Go.Sort.grow (redrawn W d) os) fun e w'' => e = .returned (.int .i64 oo) ∧ ∃ p : Regrown, w'' = Go.Sort.grow (redrawn W p.d) p.os := fun d os => Calls.regrown_of (by rw [← hoo]; exact byCells_any r2 c2 r c0 _ hl1 hl2 (by unfold Low; omega) (by unfold Low; omega))
          have CL := Lib.hid cl; clear cl hL hoo
          have g3 : IntKind.i64.wrap ((k : Int) - 1) = (k : Int) - 1 := IntWalk.i64_in _ (by omega)
          have g4 : ((k : Int) - 1).toNat = k - 1 := by omega
          go_wp2
          refine wp_region_quiet_below (by kernel_rfl) (by kernel_rfl) ?_
          repeat (go_big_quiet_step (first | (go_at_call 98; exact CL.out _ _)))
          refine wpQuiet_nil ?_
          intro _ hw'
          obtain ⟨⟨dq, osq⟩, hw''⟩ := hw'
          subst hw''
          have hB2 := hdW.trans ((below_regrown W dq osq).mono hbW)
          clear g3 g4
          go_wp2
          go_roundw
          case rel => exact ⟨k + 1, by omega, by go_num, dream_next HA.out (dreamAt_next Hx.out Ht.out HS.out HL.out), hB2⟩
          case measure => simp [intOf]; omega
    · obtain rfl : k = n := by omega
      go_wp2
      go_ret
      exact ⟨ret_bool (isDream_true HN.out (by rw [Hn.out]; exact HA.out)).symm, hd⟩
end Go.Proofs.Ytnjfbgdighaiiaa
