/-
  Contract of ClassesOk, the program's.
-/
import Derived.Test.YtnjfbgdighaiiaaClassesOk
namespace Go.Proofs.Ytnjfbgdighaiiaa
open Go.RowKit

set_option maxRecDepth 100000 in
set_option maxHeartbeats 3200000 in
theorem implClassesOk_any (a : Option Addr) (n c : Nat) (xs : List (List Int × Int)) (w : World) (hr : RP w a xs) (hn : xs.length = n) (hb : n ≤ 1048576) (hsh : Short_P xs) :
    Calls Try.prog 25 #[.slice a n c] w fun e w' => e = .returned (.bool (classesOk xs)) ∧ Below w.heap.size w w' := by
  have Hn := Lib.hid hn; clear hn
  have HSh := Lib.hid hsh; clear hsh
  by_cases hlong : 100 < n
  · have Hres := Lib.hid (classesOk_long (xs := xs) (by rw [Hn.out]; exact hlong))
    go_enter Try.func25, Try.ntmps25
    go_wp2
    go_ret
    exact ⟨ret_bool Hres.out.symm, Below.refl _ _⟩
  go_enter Try.func25, Try.ntmps25
  go_wp2
  go_loopw [10] (fun i wr => ∃ k : Nat, k ≤ n ∧ i = .int .i64 k ∧ Hid (∀ j, j < k → classAt xs j = true) ∧ Below w.heap.size w wr) (fun i _ => n - (intOf i).toNat)
  case atStart => exact ⟨0, Nat.zero_le _, rfl, by intro j hj; omega, Below.refl _ _⟩
  case round =>
    obtain ⟨k, hk, rfl, HA, hd⟩ := hrel
    by_cases hlt : k < n
    · obtain ⟨b, off, rfl, hcell⟩ := (hr.below hd).at (k := k) (by rw [Hn.out]; exact hlt)
      obtain ⟨s, x, hx⟩ := part_at Hn.out hlt
      obtain ⟨a1, c1, hc1, hc2, hri, hlc⟩ := hcell k _ hx
      have hsl : s.length ≤ 1048576 := HSh.out (s, x) (List.mem_of_getElem? hx)
      simp only at hc1 hc2 hri hlc
      have hlast : k ≠ 0 → ∃ t d a2 c2, xs[k-1]? = some (t, d) ∧ wr.cell? ⟨b, off + (k-1) * 2, none⟩ = some (.slice a2 t.length c2) ∧ RI wr a2 t ∧ t.length ≤ 1048576 := by
        intro h0
        obtain ⟨t, d, ht⟩ := part_at (k := k - 1) Hn.out (by omega)
        obtain ⟨a2, c2, e1, e2, e3, _⟩ := hcell (k - 1) _ ht
        exact ⟨t, d, a2, c2, ht, e1, e3, HSh.out (t, d) (List.mem_of_getElem? ht)⟩
      clear hcell
      have Hx := Lib.hid hx; clear hx
      obtain ⟨l, hl⟩ : ∃ l, s.length = l := ⟨_, rfl⟩
      rw [hl] at hc1 hsl hlc
      have Hl := Lib.hid hl; clear hl
      obtain ⟨m, hm⟩ : ∃ m, trimLen s l = m := ⟨_, rfl⟩
      have HM := Lib.hid hm; clear hm
      have q1 : (k : Int) < (n : Int) := by omega
      obtain ⟨W, hW⟩ : ∃ W, wr.alloc (.cells #[.slice a1 l c1, .int .i64 x] 75) = W := ⟨_, rfl⟩
      have hBW : Below wr.heap.size wr W := by rw [← hW]; exact (Below.refl _ _).alloc (Nat.le_refl _) _
      have hdW := hd.trans (hBW.mono hd.size)
      have g0 : W.heap[wr.heap.size]? = some (.cells #[.slice a1 l c1, .int .i64 x] 75) := by rw [← hW]; exact heap_alloc_new wr _
      have p0 : W.cell? ⟨wr.heap.size, 0, none⟩ = some (.slice a1 l c1) := by rw [cell_of_row W _ 0 _ _ (0, 0) g0]; rfl
      have p1 : W.cell? ⟨wr.heap.size, 1, none⟩ = some (.int .i64 x) := by rw [cell_of_row W _ 1 _ _ (0, 0) g0]; rfl
      have hriW := hri.below hBW
      clear g0
      have hbW := hdW.size
      have k0 := fun d os => cell_regrown p0 d os
      have k1 := fun d os => cell_regrown p1 d os
      have bW := fun d os => below_regrown W d os
      cases hp : isPerm s
      · have HP := Lib.hid hp; clear hp hlast
        have cp : ∀ (d : Nat) (os : Array Obj), Calls Try.prog 68 #[.slice a1 l c1] (Go.Sort.grow (redrawn W d) os) fun e w'' => e = .returned (.bool false) ∧ ∃ p : Regrown, w'' = Go.Sort.grow (redrawn W p.d) p.os := fun d os => Calls.regrown_of ((is (implIsPerm_any _ _ _ s _ (hriW.below (bW d os)) Hl.out (by omega)) HP.out))
        have CP := Lib.hid cp; clear cp
        go_wp2
        refine wp_region_quiet_below (by kernel_rfl) (by kernel_rfl) ?_
        repeat (go_big_quiet_step (first | (go_at_call 68; exact CP.out _ _)))
        refine wpQuiet_nil ?_
        intro _ hw'
        obtain ⟨⟨dq, osq⟩, hw''⟩ := hw'
        subst hw''
        have hB2 := hdW.trans ((below_regrown W dq osq).mono hbW)
        go_wp2
        go_ret
        exact ⟨ret_bool (classesOk_false (k := k) (by rw [Hn.out]; exact hlt) (classAt_bad Hx.out (class_perm HP.out))).symm, hB2⟩
      · have HP := Lib.hid hp; clear hp
        have cp : ∀ (d : Nat) (os : Array Obj), Calls Try.prog 68 #[.slice a1 l c1] (Go.Sort.grow (redrawn W d) os) fun e w'' => e = .returned (.bool true) ∧ ∃ p : Regrown, w'' = Go.Sort.grow (redrawn W p.d) p.os := fun d os => Calls.regrown_of ((is (implIsPerm_any _ _ _ s _ (hriW.below (bW d os)) Hl.out (by omega)) HP.out))
        have CP := Lib.hid cp; clear cp
        have ct : ∀ (d : Nat) (os : Array Obj), Calls Try.prog 75 #[.slice a1 l c1] (Go.Sort.grow (redrawn W d) os) fun e w'' => ∃ v, e = .returned v ∧ (∃ p : Regrown, w'' = Go.Sort.grow (redrawn W p.d) p.os) ∧ ∃ a3 c3, v = .slice a3 m c3 := fun d os => (implTrim_len _ _ _ s _ (hriW.below (bW d os)) Hl.out (by omega) hlc HP.out HM.out).mono fun _ _ ⟨a3, c3, h1, h2⟩ => ⟨_, h1, regrown_of_below ((bW d os).trans (h2.mono (bW d os).size)), a3, c3, rfl⟩
        have CT := Lib.hid ct; clear ct
        by_cases hml : m = l
        rotate_left
        · clear hlast
          have e1 : ((m : Int) != (l : Int)) = true := by simp; omega
          have Hml := Lib.hid hml; clear hml
          go_wp2
          refine wp_region_sole_at (C := fun w' => ∃ p : Regrown, w' = Go.Sort.grow (redrawn W p.d) p.os) 7 3 33 (by kernel_rfl) (by kernel_rfl) (by kernel_rfl) rfl ⟨⟨World.drawn W + 1, #[]⟩, by rw [Go.Sort.grow_empty]; rfl⟩ ?_
          simp only [List.take_succ_cons, List.take_zero, List.drop_succ_cons, List.drop_zero, List.cons_append, List.nil_append]
          repeat (go_big_quiet_step (first | (go_at_call 68; exact CP.out _ _)))
          refine wpQuiet_nil ?_
          refine soleStep_call 75 #[.slice a1 l c1] (by rfl) (fun w' => by kernel_rfl) ?_
          intro w' hw'
          obtain ⟨⟨dt, ot⟩, rfl⟩ := hw'
          refine (CT.out dt ot).mono ?_
          rintro e w2 ⟨v, he, hcw, a3, c3, rfl⟩
          refine ⟨_, he, hcw, ?_⟩
          clear hcw
          go_frame
          repeat (go_big_quiet_step (first | fail))
          refine wpQuiet_nil ?_
          intro _ hw'
          obtain ⟨⟨dq, osq⟩, hw''⟩ := hw'
          subst hw''
          have hB2 := hdW.trans ((below_regrown W dq osq).mono hbW)
          go_wp2
          go_ret
          exact ⟨ret_bool (classesOk_false (k := k) (by rw [Hn.out]; exact hlt) (classAt_bad Hx.out (class_trim Hl.out HM.out Hml.out))).symm, hB2⟩
        · have e1 : ((m : Int) != (l : Int)) = false := by simp; omega
          have Hml := Lib.hid hml; clear hml
          by_cases h0 : x = 0
          · clear hlast
            have e0 : (x == 0) = true := by simp [h0]
            have H0 := Lib.hid h0; clear h0
            go_wp2
            refine wp_region_sole_at (C := fun w' => ∃ p : Regrown, w' = Go.Sort.grow (redrawn W p.d) p.os) 7 3 33 (by kernel_rfl) (by kernel_rfl) (by kernel_rfl) rfl ⟨⟨World.drawn W + 1, #[]⟩, by rw [Go.Sort.grow_empty]; rfl⟩ ?_
            simp only [List.take_succ_cons, List.take_zero, List.drop_succ_cons, List.drop_zero, List.cons_append, List.nil_append]
            repeat (go_big_quiet_step (first | (go_at_call 68; exact CP.out _ _)))
            refine wpQuiet_nil ?_
            refine soleStep_call 75 #[.slice a1 l c1] (by rfl) (fun w' => by kernel_rfl) ?_
            intro w' hw'
            obtain ⟨⟨dt, ot⟩, rfl⟩ := hw'
            refine (CT.out dt ot).mono ?_
            rintro e w2 ⟨v, he, hcw, a3, c3, rfl⟩
            refine ⟨_, he, hcw, ?_⟩
            clear hcw
            go_frame
            repeat (go_big_quiet_step (first | fail))
            refine wpQuiet_nil ?_
            intro _ hw'
            obtain ⟨⟨dq, osq⟩, hw''⟩ := hw'
            subst hw''
            have hB2 := hdW.trans ((below_regrown W dq osq).mono hbW)
            go_wp2
            go_ret
            exact ⟨ret_bool (classesOk_false (k := k) (by rw [Hn.out]; exact hlt) (classAt_bad Hx.out (class_zero H0.out))).symm, hB2⟩
          · have e0 : (x == 0) = false := by simp [h0]
            have H0 := Lib.hid h0; clear h0
            by_cases hlow : x < -1000000
            · clear hlast
              go_wp2
              refine wp_region_sole_at (C := fun w' => ∃ p : Regrown, w' = Go.Sort.grow (redrawn W p.d) p.os) 7 3 33 (by kernel_rfl) (by kernel_rfl) (by kernel_rfl) rfl ⟨⟨World.drawn W + 1, #[]⟩, by rw [Go.Sort.grow_empty]; rfl⟩ ?_
              simp only [List.take_succ_cons, List.take_zero, List.drop_succ_cons, List.drop_zero, List.cons_append, List.nil_append]
              repeat (go_big_quiet_step (first | (go_at_call 68; exact CP.out _ _)))
              refine wpQuiet_nil ?_
              refine soleStep_call 75 #[.slice a1 l c1] (by rfl) (fun w' => by kernel_rfl) ?_
              intro w' hw'
              obtain ⟨⟨dt, ot⟩, rfl⟩ := hw'
              refine (CT.out dt ot).mono ?_
              rintro e w2 ⟨v, he, hcw, a3, c3, rfl⟩
              refine ⟨_, he, hcw, ?_⟩
              clear hcw
              go_frame
              repeat (go_big_quiet_step (first | fail))
              refine wpQuiet_nil ?_
              intro _ hw'
              obtain ⟨⟨dq, osq⟩, hw''⟩ := hw'
              subst hw''
              have hB2 := hdW.trans ((below_regrown W dq osq).mono hbW)
              go_wp2
              go_ret
              exact ⟨ret_bool (classesOk_false (k := k) (by rw [Hn.out]; exact hlt) (classAt_bad Hx.out (class_range (by omega)))).symm, hB2⟩
            have n1 : decide (x < -1000000) = false := by simp; omega
            by_cases hhigh : 1000000 < x
            · clear hlast
              go_wp2
              refine wp_region_sole_at (C := fun w' => ∃ p : Regrown, w' = Go.Sort.grow (redrawn W p.d) p.os) 7 3 33 (by kernel_rfl) (by kernel_rfl) (by kernel_rfl) rfl ⟨⟨World.drawn W + 1, #[]⟩, by rw [Go.Sort.grow_empty]; rfl⟩ ?_
              simp only [List.take_succ_cons, List.take_zero, List.drop_succ_cons, List.drop_zero, List.cons_append, List.nil_append]
              repeat (go_big_quiet_step (first | (go_at_call 68; exact CP.out _ _)))
              refine wpQuiet_nil ?_
              refine soleStep_call 75 #[.slice a1 l c1] (by rfl) (fun w' => by kernel_rfl) ?_
              intro w' hw'
              obtain ⟨⟨dt, ot⟩, rfl⟩ := hw'
              refine (CT.out dt ot).mono ?_
              rintro e w2 ⟨v, he, hcw, a3, c3, rfl⟩
              refine ⟨_, he, hcw, ?_⟩
              clear hcw
              go_frame
              repeat (go_big_quiet_step (first | fail))
              refine wpQuiet_nil ?_
              intro _ hw'
              obtain ⟨⟨dq, osq⟩, hw''⟩ := hw'
              subst hw''
              have hB2 := hdW.trans ((below_regrown W dq osq).mono hbW)
              go_wp2
              go_ret
              exact ⟨ret_bool (classesOk_false (k := k) (by rw [Hn.out]; exact hlt) (classAt_bad Hx.out (class_range (by omega)))).symm, hB2⟩
            · have Hin := Lib.hid (show -1000000 ≤ x ∧ x ≤ 1000000 by omega)
              have n2 : decide (1000000 < x) = false := by simp; omega
              have HC := Lib.hid (class_yes Hl.out HM.out HP.out Hml.out H0.out Hin.out)
              by_cases hk0 : k = 0
              · clear hlast
                subst hk0
                simp only [Nat.zero_mul, Nat.add_zero] at hc1 hc2
                have g0 : decide ((0 : Int) < 0) = false := by decide
                go_wp2
                refine wp_region_sole_at (C := fun w' => ∃ p : Regrown, w' = Go.Sort.grow (redrawn W p.d) p.os) 7 3 33 (by kernel_rfl) (by kernel_rfl) (by kernel_rfl) rfl ⟨⟨World.drawn W + 1, #[]⟩, by rw [Go.Sort.grow_empty]; rfl⟩ ?_
                simp only [List.take_succ_cons, List.take_zero, List.drop_succ_cons, List.drop_zero, List.cons_append, List.nil_append]
                repeat (go_big_quiet_step (first | (go_at_call 68; exact CP.out _ _)))
                refine wpQuiet_nil ?_
                refine soleStep_call 75 #[.slice a1 l c1] (by rfl) (fun w' => by kernel_rfl) ?_
                intro w' hw'
                obtain ⟨⟨dt, ot⟩, rfl⟩ := hw'
                refine (CT.out dt ot).mono ?_
                rintro e w2 ⟨v, he, hcw, a3, c3, rfl⟩
                refine ⟨_, he, hcw, ?_⟩
                clear hcw
                go_frame
                repeat (go_big_quiet_step (first | fail))
                refine wpQuiet_nil ?_
                intro _ hw'
                obtain ⟨⟨dq, osq⟩, hw''⟩ := hw'
                subst hw''
                have hB2 := hdW.trans ((below_regrown W dq osq).mono hbW)
                go_wp2
                go_roundw
                case rel => exact ⟨1, by omega, rfl, classesOk_next HA.out (classAt_first Hx.out HC.out), hB2⟩
                case measure => simp [intOf]; omega
              · obtain ⟨t, d, a2, c2, ht, hc3, hri2, htl⟩ := hlast hk0
                clear hlast
                have Ht := Lib.hid ht; clear ht
                obtain ⟨l2, hl2⟩ : ∃ l, t.length = l := ⟨_, rfl⟩
                rw [hl2] at hc3 htl
                have Hl2 := Lib.hid hl2; clear hl2
                have hri2 := hri2.below hBW
                have hc3 : W.cell? ⟨b, off + (k-1) * 2, none⟩ = some (.slice a2 l2 c2) := by rw [hBW.cell (World.block_lt_of_cell? wr _ hc3)]; exact hc3
                have k2 := fun d os => cell_regrown hc3 d os
                have g0 : 0 < k := by omega
                have g1 : (0 : Int) ≤ (k : Int) - 1 := by omega
                have g2 : (k : Int) - 1 < (n : Int) := by omega
                cases hL : less t s
                · have HL := Lib.hid hL; clear hL
                  obtain ⟨o, ho⟩ : ∃ o, order t s = o := ⟨_, rfl⟩
                  have HO := Lib.hid ho
                  have ho2 : decide (0 ≤ o) = !(less t s) := by rw [less_order, ho]; by_cases h : o < 0 <;> simp [h] <;> omega
                  rw [HL.out] at ho2
                  simp only [Bool.not_false] at ho2
                  clear ho
                  have cl : ∀ (d : Nat) (os : Array Obj), Calls Try.prog 76 #[.slice a2 l2 c2, .slice a1 l c1] (Go.Sort.grow (redrawn W d) os) fun e w'' => e = .returned (.int .i64 o) ∧ ∃ p : Regrown, w'' = Go.Sort.grow (redrawn W p.d) p.os := fun d os => Calls.regrown_of ((isInt (compare_any _ _ _ _ _ _ t s _ (hri2.below (bW d os)) (hriW.below (bW d os)) Hl2.out Hl.out (by omega) (by omega)) HO.out).mono fun _ _ ⟨h1, h2⟩ => ⟨h1, by rw [← h2]; exact Below.refl _ _⟩)
                  have CL := Lib.hid cl; clear cl
                  have g3 : IntKind.i64.wrap ((k : Int) - 1) = (k : Int) - 1 := IntWalk.i64_in _ (by omega)
                  have g4 : ((k : Int) - 1).toNat = k - 1 := by omega
                  go_wp2
                  refine wp_region_sole_at (C := fun w' => ∃ p : Regrown, w' = Go.Sort.grow (redrawn W p.d) p.os) 7 3 33 (by kernel_rfl) (by kernel_rfl) (by kernel_rfl) rfl ⟨⟨World.drawn W + 1, #[]⟩, by rw [Go.Sort.grow_empty]; rfl⟩ ?_
                  simp only [List.take_succ_cons, List.take_zero, List.drop_succ_cons, List.drop_zero, List.cons_append, List.nil_append]
                  repeat (go_big_quiet_step (first | (go_at_call 68; exact CP.out _ _)))
                  refine wpQuiet_nil ?_
                  refine soleStep_call 75 #[.slice a1 l c1] (by rfl) (fun w' => by kernel_rfl) ?_
                  intro w' hw'
                  obtain ⟨⟨dt, ot⟩, rfl⟩ := hw'
                  refine (CT.out dt ot).mono ?_
                  rintro e w2 ⟨v, he, hcw, a3, c3, rfl⟩
                  refine ⟨_, he, hcw, ?_⟩
                  clear hcw
                  go_frame
                  repeat (go_big_quiet_step (first | fail | (go_at_call 76; exact CL.out _ _)))
                  refine wpQuiet_nil ?_
                  intro _ hw'
                  obtain ⟨⟨dq, osq⟩, hw''⟩ := hw'
                  subst hw''
                  have hB2 := hdW.trans ((below_regrown W dq osq).mono hbW)
                  clear g3 g4
                  go_wp2
                  go_ret
                  exact ⟨ret_bool (classesOk_false (k := k) (by rw [Hn.out]; exact hlt) (classAt_rise Hx.out Ht.out hk0 HL.out)).symm, hB2⟩
                · have HL := Lib.hid hL; clear hL
                  obtain ⟨o, ho⟩ : ∃ o, order t s = o := ⟨_, rfl⟩
                  have HO := Lib.hid ho
                  have ho2 : decide (0 ≤ o) = !(less t s) := by rw [less_order, ho]; by_cases h : o < 0 <;> simp [h] <;> omega
                  rw [HL.out] at ho2
                  simp only [Bool.not_true] at ho2
                  clear ho
                  have cl : ∀ (d : Nat) (os : Array Obj), Calls Try.prog 76 #[.slice a2 l2 c2, .slice a1 l c1] (Go.Sort.grow (redrawn W d) os) fun e w'' => e = .returned (.int .i64 o) ∧ ∃ p : Regrown, w'' = Go.Sort.grow (redrawn W p.d) p.os := fun d os => Calls.regrown_of ((isInt (compare_any _ _ _ _ _ _ t s _ (hri2.below (bW d os)) (hriW.below (bW d os)) Hl2.out Hl.out (by omega) (by omega)) HO.out).mono fun _ _ ⟨h1, h2⟩ => ⟨h1, by rw [← h2]; exact Below.refl _ _⟩)
                  have CL := Lib.hid cl; clear cl
                  have g3 : IntKind.i64.wrap ((k : Int) - 1) = (k : Int) - 1 := IntWalk.i64_in _ (by omega)
                  have g4 : ((k : Int) - 1).toNat = k - 1 := by omega
                  go_wp2
                  refine wp_region_sole_at (C := fun w' => ∃ p : Regrown, w' = Go.Sort.grow (redrawn W p.d) p.os) 7 3 33 (by kernel_rfl) (by kernel_rfl) (by kernel_rfl) rfl ⟨⟨World.drawn W + 1, #[]⟩, by rw [Go.Sort.grow_empty]; rfl⟩ ?_
                  simp only [List.take_succ_cons, List.take_zero, List.drop_succ_cons, List.drop_zero, List.cons_append, List.nil_append]
                  repeat (go_big_quiet_step (first | (go_at_call 68; exact CP.out _ _)))
                  refine wpQuiet_nil ?_
                  refine soleStep_call 75 #[.slice a1 l c1] (by rfl) (fun w' => by kernel_rfl) ?_
                  intro w' hw'
                  obtain ⟨⟨dt, ot⟩, rfl⟩ := hw'
                  refine (CT.out dt ot).mono ?_
                  rintro e w2 ⟨v, he, hcw, a3, c3, rfl⟩
                  refine ⟨_, he, hcw, ?_⟩
                  clear hcw
                  go_frame
                  repeat (go_big_quiet_step (first | fail | (go_at_call 76; exact CL.out _ _)))
                  refine wpQuiet_nil ?_
                  intro _ hw'
                  obtain ⟨⟨dq, osq⟩, hw''⟩ := hw'
                  subst hw''
                  have hB2 := hdW.trans ((below_regrown W dq osq).mono hbW)
                  clear g3 g4
                  go_wp2
                  go_roundw
                  case rel => exact ⟨k + 1, by omega, by go_num, classesOk_next HA.out (classAt_next Hx.out Ht.out HC.out HL.out), hB2⟩
                  case measure => simp [intOf]; omega
    · obtain rfl : k = n := by omega
      go_wp2
      go_ret
      exact ⟨ret_bool (classesOk_true (by rw [Hn.out]; omega) (by rw [Hn.out]; exact HA.out)).symm, hd⟩
theorem classes_spec (a : Option Addr) (n c : Nat) (xs : List (List Int × Int)) (w : World) (hr : RP w a xs) (hn : xs.length = n) (hb : n ≤ 1048576) (hsh : Short_P xs) :
    Calls Try.prog 23 #[.slice a n c] w fun e w' => ∃ b, e = .returned (.bool b) ∧ Hid (b = classesOk xs) ∧ Below w.heap.size w w' :=
  (specClassesOk_any a n c xs w hr hn hb hsh).mono fun _ _ ⟨he, hd⟩ => ⟨_, he, rfl, hd⟩
theorem classes_impl (a : Option Addr) (n c : Nat) (xs : List (List Int × Int)) (w : World) (hr : RP w a xs) (hn : xs.length = n) (hb : n ≤ 1048576) (hsh : Short_P xs) :
    Calls Try.prog 25 #[.slice a n c] w fun e w' => ∃ b, e = .returned (.bool b) ∧ Hid (b = classesOk xs) ∧ Below w.heap.size w w' :=
  (implClassesOk_any a n c xs w hr hn hb hsh).mono fun _ _ ⟨he, hd⟩ => ⟨_, he, rfl, hd⟩
end Go.Proofs.Ytnjfbgdighaiiaa
