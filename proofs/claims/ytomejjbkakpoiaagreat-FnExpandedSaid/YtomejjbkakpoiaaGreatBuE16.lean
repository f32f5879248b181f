/-
  Contract of ClassesOk, the program's.
  What a call leaves that returns a polynomial and whether it is one within the limits.
  Contract of l3Up.
-/
import Derived.Test.YtomejjbkakpoiaaGreatClassesOk
import Derived.Test.YtomejjbkakpoiaaGreatBuE5
import Derived.Test.YtomejjbkakpoiaaGreatBuE11
namespace Go.Proofs.YtomejjbkakpoiaaGreat
open Go.RowKit

set_option maxRecDepth 100000 in
set_option maxHeartbeats 3200000 in
theorem implClassesOk_any (a : Option Addr) (n c : Nat) (xs : List (List Int × Int)) (w : World) (hr : RP w a xs) (hn : xs.length = n) (hb : n ≤ 1048576) (hsh : Short_P xs) :
    Calls Tryz.prog 46 #[.slice a n c] w fun e w' => e = .returned (.bool (classesOk xs)) ∧ Below w.heap.size w w' := by
  have Hn := Lib.hid hn; clear hn
  have HSh := Lib.hid hsh; clear hsh
  by_cases hlong : 100 < n
  · have Hres := Lib.hid (classesOk_long (xs := xs) (by rw [Hn.out]; exact hlong))
    go_enter Tryz.func46, Tryz.ntmps46
    go_wp2
    go_ret
    exact ⟨ret_bool Hres.out.symm, Below.refl _ _⟩
  go_enter Tryz.func46, Tryz.ntmps46
  go_wp2
  go_loopw [10] (fun i wr => ∃ k : Nat, k ≤ n ∧ i = .int .i64 k ∧ Hid (∀ j, j < k → classAt xs j = true) ∧ Below w.heap.size w wr) (fun i _ => n - (intOf i).toNat)
  case atStart => exact ⟨0, Nat.zero_le _, rfl, by intro j hj; omega, Below.refl _ _⟩
  case round =>
    obtain ⟨k, hk, rfl, HA, hd⟩ := hrel
    by_cases hlt : k < n
    · obtain ⟨b, off, rfl, hcell⟩ := (hr.below hd).at (k := k) (by rw [Hn.out]; exact hlt)
      obtain ⟨s, x, hx⟩ := part_at Hn.out hlt
      obtain ⟨a1, c1, hc1, hc2, hri, hlc⟩ := hcell k _ hx
      have hsl : s.length ≤ 1048576 := HSh.out (s, x) (List.mem_of_getElem? hx)
      simp only at hc1 hc2 hri hlc
      have hlast : k ≠ 0 → ∃ t d a2 c2, xs[k-1]? = some (t, d) ∧ wr.cell? ⟨b, off + (k-1) * 2, none⟩ = some (.slice a2 t.length c2) ∧ RI wr a2 t ∧ t.length ≤ 1048576 := by
        intro h0
        obtain ⟨t, d, ht⟩ := part_at (k := k - 1) Hn.out (by omega)
        obtain ⟨a2, c2, e1, e2, e3, _⟩ := hcell (k - 1) _ ht
        exact ⟨t, d, a2, c2, ht, e1, e3, HSh.out (t, d) (List.mem_of_getElem? ht)⟩
      clear hcell
      have Hx := Lib.hid hx; clear hx
      obtain ⟨l, hl⟩ : ∃ l, s.length = l := ⟨_, rfl⟩
      rw [hl] at hc1 hsl hlc
      have Hl := Lib.hid hl; clear hl
      obtain ⟨m, hm⟩ : ∃ m, trimLen s l = m := ⟨_, rfl⟩
      have HM := Lib.hid hm; clear hm
      have q1 : (k : Int) < (n : Int) := by omega
      obtain ⟨W, hW⟩ : ∃ W, wr.alloc (.cells #[.slice a1 l c1, .int .i64 x] 52) = W := ⟨_, rfl⟩
      have hBW : Below wr.heap.size wr W := by rw [← hW]; exact (Below.refl _ _).alloc (Nat.le_refl _) _
      have hdW := hd.trans (hBW.mono hd.size)
      have g0 : W.heap[wr.heap.size]? = some (.cells #[.slice a1 l c1, .int .i64 x] 52) := by rw [← hW]; exact heap_alloc_new wr _
      have p0 : W.cell? ⟨wr.heap.size, 0, none⟩ = some (.slice a1 l c1) := by rw [cell_of_row W _ 0 _ _ (0, 0) g0]; rfl
      have p1 : W.cell? ⟨wr.heap.size, 1, none⟩ = some (.int .i64 x) := by rw [cell_of_row W _ 1 _ _ (0, 0) g0]; rfl
      have hriW := hri.below hBW
      clear g0
      have hbW := hdW.size
      have k0 := fun d os => cell_regrown p0 d os
      have k1 := fun d os => cell_regrown p1 d os
      have bW := fun d os => below_regrown W d os
      cases hp : isPerm s
      · have HP := Lib.hid hp; clear hp hlast
        have cp : ∀ (d : Nat) (os : Array Obj), Calls Tryz.prog 29 #[.slice a1 l c1] (Go.Sort.grow (redrawn W d) os) fun e w'' => e = .returned (.bool false) ∧ ∃ p : Regrown, w'' = Go.Sort.grow (redrawn W p.d) p.os := fun d os => Calls.regrown_of ((is (implIsPerm_any _ _ _ s _ (hriW.below (bW d os)) Hl.out (by omega)) HP.out))
        have CP := Lib.hid cp; clear cp
        go_wp2
        refine wp_region_quiet_below (by kernel_rfl) (by kernel_rfl) ?_
        repeat (go_big_quiet_step (first | (go_at_call 29; exact CP.out _ _)))
        refine wpQuiet_nil ?_
        intro _ hw'
        obtain ⟨⟨dq, osq⟩, hw''⟩ := hw'
        subst hw''
        have hB2 := hdW.trans ((below_regrown W dq osq).mono hbW)
        go_wp2
        go_ret
        exact ⟨ret_bool (classesOk_false (k := k) (by rw [Hn.out]; exact hlt) (classAt_bad Hx.out (class_perm HP.out))).symm, hB2⟩
      · have HP := Lib.hid hp; clear hp
        have cp : ∀ (d : Nat) (os : Array Obj), Calls Tryz.prog 29 #[.slice a1 l c1] (Go.Sort.grow (redrawn W d) os) fun e w'' => e = .returned (.bool true) ∧ ∃ p : Regrown, w'' = Go.Sort.grow (redrawn W p.d) p.os := fun d os => Calls.regrown_of ((is (implIsPerm_any _ _ _ s _ (hriW.below (bW d os)) Hl.out (by omega)) HP.out))
        have CP := Lib.hid cp; clear cp
        have ct : ∀ (d : Nat) (os : Array Obj), Calls Tryz.prog 56 #[.slice a1 l c1] (Go.Sort.grow (redrawn W d) os) fun e w'' => ∃ v, e = .returned v ∧ (∃ p : Regrown, w'' = Go.Sort.grow (redrawn W p.d) p.os) ∧ ∃ a3 c3, v = .slice a3 m c3 := fun d os => (implTrim_len _ _ _ s _ (hriW.below (bW d os)) Hl.out (by omega) hlc HP.out HM.out).mono fun _ _ ⟨a3, c3, h1, h2⟩ => ⟨_, h1, regrown_of_below ((bW d os).trans (h2.mono (bW d os).size)), a3, c3, rfl⟩
        have CT := Lib.hid ct; clear ct
        by_cases hml : m = l
        rotate_left
        · clear hlast
          have e1 : ((m : Int) != (l : Int)) = true := by simp; omega
          have Hml := Lib.hid hml; clear hml
          go_wp2
          refine wp_region_sole_at (C := fun w' => ∃ p : Regrown, w' = Go.Sort.grow (redrawn W p.d) p.os) 7 3 33 (by kernel_rfl) (by kernel_rfl) (by kernel_rfl) rfl ⟨⟨World.drawn W + 1, #[]⟩, by rw [Go.Sort.grow_empty]; rfl⟩ ?_
          simp only [List.take_succ_cons, List.take_zero, List.drop_succ_cons, List.drop_zero, List.cons_append, List.nil_append]
          repeat (go_big_quiet_step (first | (go_at_call 29; exact CP.out _ _)))
          refine wpQuiet_nil ?_
          refine soleStep_call 56 #[.slice a1 l c1] (by rfl) (fun w' => by kernel_rfl) ?_
          intro w' hw'
          obtain ⟨⟨dt, ot⟩, rfl⟩ := hw'
          refine (CT.out dt ot).mono ?_
          rintro e w2 ⟨v, he, hcw, a3, c3, rfl⟩
          refine ⟨_, he, hcw, ?_⟩
          clear hcw
          go_frame
          repeat (go_big_quiet_step (first | fail))
          refine wpQuiet_nil ?_
          intro _ hw'
          obtain ⟨⟨dq, osq⟩, hw''⟩ := hw'
          subst hw''
          have hB2 := hdW.trans ((below_regrown W dq osq).mono hbW)
          go_wp2
          go_ret
          exact ⟨ret_bool (classesOk_false (k := k) (by rw [Hn.out]; exact hlt) (classAt_bad Hx.out (class_trim Hl.out HM.out Hml.out))).symm, hB2⟩
        · have e1 : ((m : Int) != (l : Int)) = false := by simp; omega
          have Hml := Lib.hid hml; clear hml
          by_cases h0 : x = 0
          · clear hlast
            have e0 : (x == 0) = true := by simp [h0]
            have H0 := Lib.hid h0; clear h0
            go_wp2
            refine wp_region_sole_at (C := fun w' => ∃ p : Regrown, w' = Go.Sort.grow (redrawn W p.d) p.os) 7 3 33 (by kernel_rfl) (by kernel_rfl) (by kernel_rfl) rfl ⟨⟨World.drawn W + 1, #[]⟩, by rw [Go.Sort.grow_empty]; rfl⟩ ?_
            simp only [List.take_succ_cons, List.take_zero, List.drop_succ_cons, List.drop_zero, List.cons_append, List.nil_append]
            repeat (go_big_quiet_step (first | (go_at_call 29; exact CP.out _ _)))
            refine wpQuiet_nil ?_
            refine soleStep_call 56 #[.slice a1 l c1] (by rfl) (fun w' => by kernel_rfl) ?_
            intro w' hw'
            obtain ⟨⟨dt, ot⟩, rfl⟩ := hw'
            refine (CT.out dt ot).mono ?_
            rintro e w2 ⟨v, he, hcw, a3, c3, rfl⟩
            refine ⟨_, he, hcw, ?_⟩
            clear hcw
            go_frame
            repeat (go_big_quiet_step (first | fail))
            refine wpQuiet_nil ?_
            intro _ hw'
            obtain ⟨⟨dq, osq⟩, hw''⟩ := hw'
            subst hw''
            have hB2 := hdW.trans ((below_regrown W dq osq).mono hbW)
            go_wp2
            go_ret
            exact ⟨ret_bool (classesOk_false (k := k) (by rw [Hn.out]; exact hlt) (classAt_bad Hx.out (class_zero H0.out))).symm, hB2⟩
          · have e0 : (x == 0) = false := by simp [h0]
            have H0 := Lib.hid h0; clear h0
            by_cases hlow : x < -1000000
            · clear hlast
              go_wp2
              refine wp_region_sole_at (C := fun w' => ∃ p : Regrown, w' = Go.Sort.grow (redrawn W p.d) p.os) 7 3 33 (by kernel_rfl) (by kernel_rfl) (by kernel_rfl) rfl ⟨⟨World.drawn W + 1, #[]⟩, by rw [Go.Sort.grow_empty]; rfl⟩ ?_
              simp only [List.take_succ_cons, List.take_zero, List.drop_succ_cons, List.drop_zero, List.cons_append, List.nil_append]
              repeat (go_big_quiet_step (first | (go_at_call 29; exact CP.out _ _)))
              refine wpQuiet_nil ?_
              refine soleStep_call 56 #[.slice a1 l c1] (by rfl) (fun w' => by kernel_rfl) ?_
              intro w' hw'
              obtain ⟨⟨dt, ot⟩, rfl⟩ := hw'
              refine (CT.out dt ot).mono ?_
              rintro e w2 ⟨v, he, hcw, a3, c3, rfl⟩
              refine ⟨_, he, hcw, ?_⟩
              clear hcw
              go_frame
              repeat (go_big_quiet_step (first | fail))
              refine wpQuiet_nil ?_
              intro _ hw'
              obtain ⟨⟨dq, osq⟩, hw''⟩ := hw'
              subst hw''
              have hB2 := hdW.trans ((below_regrown W dq osq).mono hbW)
              go_wp2
              go_ret
              exact ⟨ret_bool (classesOk_false (k := k) (by rw [Hn.out]; exact hlt) (classAt_bad Hx.out (class_range (by omega)))).symm, hB2⟩
            have n1 : decide (x < -1000000) = false := by simp; omega
            by_cases hhigh : 1000000 < x
            · clear hlast
              go_wp2
              refine wp_region_sole_at (C := fun w' => ∃ p : Regrown, w' = Go.Sort.grow (redrawn W p.d) p.os) 7 3 33 (by kernel_rfl) (by kernel_rfl) (by kernel_rfl) rfl ⟨⟨World.drawn W + 1, #[]⟩, by rw [Go.Sort.grow_empty]; rfl⟩ ?_
              simp only [List.take_succ_cons, List.take_zero, List.drop_succ_cons, List.drop_zero, List.cons_append, List.nil_append]
              repeat (go_big_quiet_step (first | (go_at_call 29; exact CP.out _ _)))
              refine wpQuiet_nil ?_
              refine soleStep_call 56 #[.slice a1 l c1] (by rfl) (fun w' => by kernel_rfl) ?_
              intro w' hw'
              obtain ⟨⟨dt, ot⟩, rfl⟩ := hw'
              refine (CT.out dt ot).mono ?_
              rintro e w2 ⟨v, he, hcw, a3, c3, rfl⟩
              refine ⟨_, he, hcw, ?_⟩
              clear hcw
              go_frame
              repeat (go_big_quiet_step (first | fail))
              refine wpQuiet_nil ?_
              intro _ hw'
              obtain ⟨⟨dq, osq⟩, hw''⟩ := hw'
              subst hw''
              have hB2 := hdW.trans ((below_regrown W dq osq).mono hbW)
              go_wp2
              go_ret
              exact ⟨ret_bool (classesOk_false (k := k) (by rw [Hn.out]; exact hlt) (classAt_bad Hx.out (class_range (by omega)))).symm, hB2⟩
            · have Hin := Lib.hid (show -1000000 ≤ x ∧ x ≤ 1000000 by omega)
              have n2 : decide (1000000 < x) = false := by simp; omega
              have HC := Lib.hid (class_yes Hl.out HM.out HP.out Hml.out H0.out Hin.out)
              by_cases hk0 : k = 0
              · clear hlast
                subst hk0
                simp only [Nat.zero_mul, Nat.add_zero] at hc1 hc2
                have g0 : decide ((0 : Int) < 0) = false := by decide
                go_wp2
                refine wp_region_sole_at (C := fun w' => ∃ p : Regrown, w' = Go.Sort.grow (redrawn W p.d) p.os) 7 3 33 (by kernel_rfl) (by kernel_rfl) (by kernel_rfl) rfl ⟨⟨World.drawn W + 1, #[]⟩, by rw [Go.Sort.grow_empty]; rfl⟩ ?_
                simp only [List.take_succ_cons, List.take_zero, List.drop_succ_cons, List.drop_zero, List.cons_append, List.nil_append]
                repeat (go_big_quiet_step (first | (go_at_call 29; exact CP.out _ _)))
                refine wpQuiet_nil ?_
                refine soleStep_call 56 #[.slice a1 l c1] (by rfl) (fun w' => by kernel_rfl) ?_
                intro w' hw'
                obtain ⟨⟨dt, ot⟩, rfl⟩ := hw'
                refine (CT.out dt ot).mono ?_
                rintro e w2 ⟨v, he, hcw, a3, c3, rfl⟩
                refine ⟨_, he, hcw, ?_⟩
                clear hcw
                go_frame
                repeat (go_big_quiet_step (first | fail))
                refine wpQuiet_nil ?_
                intro _ hw'
                obtain ⟨⟨dq, osq⟩, hw''⟩ := hw'
                subst hw''
                have hB2 := hdW.trans ((below_regrown W dq osq).mono hbW)
                go_wp2
                go_roundw
                case rel => exact ⟨1, by omega, rfl, classesOk_next HA.out (classAt_first Hx.out HC.out), hB2⟩
                case measure => simp [intOf]; omega
              · obtain ⟨t, d, a2, c2, ht, hc3, hri2, htl⟩ := hlast hk0
                clear hlast
                have Ht := Lib.hid ht; clear ht
                obtain ⟨l2, hl2⟩ : ∃ l, t.length = l := ⟨_, rfl⟩
                rw [hl2] at hc3 htl
                have Hl2 := Lib.hid hl2; clear hl2
                have hri2 := hri2.below hBW
                have hc3 : W.cell? ⟨b, off + (k-1) * 2, none⟩ = some (.slice a2 l2 c2) := by rw [hBW.cell (World.block_lt_of_cell? wr _ hc3)]; exact hc3
                have k2 := fun d os => cell_regrown hc3 d os
                have g0 : 0 < k := by omega
                have g1 : (0 : Int) ≤ (k : Int) - 1 := by omega
                have g2 : (k : Int) - 1 < (n : Int) := by omega
                cases hL : less t s
                · have HL := Lib.hid hL; clear hL
                  obtain ⟨o, ho⟩ : ∃ o, order t s = o := ⟨_, rfl⟩
                  have HO := Lib.hid ho
                  have ho2 : decide (0 ≤ o) = !(less t s) := by rw [less_order, ho]; by_cases h : o < 0 <;> simp [h] <;> omega
                  rw [HL.out] at ho2
                  simp only [Bool.not_false] at ho2
                  clear ho
                  have cl : ∀ (d : Nat) (os : Array Obj), Calls Tryz.prog 86 #[.slice a2 l2 c2, .slice a1 l c1] (Go.Sort.grow (redrawn W d) os) fun e w'' => e = .returned (.int .i64 o) ∧ ∃ p : Regrown, w'' = Go.Sort.grow (redrawn W p.d) p.os := fun d os => Calls.regrown_of ((isInt (compare_any _ _ _ _ _ _ t s _ (hri2.below (bW d os)) (hriW.below (bW d os)) Hl2.out Hl.out (by omega) (by omega)) HO.out).mono fun _ _ ⟨h1, h2⟩ => ⟨h1, by rw [← h2]; exact Below.refl _ _⟩)
                  have CL := Lib.hid cl; clear cl
                  have g3 : IntKind.i64.wrap ((k : Int) - 1) = (k : Int) - 1 := IntWalk.i64_in _ (by omega)
                  have g4 : ((k : Int) - 1).toNat = k - 1 := by omega
                  go_wp2
                  refine wp_region_sole_at (C := fun w' => ∃ p : Regrown, w' = Go.Sort.grow (redrawn W p.d) p.os) 7 3 33 (by kernel_rfl) (by kernel_rfl) (by kernel_rfl) rfl ⟨⟨World.drawn W + 1, #[]⟩, by rw [Go.Sort.grow_empty]; rfl⟩ ?_
                  simp only [List.take_succ_cons, List.take_zero, List.drop_succ_cons, List.drop_zero, List.cons_append, List.nil_append]
                  repeat (go_big_quiet_step (first | (go_at_call 29; exact CP.out _ _)))
                  refine wpQuiet_nil ?_
                  refine soleStep_call 56 #[.slice a1 l c1] (by rfl) (fun w' => by kernel_rfl) ?_
                  intro w' hw'
                  obtain ⟨⟨dt, ot⟩, rfl⟩ := hw'
                  refine (CT.out dt ot).mono ?_
                  rintro e w2 ⟨v, he, hcw, a3, c3, rfl⟩
                  refine ⟨_, he, hcw, ?_⟩
                  clear hcw
                  go_frame
                  repeat (go_big_quiet_step (first | fail | (go_at_call 86; exact CL.out _ _)))
                  refine wpQuiet_nil ?_
                  intro _ hw'
                  obtain ⟨⟨dq, osq⟩, hw''⟩ := hw'
                  subst hw''
                  have hB2 := hdW.trans ((below_regrown W dq osq).mono hbW)
                  clear g3 g4
                  go_wp2
                  go_ret
                  exact ⟨ret_bool (classesOk_false (k := k) (by rw [Hn.out]; exact hlt) (classAt_rise Hx.out Ht.out hk0 HL.out)).symm, hB2⟩
                · have HL := Lib.hid hL; clear hL
                  obtain ⟨o, ho⟩ : ∃ o, order t s = o := ⟨_, rfl⟩
                  have HO := Lib.hid ho
                  have ho2 : decide (0 ≤ o) = !(less t s) := by rw [less_order, ho]; by_cases h : o < 0 <;> simp [h] <;> omega
                  rw [HL.out] at ho2
                  simp only [Bool.not_true] at ho2
                  clear ho
                  have cl : ∀ (d : Nat) (os : Array Obj), Calls Tryz.prog 86 #[.slice a2 l2 c2, .slice a1 l c1] (Go.Sort.grow (redrawn W d) os) fun e w'' => e = .returned (.int .i64 o) ∧ ∃ p : Regrown, w'' = Go.Sort.grow (redrawn W p.d) p.os := fun d os => Calls.regrown_of ((isInt (compare_any _ _ _ _ _ _ t s _ (hri2.below (bW d os)) (hriW.below (bW d os)) Hl2.out Hl.out (by omega) (by omega)) HO.out).mono fun _ _ ⟨h1, h2⟩ => ⟨h1, by rw [← h2]; exact Below.refl _ _⟩)
                  have CL := Lib.hid cl; clear cl
                  have g3 : IntKind.i64.wrap ((k : Int) - 1) = (k : Int) - 1 := IntWalk.i64_in _ (by omega)
                  have g4 : ((k : Int) - 1).toNat = k - 1 := by omega
                  go_wp2
                  refine wp_region_sole_at (C := fun w' => ∃ p : Regrown, w' = Go.Sort.grow (redrawn W p.d) p.os) 7 3 33 (by kernel_rfl) (by kernel_rfl) (by kernel_rfl) rfl ⟨⟨World.drawn W + 1, #[]⟩, by rw [Go.Sort.grow_empty]; rfl⟩ ?_
                  simp only [List.take_succ_cons, List.take_zero, List.drop_succ_cons, List.drop_zero, List.cons_append, List.nil_append]
                  repeat (go_big_quiet_step (first | (go_at_call 29; exact CP.out _ _)))
                  refine wpQuiet_nil ?_
                  refine soleStep_call 56 #[.slice a1 l c1] (by rfl) (fun w' => by kernel_rfl) ?_
                  intro w' hw'
                  obtain ⟨⟨dt, ot⟩, rfl⟩ := hw'
                  refine (CT.out dt ot).mono ?_
                  rintro e w2 ⟨v, he, hcw, a3, c3, rfl⟩
                  refine ⟨_, he, hcw, ?_⟩
                  clear hcw
                  go_frame
                  repeat (go_big_quiet_step (first | fail | (go_at_call 86; exact CL.out _ _)))
                  refine wpQuiet_nil ?_
                  intro _ hw'
                  obtain ⟨⟨dq, osq⟩, hw''⟩ := hw'
                  subst hw''
                  have hB2 := hdW.trans ((below_regrown W dq osq).mono hbW)
                  clear g3 g4
                  go_wp2
                  go_roundw
                  case rel => exact ⟨k + 1, by omega, by go_num, classesOk_next HA.out (classAt_next Hx.out Ht.out HC.out HL.out), hB2⟩
                  case measure => simp [intOf]; omega
    · obtain rfl : k = n := by omega
      go_wp2
      go_ret
      exact ⟨ret_bool (classesOk_true (by rw [Hn.out]; omega) (by rw [Hn.out]; exact HA.out)).symm, hd⟩
theorem classes_spec (a : Option Addr) (n c : Nat) (xs : List (List Int × Int)) (w : World) (hr : RP w a xs) (hn : xs.length = n) (hb : n ≤ 1048576) (hsh : Short_P xs) :
    Calls Tryz.prog 17 #[.slice a n c] w fun e w' => ∃ b, e = .returned (.bool b) ∧ Hid (b = classesOk xs) ∧ Below w.heap.size w w' :=
  (specClassesOk_any a n c xs w hr hn hb hsh).mono fun _ _ ⟨he, hd⟩ => ⟨_, he, rfl, hd⟩
theorem classes_impl (a : Option Addr) (n c : Nat) (xs : List (List Int × Int)) (w : World) (hr : RP w a xs) (hn : xs.length = n) (hb : n ≤ 1048576) (hsh : Short_P xs) :
    Calls Tryz.prog 46 #[.slice a n c] w fun e w' => ∃ b, e = .returned (.bool b) ∧ Hid (b = classesOk xs) ∧ Below w.heap.size w w' :=
  (implClassesOk_any a n c xs w hr hn hb hsh).mono fun _ _ ⟨he, hd⟩ => ⟨_, he, rfl, hd⟩
end Go.Proofs.YtomejjbkakpoiaaGreat

namespace Go.Proofs.YtomejjbkakpoiaaGreat
open Go.RowKit

def PostT (w : World) (T : List (List Int × Int)) (ok : Bool) (e : Ending) (w' : World) : Prop :=
  ∃ a' n' c' r, e = .returned (.tuple #[.slice a' n' c', .bool r]) ∧ TO w' w.heap.size w'.heap.size a' n' c' T ∧ Hid (r = ok) ∧ Below w.heap.size w w'
end Go.Proofs.YtomejjbkakpoiaaGreat

namespace Go.Proofs.YtomejjbkakpoiaaGreat
open Go.RowKit

def lenOf : Value → Nat
  | .slice _ n _ => n
  | _ => 0
def natI (l : List Nat) : List Int := l.map fun k : Nat => (k : Int)
theorem natI_append (l : List Nat) (k : Nat) : natI (l ++ [k]) = natI l ++ [(k : Int)] := by simp [natI]
/-- no ascent ahead of place k -/
def flat (v : List Int) (k : Nat) : Prop := ∀ (j : Nat) (p q : Int), j < k → v[j]? = some p → v[j + 1]? = some q → ¬ p < q

set_option maxRecDepth 100000 in
set_option maxHeartbeats 6400000 in
theorem l3Up_any (a : Option Addr) (n c : Nat) (xs : List Int) (w : World) (hr : RI w a xs) (hn : xs.length = n) (hb : n ≤ 1000) (hN : nin xs ≤ 1000000) :
    Calls Tryz.prog 120 #[.slice a n c] w fun e w' => ∃ a' m c', e = .returned (.slice a' m c') ∧ OwI w' w.heap.size w'.heap.size a' m c' (natI (ups xs)) ∧ Below w.heap.size w w' := by
  have Hn := Lib.hid hn; clear hn
  obtain ⟨N, hN'⟩ : ∃ N, nin xs = N := ⟨_, rfl⟩
  rw [hN'] at hN
  have HN := Lib.hid hN'
  clear hN'
  have h1 : OwI (w.alloc (.cells #[] 3)) w.heap.size (w.alloc (.cells #[] 3)).heap.size (some ⟨w.heap.size, 0, none⟩) 0 0 [] := OwI.mk (World.ownsRow_made _ #[] 0 (Nat.le_refl _) (Nat.zero_le _) rfl)
  have hB0 : Below w.heap.size w (w.alloc (.cells #[] 3)) := (Below.refl _ _).alloc (Nat.le_refl _) _
  have hr0 := hr.below hB0
  go_enter Tryz.func120, Tryz.ntmps120
  go_wp2_with fail
  refine (l1Ints_any _ _ _ xs _ hr0 Hn.out (by omega)).mono ?_
  rintro e w1 ⟨a1, c1, rfl, ho1, hb1⟩
  have hB1 := hB0.trans (hb1.mono hB0.size)
  have hO1 := (h1.below hb1).mono (B' := w.heap.size) (S' := w1.heap.size) (Nat.le_refl _) hb1.size
  have hne : ∀ g, (Value.slice a1 n c1).ownBlock = some g → (Value.slice (some ⟨w.heap.size, 0, none⟩) 0 0).ownBlock ≠ some g := by
    intro g hg e
    have h2 := ho1.1.lo g hg
    simp [Value.ownBlock] at e
    subst e
    simp at h2
    omega
  have hsz : w.heap.size ≤ (w.alloc (.cells #[] 3)).heap.size := hB0.size
  have hV1 := ho1.mono (B' := w.heap.size) (S' := w1.heap.size) hsz (Nat.le_refl _)
  clear h1 hr0 hB0 ho1 hb1 hsz
  go_wp2
  go_loopw [3, 4, 5] (fun ov vv kv wr => Hid (∃ (k : Nat) (don : List Nat) (v : List Int) (a1 : Option Addr) (m c1 : Nat) (a2 : Option Addr) (c2 : Nat), kv = .int .i64 k ∧ k ≤ n ∧ ov = .slice a1 m c1 ∧ vv = .slice a2 n c2 ∧ OwI wr w.heap.size wr.heap.size a1 m c1 (natI don) ∧ OwI wr w.heap.size wr.heap.size a2 n c2 v ∧ (∀ g, (Value.slice a2 n c2).ownBlock = some g → (Value.slice a1 m c1).ownBlock ≠ some g) ∧ ups xs = don ++ ups v ∧ flat v k ∧ m + nin v = N) ∧ Below w.heap.size w wr) (fun ov _ kv _ => (N - lenOf ov) * (n + 1) + (n - (intOf kv).toNat))
  case atStart => exact ⟨⟨0, [], xs, _, 0, _, _, _, rfl, Nat.zero_le _, rfl, rfl, hO1, hV1, hne, rfl, fun j _ _ hj => by omega, by rw [HN.out]; omega⟩, hB1⟩
  case round =>
    clear hO1 hV1 hne hB1
    obtain ⟨HV, hB⟩ := hrel
    obtain ⟨wo, rfl⟩ : ∃ wo : World, wo = wr := ⟨_, rfl⟩
    obtain ⟨k, don, v, a1, m, c1, a2, c2, rfl, hk, rfl, rfl, hO, hV, hne, hup, hfl, hmN⟩ := HV.out
    clear HV
    have Hvl := Lib.hid hV.len
    have Hup := Lib.hid hup
    have Hfl := Lib.hid hfl
    have Hml := Lib.hid hO.len
    clear hup hfl
    have hbs := hB.size
    by_cases hlt : k + 1 < n
    · obtain ⟨x, hx⟩ := some_at Hvl.out (show k < n by omega)
      obtain ⟨y, hy⟩ := some_at Hvl.out hlt
      obtain ⟨b, off, hab, hcell⟩ := hV.rd.at (k := k) (by rw [Hvl.out]; omega)
      have p1 := hcell k x hx
      have p2 := hcell (k + 1) y hy
      have q1 : (k : Int) + 1 < (n : Int) := by omega
      have q2 : (k : Int) < (n : Int) := by omega
      have q3 : IntKind.i64.wrap ((k : Int) + 1) = ((k + 1 : Nat) : Int) := by rw [IntWalk.i64_in _ (by omega)]; omega
      have q4 : ((k + 1 : Nat) : Int) < (n : Int) := by omega
      have Hx := Lib.hid hx
      have Hy := Lib.hid hy
      clear hcell hx hy
      subst hab
      by_cases hxy : x < y
      · have Hasc := Lib.hid (asc_at Hx.out Hy.out hxy Hfl.out)
        have hnin := nin_sw Hasc.out
        have Hus := Lib.hid (ups_some Hasc.out).1
        have Hsw := Lib.hid (sw_swp (w := v) (k := k) (by rw [Hvl.out]; exact hlt))
        have HO := Lib.hid (fun d : Nat => hO.below (Drew.below (Drew.drewN wo d) _))
        have HVr := Lib.hid (fun d : Nat => hV.rd.below (Drew.below (Drew.drewN wo d) _))
        have hBd : ∀ d : Nat, Below w.heap.size w (wo.drewN d) := fun d => hB.trans (Drew.below (Drew.drewN wo d) _)
        have HBd := Lib.hid hBd
        have hg : decide (x < y) = true := by simp [hxy]
        clear hO hV hne hBd
        go_wp2
        go_quiet (fail)
        go_wp2_with fail
        refine (l1Swap_any _ _ _ v k (k + 1) _ _ _ (HVr.out _) Hvl.out (by omega) rfl rfl (by omega) hlt).mono ?_
        rintro e w2 ⟨a3, c3, rfl, ho3, hb3⟩
        rw [Hsw.out] at ho3
        have HO2 := Lib.hid ((HO.out _).below hb3)
        have hB2 := (HBd.out _).trans (hb3.mono (HBd.out _).size)
        have Ho3 := Lib.hid ho3
        have hs2 := hB2.size
        have hne2 : ∀ g, (Value.slice a3 n c3).ownBlock = some g → (Value.slice a1 m c1).ownBlock ≠ some g := by
          intro g hg e
          have e1 := Ho3.out.1.lo g hg
          have e2 := (HO.out 0).2 g e
          simp at e1 e2
          omega
        have Hne2 := Lib.hid hne2
        clear ho3 hb3 hne2 HVr HO
        go_wp2_with (first | (at_builtin; go_loud (refine wpList_pushI (by rfl) (by rfl) _ _ (by rfl) HO2.out (by rfl) (by rfl) (by omega) hs2 ?_)))
        intro a4 c4 w4 ho4 hg4
        have hB4 := below_grown hB2 hg4.grown hs2 HO2.out.1.lo
        have hv4 : OwI w4 w.heap.size w4.heap.size a3 n c3 (sw v k) := by
          have h5 : OwI w4 _ _ a3 n c3 (sw v k) := ⟨Ho3.out.1.kept hg4.grown (fun g hg e => Hne2.out g hg e), Ho3.out.2⟩
          exact h5.mono hbs hg4.grown.size
        have hne4 : ∀ g, (Value.slice a3 n c3).ownBlock = some g → (Value.slice a4 (m + 1) c4).ownBlock ≠ some g := by
          intro g hg e
          rcases hg4.home with h6 | h6
          · rw [h6] at e
            exact Hne2.out g hg e
          · have e1 := h6 g e
            have e2 := Ho3.out.2 g hg
            omega
        rw [← natI_append] at ho4
        have HF := Lib.hid (And.intro ho4 (And.intro hv4 hne4))
        clear ho4 hv4 hne4 HO2 Ho3 Hne2 hg4 HBd
        go_wp2
        go_roundw
        case rel => exact ⟨⟨0, don ++ [k], sw v k, _, m + 1, _, _, _, by go_num, Nat.zero_le _, rfl, rfl, HF.out.1, HF.out.2.1, HF.out.2.2, by rw [Hup.out, Hus.out, List.append_assoc]; rfl, fun j _ _ hj => by omega, by omega⟩, hB4⟩
        case measure =>
          simp only [lenOf, intOf]
          obtain ⟨r, hr'⟩ : ∃ r, N - m = r + 1 := ⟨N - m - 1, by omega⟩
          have e2 : N - (m + 1) = r := by omega
          rw [hr', e2, Nat.succ_mul]
          simp
          omega
      · have HF := Lib.hid (And.intro (hO.below (Drew.below (Drew.drewN wo 1) _)) (And.intro (hV.below (Drew.below (Drew.drewN wo 1) _)) hne))
        have Hfl2 := Lib.hid (show flat v (k + 1) from fun j p q hj hp hq => by
          rcases Nat.lt_or_ge j k with h | h
          · exact Hfl.out j p q h hp hq
          · obtain rfl : j = k := by omega
            rw [Hx.out] at hp
            rw [Hy.out] at hq
            obtain rfl := Option.some.inj hp
            obtain rfl := Option.some.inj hq
            exact hxy)
        have hBd : ∀ d : Nat, Below w.heap.size w (wo.drewN d) := fun d => hB.trans (Drew.below (Drew.drewN wo d) _)
        have HG := Lib.hid (fun d : Nat => And.intro (hO.below (Drew.below (Drew.drewN wo d) _)) (And.intro (hV.below (Drew.below (Drew.drewN wo d) _)) hne))
        have HBd := Lib.hid hBd
        have hg : decide (x < y) = false := by simp [hxy]
        clear hO hV hne hBd HF
        go_wp2
        go_quiet (fail)
        go_wp2
        go_roundw
        case rel => exact ⟨⟨k + 1, don, v, _, m, _, _, _, by go_num, by omega, rfl, rfl, (HG.out _).1, (HG.out _).2.1, (HG.out 0).2.2, Hup.out, Hfl2.out, hmN⟩, HBd.out _⟩
        case measure =>
          simp only [lenOf, intOf]
          simp
          omega
    · have Hnone := Lib.hid (ups_none (asc_all (w := v) (fun j p q hp hq => by
        have := (List.getElem?_eq_some_iff.1 hq).1
        rw [Hvl.out] at this
        exact Hfl.out j p q (by omega) hp hq))).1
      have hfin : OwI wo w.heap.size wo.heap.size a1 m c1 (natI (ups xs)) := by rw [Hup.out, Hnone.out, List.append_nil]; exact hO
      have q1 : ¬ (k : Int) + 1 < (n : Int) := by omega
      have HF := Lib.hid hfin
      clear hfin hO hV hne
      go_wp2
      go_ret
      exact ⟨_, _, _, rfl, HF.out, hB⟩
end Go.Proofs.YtomejjbkakpoiaaGreat
