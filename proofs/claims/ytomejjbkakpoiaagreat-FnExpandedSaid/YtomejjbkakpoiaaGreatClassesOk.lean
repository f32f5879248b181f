/-
  Contracts of ClassesOk, the program's and the reference's.
-/
import Derived.Test.YtomejjbkakpoiaaGreatBuE5
import Derived.Test.YtomejjbkakpoiaaGreatBuE15
import Derived.Test.YtomejjbkakpoiaaGreatBuE14
import Derived.Test.YtomejjbkakpoiaaGreatBuE9
import Derived.Test.YtomejjbkakpoiaaGreatSole
import Derived.Lib.QuietBelow
import Derived.BigQuiet
namespace Go.Proofs.YtomejjbkakpoiaaGreat
open Go.RowKit

def partOf (xs : List (List Int × Int)) (k : Nat) : List Int × Int := xs.getD k ([], 0)
def isClass (p : List Int × Int) : Bool := isPerm p.1 && decide (trimLen p.1 p.1.length = p.1.length) && decide (p.2 ≠ 0) && decide (-1000000 ≤ p.2 ∧ p.2 ≤ 1000000)
def classAt (xs : List (List Int × Int)) (k : Nat) : Bool := isClass (partOf xs k) && (k == 0 || less (partOf xs (k - 1)).1 (partOf xs k).1)
def classesOk (xs : List (List Int × Int)) : Bool := decide (xs.length ≤ 100) && (List.range xs.length).all (classAt xs)
theorem partOf_at {xs : List (List Int × Int)} {k : Nat} {p : List Int × Int} (h : xs[k]? = some p) : partOf xs k = p := by simp [partOf, h]
theorem class_perm {s : List Int} {c : Int} (h1 : isPerm s = false) : isClass (s, c) = false := by simp [isClass, h1]
theorem class_trim {s : List Int} {c : Int} {l m : Nat} (hl : s.length = l) (hm : trimLen s l = m) (h1 : m ≠ l) : isClass (s, c) = false := by subst hl hm; simp [isClass, h1]
theorem class_zero {s : List Int} {c : Int} (h1 : c = 0) : isClass (s, c) = false := by simp [isClass, h1]
theorem class_range {s : List Int} {c : Int} (h1 : ¬ (-1000000 ≤ c ∧ c ≤ 1000000)) : isClass (s, c) = false := by simp [isClass]; intros; omega
theorem class_yes {s : List Int} {c : Int} {l m : Nat} (hl : s.length = l) (hm : trimLen s l = m) (h1 : isPerm s = true) (h2 : m = l) (h3 : c ≠ 0) (h4 : -1000000 ≤ c ∧ c ≤ 1000000) : isClass (s, c) = true := by
  subst hl hm; simp [isClass, h1, h2, h3, h4]
theorem classAt_bad {xs : List (List Int × Int)} {k : Nat} {q : List Int × Int} (h : xs[k]? = some q) (h1 : isClass q = false) : classAt xs k = false := by
  simp [classAt, partOf_at h, h1]
theorem classAt_rise {xs : List (List Int × Int)} {k : Nat} {s t : List Int} {c d : Int} (h : xs[k]? = some (s, c)) (hy : xs[k - 1]? = some (t, d)) (h0 : k ≠ 0) (h1 : less t s = false) : classAt xs k = false := by
  simp [classAt, partOf_at h, partOf_at hy, h1, h0]
theorem classAt_first {xs : List (List Int × Int)} {q : List Int × Int} (h : xs[0]? = some q) (h1 : isClass q = true) : classAt xs 0 = true := by
  simp [classAt, partOf_at h, h1]
theorem classAt_next {xs : List (List Int × Int)} {k : Nat} {s t : List Int} {c d : Int} (h : xs[k]? = some (s, c)) (hy : xs[k - 1]? = some (t, d)) (h1 : isClass (s, c) = true) (h3 : less t s = true) : classAt xs k = true := by
  simp [classAt, partOf_at h, partOf_at hy, h1, h3]
theorem classesOk_false {xs : List (List Int × Int)} {k : Nat} (hk : k < xs.length) (h : classAt xs k = false) : classesOk xs = false := by
  unfold classesOk
  rw [Bool.and_eq_false_iff]
  right
  rw [List.all_eq_false]
  exact ⟨k, by simpa using hk, by simp [h]⟩
theorem classesOk_long {xs : List (List Int × Int)} (hk : 100 < xs.length) : classesOk xs = false := by
  unfold classesOk
  rw [Bool.and_eq_false_iff]
  left
  simp; omega
theorem classesOk_true {xs : List (List Int × Int)} (hl : xs.length ≤ 100) (h : ∀ j, j < xs.length → classAt xs j = true) : classesOk xs = true := by
  unfold classesOk
  rw [Bool.and_eq_true]
  refine ⟨by simpa using hl, ?_⟩
  rw [List.all_eq_true]; intro j hj; exact h j (by simpa using hj)
theorem classesOk_next {xs : List (List Int × Int)} {k : Nat} (h : ∀ j, j < k → classAt xs j = true) (h1 : classAt xs k = true) : ∀ j, j < k + 1 → classAt xs j = true := by
  intro j hj
  rcases Nat.lt_or_ge j k with h2 | h2
  · exact h j h2
  · obtain rfl : j = k := by omega
    exact h1
theorem l1Trim_len {m : Nat} (a : Option Addr) (n c : Nat) (xs : List Int) (w : World) (hr : RI w a xs) (hn : xs.length = n) (hb : n ≤ 1048576) (hnc : n ≤ c) (hm : trimLen xs n = m) :
    Calls Tryz.prog 51 #[.slice a n c] w fun e w' => ∃ a' c', e = .returned (.slice a' m c') ∧ Below w.heap.size w w' := by
  subst hm
  exact (l1Trim_any a n c xs w hr hn hb hnc).mono fun _ _ ⟨a', c', h1, _, h2⟩ => ⟨a', c', h1, h2⟩
theorem implTrim_len {m : Nat} (a : Option Addr) (n c : Nat) (xs : List Int) (w : World) (hr : RI w a xs) (hn : xs.length = n) (hb : n ≤ 1048576) (hnc : n ≤ c) (hp : isPerm xs = true) (hm : trimLen xs n = m) :
    Calls Tryz.prog 56 #[.slice a n c] w fun e w' => ∃ a' c', e = .returned (.slice a' m c') ∧ Below w.heap.size w w' := by
  subst hm
  exact (implTrim_any a n c xs w hr hn hb hnc hp).mono fun _ _ ⟨a', c', h1, _, h2⟩ => ⟨a', c', h1, h2⟩

set_option maxRecDepth 100000 in
set_option maxHeartbeats 3200000 in
theorem specClassesOk_any (a : Option Addr) (n c : Nat) (xs : List (List Int × Int)) (w : World) (hr : RP w a xs) (hn : xs.length = n) (hb : n ≤ 1048576) (hsh : Short_P xs) :
    Calls Tryz.prog 17 #[.slice a n c] w fun e w' => e = .returned (.bool (classesOk xs)) ∧ Below w.heap.size w w' := by
  have Hn := Lib.hid hn; clear hn
  have HSh := Lib.hid hsh; clear hsh
  by_cases hlong : 100 < n
  · have Hres := Lib.hid (classesOk_long (xs := xs) (by rw [Hn.out]; exact hlong))
    go_enter Tryz.func17, Tryz.ntmps17
    go_wp2
    go_ret
    exact ⟨ret_bool Hres.out.symm, Below.refl _ _⟩
  go_enter Tryz.func17, Tryz.ntmps17
  go_wp2
  go_loopw [3] (fun i wr => ∃ k : Nat, k ≤ n ∧ i = .int .i64 k ∧ Hid (∀ j, j < k → classAt xs j = true) ∧ Below w.heap.size w wr) (fun i _ => n - (intOf i).toNat)
  case atStart => exact ⟨0, Nat.zero_le _, rfl, by intro j hj; omega, Below.refl _ _⟩
  case round =>
    obtain ⟨k, hk, rfl, HA, hd⟩ := hrel
    by_cases hlt : k < n
    · obtain ⟨b, off, rfl, hcell⟩ := (hr.below hd).at (k := k) (by rw [Hn.out]; exact hlt)
      obtain ⟨s, x, hx⟩ := part_at Hn.out hlt
      obtain ⟨a1, c1, hc1, hc2, hri, hlc⟩ := hcell k _ hx
      have hsl : s.length ≤ 1048576 := HSh.out (s, x) (List.mem_of_getElem? hx)
      simp only at hc1 hc2 hri hlc
      have hlast : k ≠ 0 → ∃ t d a2 c2, xs[k-1]? = some (t, d) ∧ wr.cell? ⟨b, off + (k-1) * 2, none⟩ = some (.slice a2 t.length c2) ∧ RI wr a2 t ∧ t.length ≤ 1048576 := by
        intro h0
        obtain ⟨t, d, ht⟩ := part_at (k := k - 1) Hn.out (by omega)
        obtain ⟨a2, c2, e1, e2, e3, _⟩ := hcell (k - 1) _ ht
        exact ⟨t, d, a2, c2, ht, e1, e3, HSh.out (t, d) (List.mem_of_getElem? ht)⟩
      clear hcell
      have Hx := Lib.hid hx; clear hx
      obtain ⟨l, hl⟩ : ∃ l, s.length = l := ⟨_, rfl⟩
      rw [hl] at hc1 hsl hlc
      have Hl := Lib.hid hl; clear hl
      obtain ⟨m, hm⟩ : ∃ m, trimLen s l = m := ⟨_, rfl⟩
      have HM := Lib.hid hm; clear hm
      have q1 : (k : Int) < (n : Int) := by omega
      obtain ⟨W, hW⟩ : ∃ W, wr = W := ⟨_, rfl⟩
      subst hW
      have hdW := hd
      have hriW := hri
      have p0 := hc1
      have p1 := hc2
      have hbW := hdW.size
      have k0 := fun d os => cell_regrown p0 d os
      have k1 := fun d os => cell_regrown p1 d os
      have bW := fun d os => below_regrown wr d os
      cases hp : isPerm s
      · have HP := Lib.hid hp; clear hp hlast
        have cp : ∀ (d : Nat) (os : Array Obj), Calls Tryz.prog 50 #[.slice a1 l c1] (Go.Sort.grow (redrawn wr d) os) fun e w'' => e = .returned (.bool false) ∧ ∃ p : Regrown, w'' = Go.Sort.grow (redrawn wr p.d) p.os := fun d os => Calls.regrown_of (((is (specIsPerm_any _ _ _ s _ (hriW.below (bW d os)) Hl.out (by omega) hlc) HP.out)).mono fun _ _ ⟨h1, h2⟩ => ⟨h1, h2.below _⟩)
        have CP := Lib.hid cp; clear cp
        go_wp2
        refine wp_region_quiet_below (by kernel_rfl) (by kernel_rfl) ?_
        repeat (go_big_quiet_step (first | (go_at_call 50; exact CP.out _ _)))
        refine wpQuiet_nil ?_
        intro _ hw'
        obtain ⟨⟨dq, osq⟩, hw''⟩ := hw'
        subst hw''
        have hB2 := hdW.trans ((below_regrown wr dq osq).mono hbW)
        go_wp2
        go_ret
        exact ⟨ret_bool (classesOk_false (k := k) (by rw [Hn.out]; exact hlt) (classAt_bad Hx.out (class_perm HP.out))).symm, hB2⟩
      · have HP := Lib.hid hp; clear hp
        have cp : ∀ (d : Nat) (os : Array Obj), Calls Tryz.prog 50 #[.slice a1 l c1] (Go.Sort.grow (redrawn wr d) os) fun e w'' => e = .returned (.bool true) ∧ ∃ p : Regrown, w'' = Go.Sort.grow (redrawn wr p.d) p.os := fun d os => Calls.regrown_of (((is (specIsPerm_any _ _ _ s _ (hriW.below (bW d os)) Hl.out (by omega) hlc) HP.out)).mono fun _ _ ⟨h1, h2⟩ => ⟨h1, h2.below _⟩)
        have CP := Lib.hid cp; clear cp
        have ct : ∀ (d : Nat) (os : Array Obj), Calls Tryz.prog 51 #[.slice a1 l c1] (Go.Sort.grow (redrawn wr d) os) fun e w'' => ∃ v, e = .returned v ∧ (∃ p : Regrown, w'' = Go.Sort.grow (redrawn wr p.d) p.os) ∧ ∃ a3 c3, v = .slice a3 m c3 := fun d os => (l1Trim_len _ _ _ s _ (hriW.below (bW d os)) Hl.out (by omega) hlc HM.out).mono fun _ _ ⟨a3, c3, h1, h2⟩ => ⟨_, h1, regrown_of_below ((bW d os).trans (h2.mono (bW d os).size)), a3, c3, rfl⟩
        have CT := Lib.hid ct; clear ct
        by_cases hml : m = l
        rotate_left
        · clear hlast
          have e1 : ((m : Int) != (l : Int)) = true := by simp; omega
          have Hml := Lib.hid hml; clear hml
          go_wp2
          refine wp_region_sole_at (C := fun w' => ∃ p : Regrown, w' = Go.Sort.grow (redrawn wr p.d) p.os) 13 6 38 (by kernel_rfl) (by kernel_rfl) (by kernel_rfl) rfl ⟨⟨World.drawn wr + 1, #[]⟩, by rw [Go.Sort.grow_empty]; rfl⟩ ?_
          simp only [List.take_succ_cons, List.take_zero, List.drop_succ_cons, List.drop_zero, List.cons_append, List.nil_append]
          repeat (go_big_quiet_step (first | (go_at_call 50; exact CP.out _ _)))
          refine wpQuiet_nil ?_
          refine soleStep_call 51 #[.slice a1 l c1] (by rfl) (fun w' => by kernel_rfl) ?_
          intro w' hw'
          obtain ⟨⟨dt, ot⟩, rfl⟩ := hw'
          refine (CT.out dt ot).mono ?_
          rintro e w2 ⟨v, he, hcw, a3, c3, rfl⟩
          refine ⟨_, he, hcw, ?_⟩
          clear hcw
          go_frame
          repeat (go_big_quiet_step (first | fail))
          refine wpQuiet_nil ?_
          intro _ hw'
          obtain ⟨⟨dq, osq⟩, hw''⟩ := hw'
          subst hw''
          have hB2 := hdW.trans ((below_regrown wr dq osq).mono hbW)
          go_wp2
          go_ret
          exact ⟨ret_bool (classesOk_false (k := k) (by rw [Hn.out]; exact hlt) (classAt_bad Hx.out (class_trim Hl.out HM.out Hml.out))).symm, hB2⟩
        · have e1 : ((m : Int) != (l : Int)) = false := by simp; omega
          have Hml := Lib.hid hml; clear hml
          by_cases h0 : x = 0
          · clear hlast
            have e0 : (x == 0) = true := by simp [h0]
            have H0 := Lib.hid h0; clear h0
            go_wp2
            refine wp_region_sole_at (C := fun w' => ∃ p : Regrown, w' = Go.Sort.grow (redrawn wr p.d) p.os) 13 6 38 (by kernel_rfl) (by kernel_rfl) (by kernel_rfl) rfl ⟨⟨World.drawn wr + 1, #[]⟩, by rw [Go.Sort.grow_empty]; rfl⟩ ?_
            simp only [List.take_succ_cons, List.take_zero, List.drop_succ_cons, List.drop_zero, List.cons_append, List.nil_append]
            repeat (go_big_quiet_step (first | (go_at_call 50; exact CP.out _ _)))
            refine wpQuiet_nil ?_
            refine soleStep_call 51 #[.slice a1 l c1] (by rfl) (fun w' => by kernel_rfl) ?_
            intro w' hw'
            obtain ⟨⟨dt, ot⟩, rfl⟩ := hw'
            refine (CT.out dt ot).mono ?_
            rintro e w2 ⟨v, he, hcw, a3, c3, rfl⟩
            refine ⟨_, he, hcw, ?_⟩
            clear hcw
            go_frame
            repeat (go_big_quiet_step (first | fail))
            refine wpQuiet_nil ?_
            intro _ hw'
            obtain ⟨⟨dq, osq⟩, hw''⟩ := hw'
            subst hw''
            have hB2 := hdW.trans ((below_regrown wr dq osq).mono hbW)
            go_wp2
            go_ret
            exact ⟨ret_bool (classesOk_false (k := k) (by rw [Hn.out]; exact hlt) (classAt_bad Hx.out (class_zero H0.out))).symm, hB2⟩
          · have e0 : (x == 0) = false := by simp [h0]
            have H0 := Lib.hid h0; clear h0
            by_cases hin : -1000000 ≤ x ∧ x ≤ 1000000
            rotate_left
            · clear hlast
              have ci : ∀ (d : Nat) (os : Array Obj), Calls Tryz.prog 43 #[.int .i64 x, .int .i64 (-1000000), .int .i64 1000000] (Go.Sort.grow (redrawn wr d) os) fun e w'' => e = .returned (.bool false) ∧ ∃ p : Regrown, w'' = Go.Sort.grow (redrawn wr p.d) p.os := fun d os => Calls.regrown_of ((l1In_no x (-1000000) 1000000 _ (by omega)).mono fun _ _ ⟨h1, h2⟩ => ⟨h1, h2.below _⟩)
              have CI := Lib.hid ci; clear ci
              go_wp2
              refine wp_region_sole_at (C := fun w' => ∃ p : Regrown, w' = Go.Sort.grow (redrawn wr p.d) p.os) 13 6 38 (by kernel_rfl) (by kernel_rfl) (by kernel_rfl) rfl ⟨⟨World.drawn wr + 1, #[]⟩, by rw [Go.Sort.grow_empty]; rfl⟩ ?_
              simp only [List.take_succ_cons, List.take_zero, List.drop_succ_cons, List.drop_zero, List.cons_append, List.nil_append]
              repeat (go_big_quiet_step (first | (go_at_call 50; exact CP.out _ _)))
              refine wpQuiet_nil ?_
              refine soleStep_call 51 #[.slice a1 l c1] (by rfl) (fun w' => by kernel_rfl) ?_
              intro w' hw'
              obtain ⟨⟨dt, ot⟩, rfl⟩ := hw'
              refine (CT.out dt ot).mono ?_
              rintro e w2 ⟨v, he, hcw, a3, c3, rfl⟩
              refine ⟨_, he, hcw, ?_⟩
              clear hcw
              go_frame
              repeat (go_big_quiet_step (first | fail | (go_at_call 43; exact CI.out _ _)))
              refine wpQuiet_nil ?_
              intro _ hw'
              obtain ⟨⟨dq, osq⟩, hw''⟩ := hw'
              subst hw''
              have hB2 := hdW.trans ((below_regrown wr dq osq).mono hbW)
              go_wp2
              go_ret
              exact ⟨ret_bool (classesOk_false (k := k) (by rw [Hn.out]; exact hlt) (classAt_bad Hx.out (class_range hin))).symm, hB2⟩
            · have Hin := Lib.hid hin
              have ci : ∀ (d : Nat) (os : Array Obj), Calls Tryz.prog 43 #[.int .i64 x, .int .i64 (-1000000), .int .i64 1000000] (Go.Sort.grow (redrawn wr d) os) fun e w'' => e = .returned (.bool true) ∧ ∃ p : Regrown, w'' = Go.Sort.grow (redrawn wr p.d) p.os := fun d os => Calls.regrown_of ((l1In_yes x (-1000000) 1000000 _ hin).mono fun _ _ ⟨h1, h2⟩ => ⟨h1, h2.below _⟩)
              have CI := Lib.hid ci; clear ci
              have HC := Lib.hid (class_yes Hl.out HM.out HP.out Hml.out H0.out Hin.out)
              by_cases hk0 : k = 0
              · clear hlast
                subst hk0
                simp only [Nat.zero_mul, Nat.add_zero] at k0 k1
                have g0 : decide ((0 : Int) < 0) = false := by decide
                go_wp2
                refine wp_region_sole_at (C := fun w' => ∃ p : Regrown, w' = Go.Sort.grow (redrawn wr p.d) p.os) 13 6 38 (by kernel_rfl) (by kernel_rfl) (by kernel_rfl) rfl ⟨⟨World.drawn wr + 1, #[]⟩, by rw [Go.Sort.grow_empty]; rfl⟩ ?_
                simp only [List.take_succ_cons, List.take_zero, List.drop_succ_cons, List.drop_zero, List.cons_append, List.nil_append]
                repeat (go_big_quiet_step (first | (go_at_call 50; exact CP.out _ _)))
                refine wpQuiet_nil ?_
                refine soleStep_call 51 #[.slice a1 l c1] (by rfl) (fun w' => by kernel_rfl) ?_
                intro w' hw'
                obtain ⟨⟨dt, ot⟩, rfl⟩ := hw'
                refine (CT.out dt ot).mono ?_
                rintro e w2 ⟨v, he, hcw, a3, c3, rfl⟩
                refine ⟨_, he, hcw, ?_⟩
                clear hcw
                go_frame
                repeat (go_big_quiet_step (first | fail | (go_at_call 43; exact CI.out _ _)))
                refine wpQuiet_nil ?_
                intro _ hw'
                obtain ⟨⟨dq, osq⟩, hw''⟩ := hw'
                subst hw''
                have hB2 := hdW.trans ((below_regrown wr dq osq).mono hbW)
                go_wp2
                go_roundw
                case rel => exact ⟨1, by omega, rfl, classesOk_next HA.out (classAt_first Hx.out HC.out), hB2⟩
                case measure => simp [intOf]; omega
              · obtain ⟨t, d, a2, c2, ht, hc3, hri2, htl⟩ := hlast hk0
                clear hlast
                have Ht := Lib.hid ht; clear ht
                obtain ⟨l2, hl2⟩ : ∃ l, t.length = l := ⟨_, rfl⟩
                rw [hl2] at hc3 htl
                have Hl2 := Lib.hid hl2; clear hl2
                have k2 := fun d os => cell_regrown hc3 d os
                have g0 : 0 < k := by omega
                have g1 : (0 : Int) ≤ (k : Int) - 1 := by omega
                have g2 : (k : Int) - 1 < (n : Int) := by omega
                cases hL : less t s
                · have HL := Lib.hid hL; clear hL
                  have cl : ∀ (d : Nat) (os : Array Obj), Calls Tryz.prog 52 #[.slice a2 l2 c2, .slice a1 l c1] (Go.Sort.grow (redrawn wr d) os) fun e w'' => e = .returned (.bool false) ∧ ∃ p : Regrown, w'' = Go.Sort.grow (redrawn wr p.d) p.os := fun d os => Calls.regrown_of ((is (l1Less_any _ _ _ _ _ _ t s _ (hri2.below (bW d os)) (hriW.below (bW d os)) Hl2.out Hl.out (by omega) (by omega)) HL.out).mono fun _ _ ⟨h1, h2⟩ => ⟨h1, h2.below _⟩)
                  have CL := Lib.hid cl; clear cl
                  have g3 : IntKind.i64.wrap ((k : Int) - 1) = (k : Int) - 1 := IntWalk.i64_in _ (by omega)
                  have g4 : ((k : Int) - 1).toNat = k - 1 := by omega
                  go_wp2
                  refine wp_region_sole_at (C := fun w' => ∃ p : Regrown, w' = Go.Sort.grow (redrawn wr p.d) p.os) 13 6 38 (by kernel_rfl) (by kernel_rfl) (by kernel_rfl) rfl ⟨⟨World.drawn wr + 1, #[]⟩, by rw [Go.Sort.grow_empty]; rfl⟩ ?_
                  simp only [List.take_succ_cons, List.take_zero, List.drop_succ_cons, List.drop_zero, List.cons_append, List.nil_append]
                  repeat (go_big_quiet_step (first | (go_at_call 50; exact CP.out _ _)))
                  refine wpQuiet_nil ?_
                  refine soleStep_call 51 #[.slice a1 l c1] (by rfl) (fun w' => by kernel_rfl) ?_
                  intro w' hw'
                  obtain ⟨⟨dt, ot⟩, rfl⟩ := hw'
                  refine (CT.out dt ot).mono ?_
                  rintro e w2 ⟨v, he, hcw, a3, c3, rfl⟩
                  refine ⟨_, he, hcw, ?_⟩
                  clear hcw
                  go_frame
                  repeat (go_big_quiet_step (first | fail | (go_at_call 43; exact CI.out _ _) | (go_at_call 52; exact CL.out _ _)))
                  refine wpQuiet_nil ?_
                  intro _ hw'
                  obtain ⟨⟨dq, osq⟩, hw''⟩ := hw'
                  subst hw''
                  have hB2 := hdW.trans ((below_regrown wr dq osq).mono hbW)
                  clear g3 g4
                  go_wp2
                  go_ret
                  exact ⟨ret_bool (classesOk_false (k := k) (by rw [Hn.out]; exact hlt) (classAt_rise Hx.out Ht.out hk0 HL.out)).symm, hB2⟩
                · have HL := Lib.hid hL; clear hL
                  have cl : ∀ (d : Nat) (os : Array Obj), Calls Tryz.prog 52 #[.slice a2 l2 c2, .slice a1 l c1] (Go.Sort.grow (redrawn wr d) os) fun e w'' => e = .returned (.bool true) ∧ ∃ p : Regrown, w'' = Go.Sort.grow (redrawn wr p.d) p.os := fun d os => Calls.regrown_of ((is (l1Less_any _ _ _ _ _ _ t s _ (hri2.below (bW d os)) (hriW.below (bW d os)) Hl2.out Hl.out (by omega) (by omega)) HL.out).mono fun _ _ ⟨h1, h2⟩ => ⟨h1, h2.below _⟩)
                  have CL := Lib.hid cl; clear cl
                  have g3 : IntKind.i64.wrap ((k : Int) - 1) = (k : Int) - 1 := IntWalk.i64_in _ (by omega)
                  have g4 : ((k : Int) - 1).toNat = k - 1 := by omega
                  go_wp2
                  refine wp_region_sole_at (C := fun w' => ∃ p : Regrown, w' = Go.Sort.grow (redrawn wr p.d) p.os) 13 6 38 (by kernel_rfl) (by kernel_rfl) (by kernel_rfl) rfl ⟨⟨World.drawn wr + 1, #[]⟩, by rw [Go.Sort.grow_empty]; rfl⟩ ?_
                  simp only [List.take_succ_cons, List.take_zero, List.drop_succ_cons, List.drop_zero, List.cons_append, List.nil_append]
                  repeat (go_big_quiet_step (first | (go_at_call 50; exact CP.out _ _)))
                  refine wpQuiet_nil ?_
                  refine soleStep_call 51 #[.slice a1 l c1] (by rfl) (fun w' => by kernel_rfl) ?_
                  intro w' hw'
                  obtain ⟨⟨dt, ot⟩, rfl⟩ := hw'
                  refine (CT.out dt ot).mono ?_
                  rintro e w2 ⟨v, he, hcw, a3, c3, rfl⟩
                  refine ⟨_, he, hcw, ?_⟩
                  clear hcw
                  go_frame
                  repeat (go_big_quiet_step (first | fail | (go_at_call 43; exact CI.out _ _) | (go_at_call 52; exact CL.out _ _)))
                  refine wpQuiet_nil ?_
                  intro _ hw'
                  obtain ⟨⟨dq, osq⟩, hw''⟩ := hw'
                  subst hw''
                  have hB2 := hdW.trans ((below_regrown wr dq osq).mono hbW)
                  clear g3 g4
                  go_wp2
                  go_roundw
                  case rel => exact ⟨k + 1, by omega, by go_num, classesOk_next HA.out (classAt_next Hx.out Ht.out HC.out HL.out), hB2⟩
                  case measure => simp [intOf]; omega
    · obtain rfl : k = n := by omega
      go_wp2
      go_ret
      exact ⟨ret_bool (classesOk_true (by rw [Hn.out]; omega) (by rw [Hn.out]; exact HA.out)).symm, hd⟩
end Go.Proofs.YtomejjbkakpoiaaGreat
