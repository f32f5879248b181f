/-
  DoubleSchubert, both.
-/
import Derived.Test.YtjljacmepidgcaaBuK24
import Derived.Test.YtjljacmepidgcaaKey
namespace Go.Proofs.Ytjljacmepidgcaa
open Go.RowKit

set_option maxRecDepth 100000 in
set_option maxHeartbeats 3200000 in
theorem l3Shifts_any (a : Option Addr) (n c : Nat) (xs : List Int) (a' : Option Addr) (n' c' : Nat) (ys : List Int) (w : World) (hr : RI w a xs) (hn : xs.length = n) (hb : n ≤ 1048576) (hc : n ≤ c) (hr' : RI w a' ys) (hn' : ys.length = n') (hb' : n' ≤ 1048576) :
    Calls Try.prog 25 #[.slice a n c, .slice a' n' c'] w fun e w' => e = .returned (.bool (dblIok xs ys)) ∧ Below w.heap.size w w' := by
  have Hn := Lib.hid hn
  have Hn' := Lib.hid hn'
  cases hp : isPerm xs
  · have H0 := Lib.hid (dblIok_false (xs := xs) (ys := ys) (.inl hp))
    have Hp := Lib.hid hp
    rw [H0.out]
    clear hp hn hn' H0
    go_enter Try.func25, Try.ntmps25
    go_wp2_with fail
    refine (is (specIsPerm_any _ _ _ xs _ hr Hn.out (by omega) hc) Hp.out).mono ?_
    rintro e w1 ⟨rfl, hd1⟩
    have hB1 := hd1.below w.heap.size
    go_wp2
    go_ret
    exact ⟨rfl, hB1⟩
  have Hp := Lib.hid hp
  by_cases h5 : 5 < n
  · have H0 := Lib.hid (dblIok_false (xs := xs) (ys := ys) (.inr (.inl (by omega))))
    have q5 : (5 : Int) < (n : Int) := by omega
    rw [H0.out]
    clear hp hn hn' H0
    go_enter Try.func25, Try.ntmps25
    go_wp2_with fail
    refine (is (specIsPerm_any _ _ _ xs _ hr Hn.out (by omega) hc) Hp.out).mono ?_
    rintro e w1 ⟨rfl, hd1⟩
    have hB1 := hd1.below w.heap.size
    go_wp2
    go_ret
    exact ⟨rfl, hB1⟩
  have q5 : ¬ (5 : Int) < (n : Int) := by omega
  by_cases hl : n' = n
  rotate_left
  · have H0 := Lib.hid (dblIok_false (xs := xs) (ys := ys) (.inr (.inr (.inl (by omega)))))
    have q6 : ((n' : Int) != (n : Int)) = true := by simp; omega
    rw [H0.out]
    clear hp hn hn' H0 hl
    go_enter Try.func25, Try.ntmps25
    go_wp2_with fail
    refine (is (specIsPerm_any _ _ _ xs _ hr Hn.out (by omega) hc) Hp.out).mono ?_
    rintro e w1 ⟨rfl, hd1⟩
    have hB1 := hd1.below w.heap.size
    go_wp2
    go_ret
    exact ⟨rfl, hB1⟩
  subst hl
  obtain ⟨R, hR⟩ : ∃ R, dblIok xs ys = R := ⟨_, rfl⟩
  rw [hR]
  have HR := Lib.hid hR
  clear hp hn hn' hR
  go_enter Try.func25, Try.ntmps25
  go_wp2_with fail
  refine (is (specIsPerm_any _ _ _ xs _ hr Hn.out (by omega) hc) Hp.out).mono ?_
  rintro e w1 ⟨rfl, hd1⟩
  go_wp2
  go_loopw [5] (fun kv wr => ∃ k : Nat, kv = .int .i64 k ∧ k ≤ n' ∧ Hid (∀ (j : Nat) (x : Int), j < k → ys[j]? = some x → -9 ≤ x ∧ x ≤ 9) ∧ Drew w wr) (fun kv _ => n' - (intOf kv).toNat)
  case atStart => exact ⟨0, rfl, Nat.zero_le _, fun j _ hj => by omega, hd1⟩
  case round =>
    clear hd1
    obtain ⟨k, rfl, hk, H4, hd⟩ := hrel
    obtain ⟨wo, rfl⟩ : ∃ wo : World, wo = wr := ⟨_, rfl⟩
    have hB := hd.below w.heap.size
    by_cases hlt : k < n'
    · obtain ⟨x, hx⟩ := some_at Hn'.out hlt
      obtain ⟨b1, off, rfl, hcell⟩ := (hr'.below hB).at (k := k) (by rw [Hn'.out]; omega)
      have p1 := hcell k x hx
      have q3 : (k : Int) < (n' : Int) := by omega
      have Hx := Lib.hid hx
      have HD := Lib.hid hd
      clear hcell hx hd
      by_cases hx4 : -9 ≤ x ∧ x ≤ 9
      · have H42 := Lib.hid (show ∀ (j : Nat) (y : Int), j < k + 1 → ys[j]? = some y → -9 ≤ y ∧ y ≤ 9 from fun j y hj hy => by
          rcases Nat.lt_or_ge j k with h | h
          · exact H4.out j y h hy
          · obtain rfl : j = k := by omega
            rw [Hx.out] at hy
            obtain rfl := Option.some.inj hy
            omega)
        go_wp2_with fail
        refine (l1In_yes x (-9) 9 _ hx4).mono ?_
        rintro e w2 ⟨rfl, hd2⟩
        have hd3 := HD.out.trans hd2
        go_wp2
        go_roundw
        case rel => exact ⟨k + 1, by go_num, by omega, H42.out, hd3⟩
        case measure => simp [intOf]; omega
      · have H0 := Lib.hid (dblIok_false (xs := xs) (ys := ys) (.inr (.inr (.inr ⟨k, x, Hx.out, hx4⟩))))
        go_wp2_with fail
        refine (l1In_no x (-9) 9 _ (by omega)).mono ?_
        rintro e w2 ⟨rfl, hd2⟩
        have hB2 := (HD.out.trans hd2).below w.heap.size
        go_wp2
        go_ret
        exact ⟨ret_bool (by rw [← HR.out, H0.out]), hB2⟩
    · obtain rfl : k = n' := by omega
      have HI : Hid (In9 ys) := fun x hx => by
        obtain ⟨j, hj⟩ := List.getElem?_of_mem hx
        exact H4.out j x (by have := lt_of_some hj; rw [Hn'.out] at this; exact this) hj
      have H0 := Lib.hid (dblIok_true Hp.out (by rw [Hn.out]; omega) (by rw [Hn.out, Hn'.out]) HI.out)
      go_wp2
      go_ret
      exact ⟨ret_bool (by rw [← HR.out, H0.out]), hB⟩

theorem dblIok_parts {xs ys : List Int} (h : dblIok xs ys = true) : isPerm xs = true ∧ xs.length ≤ 5 ∧ ys.length = xs.length ∧ In9 ys := by
  unfold dblIok at h
  simp only [Bool.and_eq_true, decide_eq_true_eq, List.all_eq_true] at h
  exact ⟨h.1.1.1, h.1.1.2, h.1.2, h.2⟩
theorem dblM_in {xs ys : List Int} (h5 : xs.length ≤ 7) : ∀ p ∈ canon (dblM xs ys), inK p.1 := fun p hp =>
  ((sb_low (n := xs.length) h5 (Bv.dblTop (ys := ys) h5) (ups xs) (fun k hk => ups_lt xs k hk)).canon p hp).1
set_option maxRecDepth 100000 in
set_option maxHeartbeats 1600000 in
theorem specDbl_post (a : Option Addr) (n c : Nat) (xs : List Int) (a' : Option Addr) (n' c' : Nat) (ys : List Int) (w : World) (hr : RI w a xs) (hn : xs.length = n) (hb : n ≤ 1048576) (hc : n ≤ c) (hr' : RI w a' ys) (hn' : ys.length = n') (hb' : n' ≤ 1048576) :
    Calls Try.prog 10 #[.slice a n c, .slice a' n' c'] w (PostT w (dblT xs ys) (dblOk xs ys)) := by
  have Hn := Lib.hid hn
  have Hn' := Lib.hid hn'
  cases hk : dblIok xs ys
  · have H0 := Lib.hid (dbl_no hk)
    have Hk := Lib.hid hk
    clear hk hn hn'
    go_enter Try.func10, Try.ntmps10
    go_wp2_with fail
    refine (is (l3Shifts_any _ _ _ xs _ _ _ ys _ hr Hn.out hb hc hr' Hn'.out hb') Hk.out).mono ?_
    rintro e w1 ⟨rfl, hB1⟩
    go_wp2
    go_ret2
    exact ⟨_, _, _, _, rfl, by rw [H0.out.1]; exact TO.nil, H0.out.2.symm, hB1⟩
  · have H0 := Lib.hid (dbl_yes hk)
    have Hk := Lib.hid hk
    obtain ⟨_, h5, hl, h9⟩ := dblIok_parts hk
    have H9 := Lib.hid h9
    have hn5 : n ≤ 5 := by omega
    have hnn : n' = n := by omega
    have HK := Lib.hid (dblM_in (xs := xs) (ys := ys) (by omega))
    subst hnn
    clear hk hn hn' h5 hl h9
    go_enter Try.func10, Try.ntmps10
    go_wp2_with fail
    refine (is (l3Shifts_any _ _ _ xs _ _ _ ys _ hr Hn.out hb hc hr' Hn'.out hb') Hk.out).mono ?_
    rintro e w1 ⟨rfl, hB1⟩
    have hr1 := hr.below hB1
    have hr1' := hr'.below hB1
    go_wp2_with fail
    refine (l3Double_any _ _ _ xs _ _ _ ys _ hr1 Hn.out hn5 hr1' Hn'.out rfl H9.out).mono ?_
    rintro e w4 ⟨a4, n4, c4, rfl, ho4, hb4⟩
    have hB4 := hB1.trans (hb4.mono hB1.size)
    have Ho4 := Lib.hid ho4
    clear ho4
    go_wp2_with fail
    refine (l2Shut_any _ _ _ _ _ Ho4.out.rd Ho4.out.len HK.out).mono ?_
    rintro e w9 ⟨a9, n9, c9, r9, rfl, ho9, hh9, hb9⟩
    have hB9 := hB4.trans (hb9.mono hB4.size)
    have Ho9 := Lib.hid (ho9.mono (B' := w.heap.size) (S' := w9.heap.size) hB4.size (Nat.le_refl _))
    clear ho9
    go_wp2
    go_ret2
    exact ⟨_, _, _, _, rfl, by rw [H0.out.1]; exact Ho9.out, by rw [H0.out.2]; exact hh9, hB9⟩
theorem specDbl_any (a : Option Addr) (n c : Nat) (xs : List Int) (a' : Option Addr) (n' c' : Nat) (ys : List Int) (w : World) (hr : RI w a xs) (hn : xs.length = n) (hb : n ≤ 1048576) (hc : n ≤ c) (hr' : RI w a' ys) (hn' : ys.length = n') (hb' : n' ≤ 1048576) (_hc' : n' ≤ c') :
    Calls Try.prog 10 #[.slice a n c, .slice a' n' c'] w fun e w' => ∃ a' n' c' r, e = .returned (.tuple #[.slice a' n' c', .bool r]) ∧ TO w' w.heap.size w'.heap.size a' n' c' (dblT xs ys) ∧ Hid (r = dblOk xs ys) ∧ Below w.heap.size w w' :=
  (specDbl_post a n c xs a' n' c' ys w hr hn hb hc hr' hn' hb').mono fun _ _ h => h

theorem in9_all {xs ys : List Int} {n n' : Nat} (hn : xs.length = n) (hn' : ys.length = n') (hp : isPerm xs = true) (h5 : ¬ 5 < n) : dblIok xs ys = (ys.all in9 && decide (n' = n)) := by
  unfold dblIok in9
  rw [hp, hn, hn']
  have : decide (n ≤ 5) = true := by simp; omega
  rw [this]
  simp only [Bool.true_and]
  exact Bool.and_comm _ _
set_option maxRecDepth 100000 in
set_option maxHeartbeats 1600000 in
theorem implDbl_post (a : Option Addr) (n c : Nat) (xs : List Int) (a' : Option Addr) (n' c' : Nat) (ys : List Int) (w : World) (hr : RI w a xs) (hn : xs.length = n) (hb : n ≤ 1048576) (hr' : RI w a' ys) (hn' : ys.length = n') (hb' : n' ≤ 1048576) :
    Calls Try.prog 6 #[.slice a n c, .slice a' n' c'] w (PostT w (dblT xs ys) (dblOk xs ys)) := by
  have Hn := Lib.hid hn
  have Hn' := Lib.hid hn'
  cases hp : isPerm xs
  · have H0 := Lib.hid (dbl_no (dblIok_false (xs := xs) (ys := ys) (.inl hp)))
    have Hp := Lib.hid hp
    clear hp hn hn'
    go_enter Try.func6, Try.ntmps6
    go_wp2_with fail
    refine (is (implIsPerm_any _ _ _ xs _ hr Hn.out (by omega)) Hp.out).mono ?_
    rintro e w1 ⟨rfl, hB1⟩
    go_wp2
    go_ret2
    exact ⟨_, _, _, _, rfl, by rw [H0.out.1]; exact TO.nil, H0.out.2.symm, hB1⟩
  have Hp := Lib.hid hp
  by_cases h5 : 5 < n
  · have H0 := Lib.hid (dbl_no (dblIok_false (xs := xs) (ys := ys) (.inr (.inl (by omega)))))
    have q5 : (5 : Int) < (n : Int) := by omega
    clear hp hn hn'
    go_enter Try.func6, Try.ntmps6
    go_wp2_with fail
    refine (is (implIsPerm_any _ _ _ xs _ hr Hn.out (by omega)) Hp.out).mono ?_
    rintro e w1 ⟨rfl, hB1⟩
    go_wp2
    go_ret2
    exact ⟨_, _, _, _, rfl, by rw [H0.out.1]; exact TO.nil, H0.out.2.symm, hB1⟩
  have q5 : ¬ (5 : Int) < (n : Int) := by omega
  have HA := Lib.hid (in9_all hn hn' hp h5)
  cases hk : dblIok xs ys
  · have H0 := Lib.hid (dbl_no hk)
    have Hk := Lib.hid (HA.out.symm.trans hk)
    clear hk hn hn' hp HA
    go_enter Try.func6, Try.ntmps6
    go_wp2_with fail
    refine (is (implIsPerm_any _ _ _ xs _ hr Hn.out (by omega)) Hp.out).mono ?_
    rintro e w1 ⟨rfl, hB1⟩
    have hr1' := hr'.below hB1
    go_wp2_with fail
    refine (is (shiftsOk_any _ _ _ n ys _ hr1' Hn'.out hb') Hk.out).mono ?_
    rintro e w2 ⟨rfl, rfl⟩
    go_wp2
    go_ret2
    exact ⟨_, _, _, _, rfl, by rw [H0.out.1]; exact TO.nil, H0.out.2.symm, hB1⟩
  · have H0 := Lib.hid (dbl_yes hk)
    have Hk := Lib.hid (HA.out.symm.trans hk)
    obtain ⟨_, _, hl, h9⟩ := dblIok_parts hk
    have H9 := Lib.hid h9
    have hn5 : n ≤ 5 := by omega
    have hnn : n' = n := by omega
    subst hnn
    clear hk hn hn' hp HA hl h9
    go_enter Try.func6, Try.ntmps6
    go_wp2_with fail
    refine (is (implIsPerm_any _ _ _ xs _ hr Hn.out (by omega)) Hp.out).mono ?_
    rintro e w1 ⟨rfl, hB1⟩
    have hr1 := hr.below hB1
    have hr1' := hr'.below hB1
    go_wp2_with fail
    refine (is (b := true) (shiftsOk_any _ _ _ n' ys _ hr1' Hn'.out hb') (by simpa using Hk.out)).mono ?_
    rintro e w2 ⟨rfl, rfl⟩
    go_wp2_with fail
    refine (implDouble_any _ _ _ xs _ _ _ ys _ hr1 Hn.out hn5 hr1' Hn'.out rfl H9.out).mono ?_
    rintro e w4 ⟨r4, rfl, hF4, hb4⟩
    have hB4 := hB1.trans (hb4.mono hB1.size)
    have HF4 := Lib.hid hF4
    clear hF4
    go_wp2_with fail
    refine (closed_any r4 _ _ HF4.out).mono ?_
    rintro e w9 ⟨a9, n9, c9, r9, rfl, ho9, hh9, hb9⟩
    have hB9 := hB4.trans (hb9.mono hB4.size)
    have Ho9 := Lib.hid (ho9.mono (B' := w.heap.size) (S' := w9.heap.size) hB4.size (Nat.le_refl _))
    clear ho9
    go_wp2
    go_ret2
    exact ⟨_, _, _, _, rfl, by rw [H0.out.1]; exact Ho9.out, by rw [H0.out.2]; exact hh9, hB9⟩
theorem implDbl_any (a : Option Addr) (n c : Nat) (xs : List Int) (a' : Option Addr) (n' c' : Nat) (ys : List Int) (w : World) (hr : RI w a xs) (hn : xs.length = n) (hb : n ≤ 1048576) (_hc : n ≤ c) (hr' : RI w a' ys) (hn' : ys.length = n') (hb' : n' ≤ 1048576) (_hc' : n' ≤ c') :
    Calls Try.prog 6 #[.slice a n c, .slice a' n' c'] w fun e w' => ∃ a' n' c' r, e = .returned (.tuple #[.slice a' n' c', .bool r]) ∧ TO w' w.heap.size w'.heap.size a' n' c' (dblT xs ys) ∧ Hid (r = dblOk xs ys) ∧ Below w.heap.size w w' :=
  (implDbl_post a n c xs a' n' c' ys w hr hn hb hr' hn' hb').mono fun _ _ h => h
end Go.Proofs.Ytjljacmepidgcaa
