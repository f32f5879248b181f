/-
  Contracts of l1Less, slices.Compare and cmp.Compare: the order of lists of integers.
-/
import Derived.Test.YtnjfbgdighaiiaaApp
namespace Go.Proofs.Ytnjfbgdighaiiaa
open Go.RowKit

/-- the order of lists: by the first place at which they differ, else by length -/
def less : List Int → List Int → Bool
  | [], [] => false
  | [], _ :: _ => true
  | _ :: _, [] => false
  | x :: xs, y :: ys => if x = y then less xs ys else decide (x < y)
/-- -1, 0, 1 -/
def order : List Int → List Int → Int
  | [], [] => 0
  | [], _ :: _ => -1
  | _ :: _, [] => 1
  | x :: xs, y :: ys => if x = y then order xs ys else if x < y then -1 else 1
theorem less_order (xs : List Int) : ∀ ys, less xs ys = decide (order xs ys < 0) := by
  induction xs with
  | nil => intro ys; cases ys <;> simp [less, order]
  | cons x xs ih =>
    intro ys
    cases ys with
    | nil => simp [less, order]
    | cons y ys =>
      by_cases h : x = y
      · subst h
        simp [less, order, ih ys]
      · by_cases h2 : x < y
        · simp [less, order, h, h2]
        · simp [less, order, h, h2]
/-- alike on the first k -/
theorem less_drop {xs ys : List Int} : ∀ {k : Nat}, (∀ j, j < k → xs[j]? = ys[j]?) → k ≤ xs.length → k ≤ ys.length → less xs ys = less (xs.drop k) (ys.drop k) ∧ order xs ys = order (xs.drop k) (ys.drop k) := by
  induction xs generalizing ys with
  | nil => intro k _ h2 _; obtain rfl : k = 0 := (by simpa using h2); exact ⟨rfl, rfl⟩
  | cons x xs ih =>
    intro k h h2 h3
    rcases k with _ | k
    · exact ⟨rfl, rfl⟩
    · cases ys with
      | nil => simp at h3
      | cons y ys =>
        have h0 := h 0 (by omega)
        obtain rfl : x = y := by simpa using h0
        have := ih (ys := ys) (k := k) (fun j hj => by have := h (j + 1) (by omega); simpa using this) (by simpa using h2) (by simpa using h3)
        simp only [less, order, if_true, List.drop_succ_cons]
        exact this
theorem drop_cons {xs : List Int} {k : Nat} {x : Int} (h : xs[k]? = some x) : ∃ t, xs.drop k = x :: t := ⟨_, by rw [List.drop_eq_getElem_cons (List.getElem?_eq_some_iff.1 h).1, (List.getElem?_eq_some_iff.1 h).2]⟩

set_option maxRecDepth 100000 in
set_option maxHeartbeats 1600000 in
theorem l1Less_any (a b : Option Addr) (n c m d : Nat) (xs ys : List Int) (w : World) (hr : RI w a xs) (hs : RI w b ys) (hn : xs.length = n) (hm : ys.length = m) (hb : n ≤ 17592186044416) (hb2 : m ≤ 17592186044416) :
    Calls Try.prog 73 #[.slice a n c, .slice b m d] w fun e w' => e = .returned (.bool (less xs ys)) ∧ Drew w w' := by
  have Hn := Lib.hid hn; clear hn
  have Hm := Lib.hid hm; clear hm
  go_enter Try.func73, Try.ntmps73
  go_wp2
  go_loopw [5] (fun i wr => ∃ k : Nat, k ≤ n ∧ k ≤ m ∧ i = .int .i64 k ∧ Hid (∀ j, j < k → xs[j]? = ys[j]?) ∧ Drew w wr) (fun i _ => n - (intOf i).toNat)
  case atStart => exact ⟨0, Nat.zero_le _, Nat.zero_le _, rfl, by intro j hj; omega, Drew.refl _⟩
  case round =>
    obtain ⟨k, hk, hk2, rfl, HA, hd⟩ := hrel
    have Hdrop := Lib.hid (less_drop HA.out (by rw [Hn.out]; exact hk) (by rw [Hm.out]; exact hk2)).1
    by_cases h1 : k < n
    · by_cases h2 : k < m
      · obtain ⟨b1, off, rfl, hcell⟩ := (hr.drew hd).at (k := k) (by rw [Hn.out]; exact h1)
        obtain ⟨b2, off2, rfl, hcell2⟩ := (hs.drew hd).at (k := k) (by rw [Hm.out]; exact h2)
        obtain ⟨x, hx⟩ := some_at Hn.out h1
        obtain ⟨y, hy⟩ := some_at Hm.out h2
        have hc := hcell k x hx
        have hc2 := hcell2 k y hy
        have Hx := Lib.hid hx; clear hx
        have Hy := Lib.hid hy; clear hy
        clear hcell hcell2
        have q1 : (k : Int) < (n : Int) := by omega
        have q2 : (k : Int) < (m : Int) := by omega
        by_cases hxy : x = y
        · have e1 : (x != y) = false := by simp [hxy]
          go_wp2
          go_quiet (fail)
          go_wp2
          go_roundw
          case rel => exact ⟨k + 1, by omega, by omega, by go_num, by
            intro j hj
            rcases Nat.lt_or_ge j k with h | h
            · exact HA.out j h
            · obtain rfl : j = k := by omega
              rw [Hx.out, Hy.out, hxy], hd.trans (Drew.drewN _ _)⟩
          case measure => simp [intOf]; omega
        · have e1 : (x != y) = true := by simp [hxy]
          have Hres := Lib.hid (show less xs ys = decide (x < y) by
            rw [Hdrop.out]
            obtain ⟨t, ht⟩ := drop_cons Hx.out
            obtain ⟨u, hu⟩ := drop_cons Hy.out
            rw [ht, hu, less, if_neg hxy])
          go_wp2
          go_quiet (fail)
          go_wp2
          have hc' : (wr.drewN nq).cell? ⟨b1, off + k, none⟩ = some (.int .i64 x) := by simpa using hc
          have hc2' : (wr.drewN nq).cell? ⟨b2, off2 + k, none⟩ = some (.int .i64 y) := by simpa using hc2
          have hdd := hd.trans (Drew.drewN wr nq)
          obtain ⟨wd, hwd⟩ : ∃ wd, wr.drewN nq = wd := ⟨_, rfl⟩
          rw [hwd] at hc' hc2' hdd ⊢
          go_quiet (fail)
          go_wp2
          go_ret
          exact ⟨ret_bool Hres.out.symm, hdd.trans (Drew.drewN _ _)⟩
      · obtain rfl : k = m := by omega
        have Hres := Lib.hid (show less xs ys = false by
          rw [Hdrop.out]
          obtain ⟨x, hx⟩ := some_at Hn.out h1
          obtain ⟨t, ht⟩ := drop_cons hx
          rw [ht, List.drop_of_length_le (by rw [Hm.out]; exact Nat.le_refl _), less])
        have q1 : ¬ ((n : Int) < (k : Int)) := by omega
        go_wp2
        go_ret
        exact ⟨ret_bool (by rw [Hres.out] <;> simp <;> omega), hd⟩
    · obtain rfl : k = n := by omega
      have Hres := Lib.hid (show less xs ys = decide (k < m) by
        rw [Hdrop.out, List.drop_of_length_le (show xs.length ≤ k by rw [Hn.out]; exact Nat.le_refl _)]
        by_cases h2 : k < m
        · obtain ⟨y, hy⟩ := some_at Hm.out h2
          obtain ⟨t, ht⟩ := drop_cons hy
          rw [ht, less] <;> simp [h2]
        · rw [List.drop_of_length_le (by rw [Hm.out]; omega), less] <;> simp [h2])
      go_wp2
      go_ret
      exact ⟨ret_bool (by rw [Hres.out] <;> simp), hd⟩

def cmpInt (x y : Int) : Int := if x = y then 0 else if x < y then -1 else 1
set_option maxHeartbeats 800000 in
theorem cmpInt_any (x y : Int) (w : World) :
    Calls Try.prog 133 #[.int .i64 x, .int .i64 y] w fun e w' => e = .returned (.int .i64 (cmpInt x y)) ∧ w = w' := by
  have e1 : (x != x) = false := by simp
  have e2 : (y != y) = false := by simp
  by_cases h : x < y
  · have hc : cmpInt x y = -1 := by unfold cmpInt; rw [if_neg (by omega), if_pos h]
    have Hc := Lib.hid hc; clear hc
    go_enter Try.func133, Try.ntmps133
    go_wp2
    go_ret
    exact ⟨ret_int Hc.out.symm, rfl⟩
  · by_cases h2 : y < x
    · have hc : cmpInt x y = 1 := by unfold cmpInt; rw [if_neg (by omega), if_neg h]
      have Hc := Lib.hid hc; clear hc
      go_enter Try.func133, Try.ntmps133
      go_wp2
      go_ret
      exact ⟨ret_int Hc.out.symm, rfl⟩
    · have hc : cmpInt x y = 0 := by unfold cmpInt; rw [if_pos (by omega)]
      have Hc := Lib.hid hc; clear hc
      go_enter Try.func133, Try.ntmps133
      go_wp2
      go_ret
      exact ⟨ret_int Hc.out.symm, rfl⟩

set_option maxRecDepth 100000 in
set_option maxHeartbeats 1600000 in
theorem compare_any (a b : Option Addr) (n c m d : Nat) (xs ys : List Int) (w : World) (hr : RI w a xs) (hs : RI w b ys) (hn : xs.length = n) (hm : ys.length = m) (hb : n ≤ 17592186044416) (_hb2 : m ≤ 17592186044416) :
    Calls Try.prog 76 #[.slice a n c, .slice b m d] w fun e w' => e = .returned (.int .i64 (order xs ys)) ∧ w = w' := by
  have Hn := Lib.hid hn; clear hn
  have Hm := Lib.hid hm; clear hm
  go_enter Try.func76, Try.ntmps76
  go_wp2
  go_loop [11] (fun i => ∃ k : Nat, k ≤ n ∧ k ≤ m ∧ i = .int .i64 k ∧ Hid (∀ j, j < k → xs[j]? = ys[j]?)) (fun i => n - (intOf i).toNat)
  case atStart => exact ⟨0, Nat.zero_le _, Nat.zero_le _, rfl, by intro j hj; omega⟩
  case round =>
    obtain ⟨k, hk, hk2, rfl, HA⟩ := hrel
    have Hdrop := Lib.hid (less_drop HA.out (by rw [Hn.out]; exact hk) (by rw [Hm.out]; exact hk2)).2
    by_cases h1 : k < n
    · obtain ⟨b1, off, rfl, hcell⟩ := hr.at (k := k) (by rw [Hn.out]; exact h1)
      obtain ⟨x, hx⟩ := some_at Hn.out h1
      have hc := hcell k x hx
      have Hx := Lib.hid hx; clear hx hcell
      by_cases h2 : k < m
      · obtain ⟨b2, off2, rfl, hcell2⟩ := hs.at (k := k) (by rw [Hm.out]; exact h2)
        obtain ⟨y, hy⟩ := some_at Hm.out h2
        have hc2 := hcell2 k y hy
        have Hy := Lib.hid hy; clear hy
        clear hcell2
        have q2 : ¬ ((m : Int) ≤ (k : Int)) := by omega
        by_cases hxy : x = y
        · subst hxy
          have hz : cmpInt x x = 0 := by unfold cmpInt; rw [if_pos rfl]
          have Hz := Lib.hid hz; clear hz
          go_wp2_with fail
          refine (isInt (cmpInt_any x x _) Hz.out).mono ?_
          rintro e w1 ⟨rfl, rfl⟩
          go_wp2
          go_round
          case rel => exact ⟨k + 1, by omega, by omega, by go_num, by
            intro j hj
            rcases Nat.lt_or_ge j k with h | h
            · exact HA.out j h
            · obtain rfl : j = k := by omega
              rw [Hx.out, Hy.out]⟩
          case measure => simp [intOf]; omega
        · have Hres := Lib.hid (show order xs ys = cmpInt x y by
            rw [Hdrop.out]
            obtain ⟨t, ht⟩ := drop_cons Hx.out
            obtain ⟨u, hu⟩ := drop_cons Hy.out
            rw [ht, hu, order, if_neg hxy, cmpInt, if_neg hxy])
          have hnz : cmpInt x y ≠ 0 := by unfold cmpInt; rw [if_neg hxy]; split <;> omega
          obtain ⟨r, hr0⟩ : ∃ r, cmpInt x y = r := ⟨_, rfl⟩
          rw [hr0] at hnz
          have hnb : (r != 0) = true := by simp [hnz]
          have Hr := Lib.hid hr0; clear hr0
          go_wp2_with fail
          refine (isInt (cmpInt_any x y _) Hr.out).mono ?_
          rintro e w1 ⟨rfl, rfl⟩
          go_wp2
          go_ret
          exact ⟨ret_int (by rw [Hres.out, Hr.out]), rfl⟩
      · have Hres := Lib.hid (show order xs ys = 1 by
          rw [Hdrop.out]
          obtain ⟨t, ht⟩ := drop_cons Hx.out
          rw [ht, List.drop_of_length_le (by rw [Hm.out]; omega), order])
        have q2 : (m : Int) ≤ (k : Int) := by omega
        go_wp2
        go_ret
        exact ⟨ret_int Hres.out.symm, rfl⟩
    · obtain rfl : k = n := by omega
      by_cases h2 : k < m
      · have Hres := Lib.hid (show order xs ys = -1 by
          rw [Hdrop.out, List.drop_of_length_le (show xs.length ≤ k by rw [Hn.out]; exact Nat.le_refl _)]
          obtain ⟨y, hy⟩ := some_at Hm.out h2
          obtain ⟨t, ht⟩ := drop_cons hy
          rw [ht, order])
        go_wp2
        go_ret
        exact ⟨ret_int Hres.out.symm, rfl⟩
      · have Hres := Lib.hid (show order xs ys = 0 by
          rw [Hdrop.out, List.drop_of_length_le (show xs.length ≤ k by rw [Hn.out]; exact Nat.le_refl _), List.drop_of_length_le (by rw [Hm.out]; omega), order])
        go_wp2
        go_ret
        exact ⟨ret_int Hres.out.symm, rfl⟩
end Go.Proofs.Ytnjfbgdighaiiaa
