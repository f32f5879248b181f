/-
  Contracts of l1Less, slices.Compare and cmp.Compare: the order of lists of integers.
  The order of lists of numbers: plain.
  Contracts of byCells and l3Less: the order of cells; dreams.
  The order of dreams, cell by cell: plain.
-/
import Derived.Test.YtageojkepoejiaaBuP3
import Derived.Test.YtageojkepoejiaaBuP7
import Derived.Lib.QuietBelow
import Derived.BigQuiet
namespace Go.Proofs.Ytageojkepoejiaa
open Go.RowKit

/-- the order of lists: by the first place at which they differ, else by length -/
def less : List Int → List Int → Bool
  | [], [] => false
  | [], _ :: _ => true
  | _ :: _, [] => false
  | x :: xs, y :: ys => if x = y then less xs ys else decide (x < y)
/-- -1, 0, 1 -/
def order : List Int → List Int → Int
  | [], [] => 0
  | [], _ :: _ => -1
  | _ :: _, [] => 1
  | x :: xs, y :: ys => if x = y then order xs ys else if x < y then -1 else 1
theorem less_order (xs : List Int) : ∀ ys, less xs ys = decide (order xs ys < 0) := by
  induction xs with
  | nil => intro ys; cases ys <;> simp [less, order]
  | cons x xs ih =>
    intro ys
    cases ys with
    | nil => simp [less, order]
    | cons y ys =>
      by_cases h : x = y
      · subst h
        simp [less, order, ih ys]
      · by_cases h2 : x < y
        · simp [less, order, h, h2]
        · simp [less, order, h, h2]
/-- alike on the first k -/
theorem less_drop {xs ys : List Int} : ∀ {k : Nat}, (∀ j, j < k → xs[j]? = ys[j]?) → k ≤ xs.length → k ≤ ys.length → less xs ys = less (xs.drop k) (ys.drop k) ∧ order xs ys = order (xs.drop k) (ys.drop k) := by
  induction xs generalizing ys with
  | nil => intro k _ h2 _; obtain rfl : k = 0 := (by simpa using h2); exact ⟨rfl, rfl⟩
  | cons x xs ih =>
    intro k h h2 h3
    rcases k with _ | k
    · exact ⟨rfl, rfl⟩
    · cases ys with
      | nil => simp at h3
      | cons y ys =>
        have h0 := h 0 (by omega)
        obtain rfl : x = y := by simpa using h0
        have := ih (ys := ys) (k := k) (fun j hj => by have := h (j + 1) (by omega); simpa using this) (by simpa using h2) (by simpa using h3)
        simp only [less, order, if_true, List.drop_succ_cons]
        exact this
theorem drop_cons {xs : List Int} {k : Nat} {x : Int} (h : xs[k]? = some x) : ∃ t, xs.drop k = x :: t := ⟨_, by rw [List.drop_eq_getElem_cons (List.getElem?_eq_some_iff.1 h).1, (List.getElem?_eq_some_iff.1 h).2]⟩

set_option maxRecDepth 100000 in
set_option maxHeartbeats 1600000 in
theorem l1Less_any (a b : Option Addr) (n c m d : Nat) (xs ys : List Int) (w : World) (hr : RI w a xs) (hs : RI w b ys) (hn : xs.length = n) (hm : ys.length = m) (hb : n ≤ 17592186044416) (hb2 : m ≤ 17592186044416) :
    Calls Try.prog 83 #[.slice a n c, .slice b m d] w fun e w' => e = .returned (.bool (less xs ys)) ∧ Drew w w' := by
  have Hn := Lib.hid hn; clear hn
  have Hm := Lib.hid hm; clear hm
  go_enter Try.func83, Try.ntmps83
  go_wp2
  go_loopw [5] (fun i wr => ∃ k : Nat, k ≤ n ∧ k ≤ m ∧ i = .int .i64 k ∧ Hid (∀ j, j < k → xs[j]? = ys[j]?) ∧ Drew w wr) (fun i _ => n - (intOf i).toNat)
  case atStart => exact ⟨0, Nat.zero_le _, Nat.zero_le _, rfl, by intro j hj; omega, Drew.refl _⟩
  case round =>
    obtain ⟨k, hk, hk2, rfl, HA, hd⟩ := hrel
    have Hdrop := Lib.hid (less_drop HA.out (by rw [Hn.out]; exact hk) (by rw [Hm.out]; exact hk2)).1
    by_cases h1 : k < n
    · by_cases h2 : k < m
      · obtain ⟨b1, off, rfl, hcell⟩ := (hr.drew hd).at (k := k) (by rw [Hn.out]; exact h1)
        obtain ⟨b2, off2, rfl, hcell2⟩ := (hs.drew hd).at (k := k) (by rw [Hm.out]; exact h2)
        obtain ⟨x, hx⟩ := some_at Hn.out h1
        obtain ⟨y, hy⟩ := some_at Hm.out h2
        have hc := hcell k x hx
        have hc2 := hcell2 k y hy
        have Hx := Lib.hid hx; clear hx
        have Hy := Lib.hid hy; clear hy
        clear hcell hcell2
        have q1 : (k : Int) < (n : Int) := by omega
        have q2 : (k : Int) < (m : Int) := by omega
        by_cases hxy : x = y
        · have e1 : (x != y) = false := by simp [hxy]
          go_wp2
          go_quiet (fail)
          go_wp2
          go_roundw
          case rel => exact ⟨k + 1, by omega, by omega, by go_num, by
            intro j hj
            rcases Nat.lt_or_ge j k with h | h
            · exact HA.out j h
            · obtain rfl : j = k := by omega
              rw [Hx.out, Hy.out, hxy], hd.trans (Drew.drewN _ _)⟩
          case measure => simp [intOf]; omega
        · have e1 : (x != y) = true := by simp [hxy]
          have Hres := Lib.hid (show less xs ys = decide (x < y) by
            rw [Hdrop.out]
            obtain ⟨t, ht⟩ := drop_cons Hx.out
            obtain ⟨u, hu⟩ := drop_cons Hy.out
            rw [ht, hu, less, if_neg hxy])
          go_wp2
          go_quiet (fail)
          go_wp2
          have hc' : (wr.drewN nq).cell? ⟨b1, off + k, none⟩ = some (.int .i64 x) := by simpa using hc
          have hc2' : (wr.drewN nq).cell? ⟨b2, off2 + k, none⟩ = some (.int .i64 y) := by simpa using hc2
          have hdd := hd.trans (Drew.drewN wr nq)
          obtain ⟨wd, hwd⟩ : ∃ wd, wr.drewN nq = wd := ⟨_, rfl⟩
          rw [hwd] at hc' hc2' hdd ⊢
          go_quiet (fail)
          go_wp2
          go_ret
          exact ⟨ret_bool Hres.out.symm, hdd.trans (Drew.drewN _ _)⟩
      · obtain rfl : k = m := by omega
        have Hres := Lib.hid (show less xs ys = false by
          rw [Hdrop.out]
          obtain ⟨x, hx⟩ := some_at Hn.out h1
          obtain ⟨t, ht⟩ := drop_cons hx
          rw [ht, List.drop_of_length_le (by rw [Hm.out]; exact Nat.le_refl _), less])
        have q1 : ¬ ((n : Int) < (k : Int)) := by omega
        go_wp2
        go_ret
        exact ⟨ret_bool (by rw [Hres.out] <;> simp <;> omega), hd⟩
    · obtain rfl : k = n := by omega
      have Hres := Lib.hid (show less xs ys = decide (k < m) by
        rw [Hdrop.out, List.drop_of_length_le (show xs.length ≤ k by rw [Hn.out]; exact Nat.le_refl _)]
        by_cases h2 : k < m
        · obtain ⟨y, hy⟩ := some_at Hm.out h2
          obtain ⟨t, ht⟩ := drop_cons hy
          rw [ht, less] <;> simp [h2]
        · rw [List.drop_of_length_le (by rw [Hm.out]; omega), less] <;> simp [h2])
      go_wp2
      go_ret
      exact ⟨ret_bool (by rw [Hres.out] <;> simp), hd⟩

def cmpInt (x y : Int) : Int := if x = y then 0 else if x < y then -1 else 1
set_option maxHeartbeats 800000 in
theorem cmpInt_any (x y : Int) (w : World) :
    Calls Try.prog 89 #[.int .i64 x, .int .i64 y] w fun e w' => e = .returned (.int .i64 (cmpInt x y)) ∧ w = w' := by
  have e1 : (x != x) = false := by simp
  have e2 : (y != y) = false := by simp
  by_cases h : x < y
  · have hc : cmpInt x y = -1 := by unfold cmpInt; rw [if_neg (by omega), if_pos h]
    have Hc := Lib.hid hc; clear hc
    go_enter Try.func89, Try.ntmps89
    go_wp2
    go_ret
    exact ⟨ret_int Hc.out.symm, rfl⟩
  · by_cases h2 : y < x
    · have hc : cmpInt x y = 1 := by unfold cmpInt; rw [if_neg (by omega), if_neg h]
      have Hc := Lib.hid hc; clear hc
      go_enter Try.func89, Try.ntmps89
      go_wp2
      go_ret
      exact ⟨ret_int Hc.out.symm, rfl⟩
    · have hc : cmpInt x y = 0 := by unfold cmpInt; rw [if_pos (by omega)]
      have Hc := Lib.hid hc; clear hc
      go_enter Try.func89, Try.ntmps89
      go_wp2
      go_ret
      exact ⟨ret_int Hc.out.symm, rfl⟩

set_option maxRecDepth 100000 in
set_option maxHeartbeats 1600000 in
theorem compare_any (a b : Option Addr) (n c m d : Nat) (xs ys : List Int) (w : World) (hr : RI w a xs) (hs : RI w b ys) (hn : xs.length = n) (hm : ys.length = m) (hb : n ≤ 17592186044416) (_hb2 : m ≤ 17592186044416) :
    Calls Try.prog 43 #[.slice a n c, .slice b m d] w fun e w' => e = .returned (.int .i64 (order xs ys)) ∧ w = w' := by
  have Hn := Lib.hid hn; clear hn
  have Hm := Lib.hid hm; clear hm
  go_enter Try.func43, Try.ntmps43
  go_wp2
  go_loop [11] (fun i => ∃ k : Nat, k ≤ n ∧ k ≤ m ∧ i = .int .i64 k ∧ Hid (∀ j, j < k → xs[j]? = ys[j]?)) (fun i => n - (intOf i).toNat)
  case atStart => exact ⟨0, Nat.zero_le _, Nat.zero_le _, rfl, by intro j hj; omega⟩
  case round =>
    obtain ⟨k, hk, hk2, rfl, HA⟩ := hrel
    have Hdrop := Lib.hid (less_drop HA.out (by rw [Hn.out]; exact hk) (by rw [Hm.out]; exact hk2)).2
    by_cases h1 : k < n
    · obtain ⟨b1, off, rfl, hcell⟩ := hr.at (k := k) (by rw [Hn.out]; exact h1)
      obtain ⟨x, hx⟩ := some_at Hn.out h1
      have hc := hcell k x hx
      have Hx := Lib.hid hx; clear hx hcell
      by_cases h2 : k < m
      · obtain ⟨b2, off2, rfl, hcell2⟩ := hs.at (k := k) (by rw [Hm.out]; exact h2)
        obtain ⟨y, hy⟩ := some_at Hm.out h2
        have hc2 := hcell2 k y hy
        have Hy := Lib.hid hy; clear hy
        clear hcell2
        have q2 : ¬ ((m : Int) ≤ (k : Int)) := by omega
        by_cases hxy : x = y
        · subst hxy
          have hz : cmpInt x x = 0 := by unfold cmpInt; rw [if_pos rfl]
          have Hz := Lib.hid hz; clear hz
          go_wp2_with fail
          refine (isInt (cmpInt_any x x _) Hz.out).mono ?_
          rintro e w1 ⟨rfl, rfl⟩
          go_wp2
          go_round
          case rel => exact ⟨k + 1, by omega, by omega, by go_num, by
            intro j hj
            rcases Nat.lt_or_ge j k with h | h
            · exact HA.out j h
            · obtain rfl : j = k := by omega
              rw [Hx.out, Hy.out]⟩
          case measure => simp [intOf]; omega
        · have Hres := Lib.hid (show order xs ys = cmpInt x y by
            rw [Hdrop.out]
            obtain ⟨t, ht⟩ := drop_cons Hx.out
            obtain ⟨u, hu⟩ := drop_cons Hy.out
            rw [ht, hu, order, if_neg hxy, cmpInt, if_neg hxy])
          have hnz : cmpInt x y ≠ 0 := by unfold cmpInt; rw [if_neg hxy]; split <;> omega
          obtain ⟨r, hr0⟩ : ∃ r, cmpInt x y = r := ⟨_, rfl⟩
          rw [hr0] at hnz
          have hnb : (r != 0) = true := by simp [hnz]
          have Hr := Lib.hid hr0; clear hr0
          go_wp2_with fail
          refine (isInt (cmpInt_any x y _) Hr.out).mono ?_
          rintro e w1 ⟨rfl, rfl⟩
          go_wp2
          go_ret
          exact ⟨ret_int (by rw [Hres.out, Hr.out]), rfl⟩
      · have Hres := Lib.hid (show order xs ys = 1 by
          rw [Hdrop.out]
          obtain ⟨t, ht⟩ := drop_cons Hx.out
          rw [ht, List.drop_of_length_le (by rw [Hm.out]; omega), order])
        have q2 : (m : Int) ≤ (k : Int) := by omega
        go_wp2
        go_ret
        exact ⟨ret_int Hres.out.symm, rfl⟩
    · obtain rfl : k = n := by omega
      by_cases h2 : k < m
      · have Hres := Lib.hid (show order xs ys = -1 by
          rw [Hdrop.out, List.drop_of_length_le (show xs.length ≤ k by rw [Hn.out]; exact Nat.le_refl _)]
          obtain ⟨y, hy⟩ := some_at Hm.out h2
          obtain ⟨t, ht⟩ := drop_cons hy
          rw [ht, order])
        go_wp2
        go_ret
        exact ⟨ret_int Hres.out.symm, rfl⟩
      · have Hres := Lib.hid (show order xs ys = 0 by
          rw [Hdrop.out, List.drop_of_length_le (show xs.length ≤ k by rw [Hn.out]; exact Nat.le_refl _), List.drop_of_length_le (by rw [Hm.out]; omega), order])
        go_wp2
        go_ret
        exact ⟨ret_int Hres.out.symm, rfl⟩
end Go.Proofs.Ytageojkepoejiaa

namespace Go.Proofs.Ytageojkepoejiaa

theorem less_irrefl (a : List Int) : less a a = false := by
  induction a with
  | nil => rfl
  | cons x a ih => rw [less, if_pos rfl]; exact ih
theorem less_trans {a : List Int} : ∀ {b c : List Int}, less a b = true → less b c = true → less a c = true := by
  induction a with
  | nil =>
    intro b c h1 h2
    cases c with
    | nil => cases b <;> simp [less] at h2
    | cons z c => rfl
  | cons x a ih =>
    intro b c h1 h2
    cases b with
    | nil => simp [less] at h1
    | cons y b =>
      cases c with
      | nil => simp [less] at h2
      | cons z c =>
        rw [less] at h1 h2 ⊢
        split at h1
        · split at h2
          · rw [if_pos (by omega)]; exact ih h1 h2
          · rename_i e1 e2
            subst e1
            rw [if_neg e2]; exact h2
        · rename_i e1
          simp only [decide_eq_true_eq] at h1
          split at h2
          · rename_i e2
            subst e2
            rw [if_neg e1]; simpa using h1
          · simp only [decide_eq_true_eq] at h2
            rw [if_neg (by omega)]
            simp
            omega
theorem less_total {a : List Int} : ∀ {b : List Int}, less a b = false → less b a = false → a = b := by
  induction a with
  | nil =>
    intro b h1 h2
    cases b with
    | nil => rfl
    | cons y b => simp [less] at h1
  | cons x a ih =>
    intro b h1 h2
    cases b with
    | nil => simp [less] at h2
    | cons y b =>
      rw [less] at h1 h2
      split at h1
      · rename_i e
        subst e
        rw [if_pos rfl] at h2
        rw [ih h1 h2]
      · rename_i e
        rw [if_neg (fun h => e h.symm)] at h2
        simp at h1 h2
        omega
theorem less_neg {a b c : List Int} (h1 : less a b = false) (h2 : less b c = false) : less a c = false := by
  cases h : less a c with
  | false => rfl
  | true =>
    exfalso
    cases h3 : less b a with
    | true =>
      have := less_trans h3 h
      rw [this] at h2
      cases h2
    | false =>
      have := less_total h1 h3
      subst this
      rw [h] at h2
      cases h2
end Go.Proofs.Ytageojkepoejiaa

namespace Go.Proofs.Ytageojkepoejiaa
open Go.RowKit

def cellLess (p q : Int × Int) : Bool := decide (p.1 < q.1) || (decide (p.1 = q.1) && decide (p.2 < q.2))
def cellCmp (p q : Int × Int) : Int := if p.1 = q.1 then p.2 - q.2 else p.1 - q.1
theorem cellCmp_less (p q : Int × Int) : decide (cellCmp p q < 0) = cellLess p q := by
  unfold cellCmp cellLess
  by_cases h : p.1 = q.1
  · rw [if_pos h]
    by_cases h2 : p.2 < q.2 <;> simp [h, h2] <;> omega
  · rw [if_neg h]
    by_cases h2 : p.1 < q.1 <;> simp [h, h2] <;> omega

def Low (x : Int) : Prop := -1000 ≤ x ∧ x ≤ 1000
set_option maxRecDepth 100000 in
set_option maxHeartbeats 800000 in
theorem byCells_any (a b c d : Int) (w : World) (ha : Low a) (hb : Low b) (hc : Low c) (hd : Low d) :
    Calls Try.prog 54 #[.agg #[.int .i64 a, .int .i64 b], .agg #[.int .i64 c, .int .i64 d]] w fun e w' => e = .returned (.int .i64 (cellCmp (a, b) (c, d))) ∧ Below w.heap.size w w' := by
  obtain ⟨a1, a2⟩ := ha
  obtain ⟨b1, b2⟩ := hb
  obtain ⟨c1, c2⟩ := hc
  obtain ⟨d1, d2⟩ := hd
  have hB := Lib.hid (((Below.refl w.heap.size w).alloc (Nat.le_refl _) (.cells #[.int .i64 a, .int .i64 b] 60)).alloc (by simp only [World.alloc, Array.size_push]; omega) (.cells #[.int .i64 c, .int .i64 d] 60))
  by_cases h1 : a = c
  · have e1 : (a != c) = false := by simp [h1]
    have Hr := Lib.hid (show cellCmp (a, b) (c, d) = b - d by unfold cellCmp; rw [if_pos h1])
    clear h1
    go_enter Try.func54, Try.ntmps54
    go_wp2
    go_ret
    exact ⟨ret_int Hr.out.symm, hB.out⟩
  · have e1 : (a != c) = true := by simp [h1]
    have Hr := Lib.hid (show cellCmp (a, b) (c, d) = a - c by unfold cellCmp; rw [if_neg h1])
    clear h1
    go_enter Try.func54, Try.ntmps54
    go_wp2
    go_ret
    exact ⟨ret_int Hr.out.symm, hB.out⟩
set_option maxRecDepth 100000 in
set_option maxHeartbeats 800000 in
theorem l3Less_any (a b c d : Int) (w : World) :
    Calls Try.prog 90 #[.agg #[.int .i64 a, .int .i64 b], .agg #[.int .i64 c, .int .i64 d]] w fun e w' => e = .returned (.bool (cellLess (a, b) (c, d))) ∧ Below w.heap.size w w' := by
  have hB := Lib.hid (((Below.refl w.heap.size w).alloc (Nat.le_refl _) (.cells #[.int .i64 a, .int .i64 b] 60)).alloc (by simp only [World.alloc, Array.size_push]; omega) (.cells #[.int .i64 c, .int .i64 d] 60))
  by_cases h0 : a < c
  · have Hr := Lib.hid (show cellLess (a, b) (c, d) = true by simp [cellLess, h0])
    go_enter Try.func90, Try.ntmps90
    go_wp2
    go_ret
    exact ⟨ret_bool Hr.out.symm, hB.out⟩
  · by_cases h1 : a = c
    · have e1 : (a == c) = true := by simp [h1]
      have Hr := Lib.hid (show cellLess (a, b) (c, d) = decide (b < d) by simp [cellLess, h1])
      have h0' : decide (a < c) = false := by simp; omega
      clear h1 h0
      go_enter Try.func90, Try.ntmps90
      go_wp2
      go_ret
      exact ⟨ret_bool Hr.out.symm, hB.out⟩
    · have e1 : (a == c) = false := by simp [h1]
      have Hr := Lib.hid (show cellLess (a, b) (c, d) = false by simp [cellLess, h1, h0])
      have h0' : decide (a < c) = false := by simp; omega
      clear h1 h0
      go_enter Try.func90, Try.ntmps90
      go_wp2
      go_ret
      exact ⟨ret_bool Hr.out.symm, hB.out⟩

def cellOf (xs : List (Int × Int)) (k : Nat) : Int × Int := xs.getD k (0, 0)
theorem cellOf_at {xs : List (Int × Int)} {k : Nat} {p : Int × Int} (h : xs[k]? = some p) : cellOf xs k = p := by simp [cellOf, h]
def inStair (n : Int) (p : Int × Int) : Bool := decide (0 ≤ p.1 ∧ p.1 ≤ n - 2) && decide (0 ≤ p.2 ∧ p.2 ≤ n - 2 - p.1)
def dreamAt (n : Int) (xs : List (Int × Int)) (k : Nat) : Bool := inStair n (cellOf xs k) && (k == 0 || cellLess (cellOf xs (k - 1)) (cellOf xs k))
def isDream (n : Int) (xs : List (Int × Int)) : Bool := decide (1 ≤ n ∧ n ≤ 6) && (List.range xs.length).all (dreamAt n xs)
theorem isDream_size {n : Int} {xs : List (Int × Int)} (h : ¬ (1 ≤ n ∧ n ≤ 6)) : isDream n xs = false := by
  unfold isDream; rw [Bool.and_eq_false_iff]; left; exact decide_eq_false h
theorem isDream_false {n : Int} {xs : List (Int × Int)} {k : Nat} (hk : k < xs.length) (h : dreamAt n xs k = false) : isDream n xs = false := by
  unfold isDream; rw [Bool.and_eq_false_iff]; right; rw [List.all_eq_false]; exact ⟨k, by simpa using hk, by simp [h]⟩
theorem isDream_true {n : Int} {xs : List (Int × Int)} (hn : 1 ≤ n ∧ n ≤ 6) (h : ∀ j, j < xs.length → dreamAt n xs j = true) : isDream n xs = true := by
  unfold isDream; rw [Bool.and_eq_true, List.all_eq_true]; exact ⟨decide_eq_true hn, fun j hj => h j (by simpa using hj)⟩
theorem dream_next {n : Int} {xs : List (Int × Int)} {k : Nat} (h : ∀ j, j < k → dreamAt n xs j = true) (h1 : dreamAt n xs k = true) : ∀ j, j < k + 1 → dreamAt n xs j = true := by
  intro j hj
  rcases Nat.lt_or_ge j k with h2 | h2
  · exact h j h2
  · obtain rfl : j = k := by omega
    exact h1
theorem dreamAt_out {n : Int} {xs : List (Int × Int)} {k : Nat} {p : Int × Int} (h : xs[k]? = some p) (h1 : inStair n p = false) : dreamAt n xs k = false := by simp [dreamAt, cellOf_at h, h1]
theorem dreamAt_rise {n : Int} {xs : List (Int × Int)} {k : Nat} {p q : Int × Int} (h : xs[k]? = some p) (hq : xs[k - 1]? = some q) (h0 : k ≠ 0) (h1 : cellLess q p = false) : dreamAt n xs k = false := by
  simp [dreamAt, cellOf_at h, cellOf_at hq, h1, h0]
theorem dreamAt_first {n : Int} {xs : List (Int × Int)} {p : Int × Int} (h : xs[0]? = some p) (h1 : inStair n p = true) : dreamAt n xs 0 = true := by simp [dreamAt, cellOf_at h, h1]
theorem dreamAt_next {n : Int} {xs : List (Int × Int)} {k : Nat} {p q : Int × Int} (h : xs[k]? = some p) (hq : xs[k - 1]? = some q) (h1 : inStair n p = true) (h2 : cellLess q p = true) : dreamAt n xs k = true := by
  simp [dreamAt, cellOf_at h, cellOf_at hq, h1, h2]
/-- how many places stand before a cell -/
def place (p : Int × Int) : Int := if p.1 = 0 then p.2 else if p.1 = 1 then 5 + p.2 else if p.1 = 2 then 9 + p.2 else if p.1 = 3 then 12 + p.2 else 14 + p.2
theorem place_lt {n : Int} {p : Int × Int} (hn : n ≤ 6) (h : inStair n p = true) : place p < 15 := by
  unfold inStair at h
  simp only [Bool.and_eq_true, decide_eq_true_eq] at h
  unfold place
  split <;> (try split) <;> (try split) <;> (try split) <;> omega
theorem place_less {n : Int} {p q : Int × Int} (hn : n ≤ 6) (h : inStair n p = true) (k : inStair n q = true) (hl : cellLess q p = true) : place q < place p := by
  unfold inStair at h k
  unfold cellLess at hl
  simp only [Bool.and_eq_true, Bool.or_eq_true, decide_eq_true_eq] at h k hl
  unfold place
  split <;> split <;> (try split) <;> (try split) <;> (try split) <;> (try split) <;> (try split) <;> (try split) <;> omega
theorem dream_place {n : Int} {xs : List (Int × Int)} (hn : n ≤ 6) : ∀ k : Nat, (∀ j, j < k + 1 → dreamAt n xs j = true) → (k : Int) ≤ place (cellOf xs k) := by
  intro k
  induction k with
  | zero =>
    intro h
    have := h 0 (by omega)
    unfold dreamAt at this
    simp only [Bool.and_eq_true] at this
    have h1 := this.1
    unfold inStair at h1
    simp only [Bool.and_eq_true, decide_eq_true_eq] at h1
    unfold place
    split <;> (try split) <;> (try split) <;> (try split) <;> omega
  | succ k ih =>
    intro h
    have h1 := ih (fun j hj => h j (by omega))
    have a := h (k + 1) (by omega)
    have b := h k (by omega)
    unfold dreamAt at a b
    simp only [Bool.and_eq_true, Bool.or_eq_true, beq_iff_eq] at a b
    rcases a.2 with h2 | h2
    · omega
    · have := place_less hn a.1 b.1 h2
      omega
theorem dream_short {n : Int} {xs : List (Int × Int)} (hn : n ≤ 6) (h : ∀ j, j < xs.length → dreamAt n xs j = true) : xs.length ≤ 15 := by
  rcases Nat.eq_zero_or_pos xs.length with h0 | h0
  · omega
  · have h1 := dream_place (xs := xs) hn (xs.length - 1) (fun j hj => h j (by omega))
    have h2 := h (xs.length - 1) (by omega)
    unfold dreamAt at h2
    simp only [Bool.and_eq_true] at h2
    have := place_lt hn h2.1
    omega
theorem isDream_long {n : Int} {xs : List (Int × Int)} (h : 15 < xs.length) : isDream n xs = false := by
  cases hd : isDream n xs with
  | false => rfl
  | true =>
    unfold isDream at hd
    rw [Bool.and_eq_true, List.all_eq_true] at hd
    have h1 : 1 ≤ n ∧ n ≤ 6 := of_decide_eq_true hd.1
    have := dream_short (xs := xs) h1.2 (fun j hj => hd.2 j (by simpa using hj))
    omega
end Go.Proofs.Ytageojkepoejiaa

namespace Go.Proofs.Ytageojkepoejiaa

def fl : List (Int × Int) → List Int
  | [] => []
  | p :: l => p.1 :: p.2 :: fl l
theorem fl_inj : ∀ {a b : List (Int × Int)}, fl a = fl b → a = b
  | [], [], _ => rfl
  | [], _ :: _, h => by simp [fl] at h
  | _ :: _, [], h => by simp [fl] at h
  | p :: a, q :: b, h => by
    simp only [fl, List.cons.injEq] at h
    rw [Prod.ext h.1 h.2.1, fl_inj h.2.2]
def lessD : List (Int × Int) → List (Int × Int) → Bool
  | [], [] => false
  | [], _ :: _ => true
  | _ :: _, [] => false
  | p :: ps, q :: qs => if p = q then lessD ps qs else cellLess p q
theorem lessD_fl : ∀ a b : List (Int × Int), lessD a b = less (fl a) (fl b)
  | [], [] => rfl
  | [], _ :: _ => rfl
  | _ :: _, [] => rfl
  | p :: a, q :: b => by
    rw [lessD, fl, fl, less, less, lessD_fl a b]
    by_cases h : p = q
    · rw [if_pos h, if_pos (by rw [h]), if_pos (by rw [h])]
    · rw [if_neg h]
      unfold cellLess
      by_cases h1 : p.1 = q.1
      · have h2 : ¬ p.2 = q.2 := fun e => h (Prod.ext h1 e)
        rw [if_pos h1, if_neg h2]
        simp [h1]
      · rw [if_neg h1]
        simp [h1]
theorem lessD_irrefl (a : List (Int × Int)) : lessD a a = false := by rw [lessD_fl]; exact less_irrefl _
theorem lessD_trans {a b c : List (Int × Int)} (h : lessD a b = true) (k : lessD b c = true) : lessD a c = true := by
  rw [lessD_fl] at *
  exact less_trans h k
theorem lessD_total {a b : List (Int × Int)} (h : lessD a b = false) (k : lessD b a = false) : a = b := by
  rw [lessD_fl] at *
  exact fl_inj (less_total h k)
theorem lessD_neg {a b c : List (Int × Int)} (h : lessD a b = false) (k : lessD b c = false) : lessD a c = false := by
  rw [lessD_fl] at *
  exact less_neg h k
/-- the program's comparison -/
def cmpD : List (Int × Int) → List (Int × Int) → Int
  | [], [] => 0
  | [], _ :: _ => -1
  | _ :: _, [] => 1
  | p :: ps, q :: qs => if cellCmp p q = 0 then cmpD ps qs else cellCmp p q
theorem cellCmp_zero {p q : Int × Int} : cellCmp p q = 0 ↔ p = q := by
  unfold cellCmp
  constructor
  · intro h
    split at h
    · exact Prod.ext (by assumption) (by omega)
    · omega
  · rintro rfl
    simp
theorem cmpD_less : ∀ a b : List (Int × Int), decide (cmpD a b < 0) = lessD a b
  | [], [] => rfl
  | [], _ :: _ => rfl
  | _ :: _, [] => rfl
  | p :: a, q :: b => by
    rw [cmpD, lessD]
    by_cases h : p = q
    · rw [if_pos (cellCmp_zero.2 h), if_pos h]
      exact cmpD_less a b
    · rw [if_neg (fun e => h (cellCmp_zero.1 e)), if_neg h]
      exact cellCmp_less p q
end Go.Proofs.Ytageojkepoejiaa
