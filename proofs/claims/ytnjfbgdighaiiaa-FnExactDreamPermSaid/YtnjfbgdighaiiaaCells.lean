/-
  Contracts of byCells and l3Less: the order of cells; dreams.
-/
import Derived.Test.YtnjfbgdighaiiaaKC3
import Derived.Test.YtnjfbgdighaiiaaL1In
import Derived.Lib.QuietBelow
import Derived.BigQuiet
namespace Go.Proofs.Ytnjfbgdighaiiaa
open Go.RowKit

def cellLess (p q : Int × Int) : Bool := decide (p.1 < q.1) || (decide (p.1 = q.1) && decide (p.2 < q.2))
def cellCmp (p q : Int × Int) : Int := if p.1 = q.1 then p.2 - q.2 else p.1 - q.1
theorem cellCmp_less (p q : Int × Int) : decide (cellCmp p q < 0) = cellLess p q := by
  unfold cellCmp cellLess
  by_cases h : p.1 = q.1
  · rw [if_pos h]
    by_cases h2 : p.2 < q.2 <;> simp [h, h2] <;> omega
  · rw [if_neg h]
    by_cases h2 : p.1 < q.1 <;> simp [h, h2] <;> omega

def Low (x : Int) : Prop := -1000 ≤ x ∧ x ≤ 1000
set_option maxRecDepth 100000 in
set_option maxHeartbeats 800000 in
theorem byCells_any (a b c d : Int) (w : World) (ha : Low a) (hb : Low b) (hc : Low c) (hd : Low d) :
    Calls Try.prog 98 #[.agg #[.int .i64 a, .int .i64 b], .agg #[.int .i64 c, .int .i64 d]] w fun e w' => e = .returned (.int .i64 (cellCmp (a, b) (c, d))) ∧ Below w.heap.size w w' := by
  obtain ⟨a1, a2⟩ := ha
  obtain ⟨b1, b2⟩ := hb
  obtain ⟨c1, c2⟩ := hc
  obtain ⟨d1, d2⟩ := hd
  have hB := Lib.hid (((Below.refl w.heap.size w).alloc (Nat.le_refl _) (.cells #[.int .i64 a, .int .i64 b] 44)).alloc (by simp only [World.alloc, Array.size_push]; omega) (.cells #[.int .i64 c, .int .i64 d] 44))
  by_cases h1 : a = c
  · have e1 : (a != c) = false := by simp [h1]
    have Hr := Lib.hid (show cellCmp (a, b) (c, d) = b - d by unfold cellCmp; rw [if_pos h1])
    clear h1
    go_enter Try.func98, Try.ntmps98
    go_wp2
    go_ret
    exact ⟨ret_int Hr.out.symm, hB.out⟩
  · have e1 : (a != c) = true := by simp [h1]
    have Hr := Lib.hid (show cellCmp (a, b) (c, d) = a - c by unfold cellCmp; rw [if_neg h1])
    clear h1
    go_enter Try.func98, Try.ntmps98
    go_wp2
    go_ret
    exact ⟨ret_int Hr.out.symm, hB.out⟩
set_option maxRecDepth 100000 in
set_option maxHeartbeats 800000 in
theorem l3Less_any (a b c d : Int) (w : World) :
    Calls Try.prog 141 #[.agg #[.int .i64 a, .int .i64 b], .agg #[.int .i64 c, .int .i64 d]] w fun e w' => e = .returned (.bool (cellLess (a, b) (c, d))) ∧ Below w.heap.size w w' := by
  have hB := Lib.hid (((Below.refl w.heap.size w).alloc (Nat.le_refl _) (.cells #[.int .i64 a, .int .i64 b] 44)).alloc (by simp only [World.alloc, Array.size_push]; omega) (.cells #[.int .i64 c, .int .i64 d] 44))
  by_cases h0 : a < c
  · have Hr := Lib.hid (show cellLess (a, b) (c, d) = true by simp [cellLess, h0])
    go_enter Try.func141, Try.ntmps141
    go_wp2
    go_ret
    exact ⟨ret_bool Hr.out.symm, hB.out⟩
  · by_cases h1 : a = c
    · have e1 : (a == c) = true := by simp [h1]
      have Hr := Lib.hid (show cellLess (a, b) (c, d) = decide (b < d) by simp [cellLess, h1])
      have h0' : decide (a < c) = false := by simp; omega
      clear h1 h0
      go_enter Try.func141, Try.ntmps141
      go_wp2
      go_ret
      exact ⟨ret_bool Hr.out.symm, hB.out⟩
    · have e1 : (a == c) = false := by simp [h1]
      have Hr := Lib.hid (show cellLess (a, b) (c, d) = false by simp [cellLess, h1, h0])
      have h0' : decide (a < c) = false := by simp; omega
      clear h1 h0
      go_enter Try.func141, Try.ntmps141
      go_wp2
      go_ret
      exact ⟨ret_bool Hr.out.symm, hB.out⟩

def cellOf (xs : List (Int × Int)) (k : Nat) : Int × Int := xs.getD k (0, 0)
theorem cellOf_at {xs : List (Int × Int)} {k : Nat} {p : Int × Int} (h : xs[k]? = some p) : cellOf xs k = p := by simp [cellOf, h]
def inStair (n : Int) (p : Int × Int) : Bool := decide (0 ≤ p.1 ∧ p.1 ≤ n - 2) && decide (0 ≤ p.2 ∧ p.2 ≤ n - 2 - p.1)
def dreamAt (n : Int) (xs : List (Int × Int)) (k : Nat) : Bool := inStair n (cellOf xs k) && (k == 0 || cellLess (cellOf xs (k - 1)) (cellOf xs k))
def isDream (n : Int) (xs : List (Int × Int)) : Bool := decide (1 ≤ n ∧ n ≤ 6) && (List.range xs.length).all (dreamAt n xs)
theorem isDream_size {n : Int} {xs : List (Int × Int)} (h : ¬ (1 ≤ n ∧ n ≤ 6)) : isDream n xs = false := by
  unfold isDream; rw [Bool.and_eq_false_iff]; left; exact decide_eq_false h
theorem isDream_false {n : Int} {xs : List (Int × Int)} {k : Nat} (hk : k < xs.length) (h : dreamAt n xs k = false) : isDream n xs = false := by
  unfold isDream; rw [Bool.and_eq_false_iff]; right; rw [List.all_eq_false]; exact ⟨k, by simpa using hk, by simp [h]⟩
theorem isDream_true {n : Int} {xs : List (Int × Int)} (hn : 1 ≤ n ∧ n ≤ 6) (h : ∀ j, j < xs.length → dreamAt n xs j = true) : isDream n xs = true := by
  unfold isDream; rw [Bool.and_eq_true, List.all_eq_true]; exact ⟨decide_eq_true hn, fun j hj => h j (by simpa using hj)⟩
theorem dream_next {n : Int} {xs : List (Int × Int)} {k : Nat} (h : ∀ j, j < k → dreamAt n xs j = true) (h1 : dreamAt n xs k = true) : ∀ j, j < k + 1 → dreamAt n xs j = true := by
  intro j hj
  rcases Nat.lt_or_ge j k with h2 | h2
  · exact h j h2
  · obtain rfl : j = k := by omega
    exact h1
theorem dreamAt_out {n : Int} {xs : List (Int × Int)} {k : Nat} {p : Int × Int} (h : xs[k]? = some p) (h1 : inStair n p = false) : dreamAt n xs k = false := by simp [dreamAt, cellOf_at h, h1]
theorem dreamAt_rise {n : Int} {xs : List (Int × Int)} {k : Nat} {p q : Int × Int} (h : xs[k]? = some p) (hq : xs[k - 1]? = some q) (h0 : k ≠ 0) (h1 : cellLess q p = false) : dreamAt n xs k = false := by
  simp [dreamAt, cellOf_at h, cellOf_at hq, h1, h0]
theorem dreamAt_first {n : Int} {xs : List (Int × Int)} {p : Int × Int} (h : xs[0]? = some p) (h1 : inStair n p = true) : dreamAt n xs 0 = true := by simp [dreamAt, cellOf_at h, h1]
theorem dreamAt_next {n : Int} {xs : List (Int × Int)} {k : Nat} {p q : Int × Int} (h : xs[k]? = some p) (hq : xs[k - 1]? = some q) (h1 : inStair n p = true) (h2 : cellLess q p = true) : dreamAt n xs k = true := by
  simp [dreamAt, cellOf_at h, cellOf_at hq, h1, h2]
/-- how many places stand before a cell -/
def place (p : Int × Int) : Int := if p.1 = 0 then p.2 else if p.1 = 1 then 5 + p.2 else if p.1 = 2 then 9 + p.2 else if p.1 = 3 then 12 + p.2 else 14 + p.2
theorem place_lt {n : Int} {p : Int × Int} (hn : n ≤ 6) (h : inStair n p = true) : place p < 15 := by
  unfold inStair at h
  simp only [Bool.and_eq_true, decide_eq_true_eq] at h
  unfold place
  split <;> (try split) <;> (try split) <;> (try split) <;> omega
theorem place_less {n : Int} {p q : Int × Int} (hn : n ≤ 6) (h : inStair n p = true) (k : inStair n q = true) (hl : cellLess q p = true) : place q < place p := by
  unfold inStair at h k
  unfold cellLess at hl
  simp only [Bool.and_eq_true, Bool.or_eq_true, decide_eq_true_eq] at h k hl
  unfold place
  split <;> split <;> (try split) <;> (try split) <;> (try split) <;> (try split) <;> (try split) <;> (try split) <;> omega
theorem dream_place {n : Int} {xs : List (Int × Int)} (hn : n ≤ 6) : ∀ k : Nat, (∀ j, j < k + 1 → dreamAt n xs j = true) → (k : Int) ≤ place (cellOf xs k) := by
  intro k
  induction k with
  | zero =>
    intro h
    have := h 0 (by omega)
    unfold dreamAt at this
    simp only [Bool.and_eq_true] at this
    have h1 := this.1
    unfold inStair at h1
    simp only [Bool.and_eq_true, decide_eq_true_eq] at h1
    unfold place
    split <;> (try split) <;> (try split) <;> (try split) <;> omega
  | succ k ih =>
    intro h
    have h1 := ih (fun j hj => h j (by omega))
    have a := h (k + 1) (by omega)
    have b := h k (by omega)
    unfold dreamAt at a b
    simp only [Bool.and_eq_true, Bool.or_eq_true, beq_iff_eq] at a b
    rcases a.2 with h2 | h2
    · omega
    · have := place_less hn a.1 b.1 h2
      omega
theorem dream_short {n : Int} {xs : List (Int × Int)} (hn : n ≤ 6) (h : ∀ j, j < xs.length → dreamAt n xs j = true) : xs.length ≤ 15 := by
  rcases Nat.eq_zero_or_pos xs.length with h0 | h0
  · omega
  · have h1 := dream_place (xs := xs) hn (xs.length - 1) (fun j hj => h j (by omega))
    have h2 := h (xs.length - 1) (by omega)
    unfold dreamAt at h2
    simp only [Bool.and_eq_true] at h2
    have := place_lt hn h2.1
    omega
theorem isDream_long {n : Int} {xs : List (Int × Int)} (h : 15 < xs.length) : isDream n xs = false := by
  cases hd : isDream n xs with
  | false => rfl
  | true =>
    unfold isDream at hd
    rw [Bool.and_eq_true, List.all_eq_true] at hd
    have h1 : 1 ≤ n ∧ n ≤ 6 := of_decide_eq_true hd.1
    have := dream_short (xs := xs) h1.2 (fun j hj => hd.2 j (by simpa using hj))
    omega
end Go.Proofs.Ytnjfbgdighaiiaa
