/-
  Contract of FormatInt, the program's.
-/
import Derived.Test.YtnjfbgdighaiiaaBase
namespace Go.Proofs.Ytnjfbgdighaiiaa
open Go.RowKit

/-- the digits of a number, the greatest first -/
def digits : Nat → Nat → List Nat
  | 0, m => [m]
  | f + 1, m => if m < 10 then [m] else digits f (m / 10) ++ [m % 10]
theorem digits_small {m : Nat} (h : m < 10) (f : Nat) : digits f m = [m] := by
  cases f with
  | zero => rfl
  | succ f => rw [digits, if_pos h]
theorem digits_fuel : ∀ (f g m : Nat), m ≤ f → m ≤ g → digits f m = digits g m := by
  intro f
  induction f with
  | zero => intro g m h1 h2; rw [digits_small (by omega), digits_small (by omega)]
  | succ f ih =>
    intro g m h1 h2
    by_cases hm : m < 10
    · rw [digits_small hm, digits_small hm]
    · cases g with
      | zero => omega
      | succ g => rw [digits, if_neg hm, digits, if_neg hm, ih g (m / 10) (by omega) (by omega)]
theorem digits_big {m : Nat} (h : ¬ m < 10) : digits m m = digits (m / 10) (m / 10) ++ [m % 10] := by
  obtain ⟨f, rfl⟩ : ∃ f, m = f + 1 := ⟨m - 1, by omega⟩
  rw [digits, if_neg h, digits_fuel f ((f + 1) / 10) ((f + 1) / 10) (by omega) (Nat.le_refl _)]
def glyph (d : Nat) : UInt8 := UInt8.ofNat (48 + d)
def text (ds : List Nat) : ByteArray := ⟨(ds.map glyph).toArray⟩
def minus : ByteArray := ⟨#[45]⟩
def fmt (n : Int) : ByteArray := (if n < 0 then minus else ⟨#[]⟩) ++ text (digits n.natAbs n.natAbs)
theorem text_append (a b : List Nat) : text a ++ text b = text (a ++ b) := by
  apply ByteArray.ext
  simp [text, ByteArray.data_append]
theorem empty_append (s : ByteArray) : (⟨#[]⟩ : ByteArray) ++ s = s := by
  apply ByteArray.ext
  simp [ByteArray.data_append]
theorem append_assoc (a b c : ByteArray) : a ++ b ++ c = a ++ (b ++ c) := by
  apply ByteArray.ext
  simp [ByteArray.data_append]
theorem digits_len : ∀ (k f m : Nat), 0 < k → m < 10 ^ k → (digits f m).length ≤ k := by
  intro k
  induction k with
  | zero => intro f m h; omega
  | succ k ih =>
    intro f m _ h2
    cases f with
    | zero => simp [digits]
    | succ f =>
      rw [digits]
      split
      · simp
      · rename_i hm
        have hk : 0 < k := by
          rcases Nat.eq_zero_or_pos k with h | h
          · subst h; simp at h2; omega
          · exact h
        have h3 : m / 10 < 10 ^ k := by rw [Nat.pow_succ] at h2; omega
        have := ih f (m / 10) hk h3
        simp; omega
theorem text_size (ds : List Nat) : (text ds).size = ds.length := by simp [text, ByteArray.size]
theorem append_size (a b : ByteArray) : (a ++ b).size = a.size + b.size := by
  show (a ++ b).data.size = a.data.size + b.data.size
  rw [ByteArray.data_append, Array.size_append]
theorem fmt_size {n : Int} (h : -9223372036854775808 ≤ n ∧ n ≤ 9223372036854775807) : (fmt n).size ≤ 20 := by
  have h2 : n.natAbs ≤ 9223372036854775808 := by omega
  have h3 : (10 : Nat) ^ 19 = 10000000000000000000 := by rfl
  have h1 := digits_len 19 n.natAbs n.natAbs (by omega) (by omega)
  rw [fmt, append_size, text_size]
  split
  · have : minus.size = 1 := rfl
    omega
  · have : (⟨#[]⟩ : ByteArray).size = 0 := rfl
    omega
theorem encode_digit {d : Nat} (h : d < 10) : Utf8.encode (48 + (d : Int)) = text [d] := by
  have h1 : (List.range 10).all (fun d => decide (Utf8.encode (48 + (d : Int)) = text [d])) = true := by decide +kernel
  rw [List.all_eq_true] at h1
  exact of_decide_eq_true (h1 d (by rw [List.mem_range]; exact h))
theorem fmt_small {m : Nat} (h : m < 10) : fmt (m : Int) = text [m] := by
  have e : ¬ ((m : Int) < 0) := by omega
  rw [fmt, if_neg e, empty_append, Int.natAbs_natCast, digits_small h]
theorem fmt_nat (m : Nat) : fmt (m : Int) = text (digits m m) := by
  have e : ¬ ((m : Int) < 0) := by omega
  rw [fmt, if_neg e, empty_append, Int.natAbs_natCast]
theorem fmt_neg {m : Nat} (h : 0 < m) : fmt (-(m : Int)) = minus ++ text (digits m m) := by
  have e : (-(m : Int)) < 0 := by omega
  rw [fmt, if_pos e, Int.natAbs_neg, Int.natAbs_natCast]

set_option maxRecDepth 100000 in
set_option maxHeartbeats 1600000 in
theorem implFmt_digit (m : Nat) (h : m < 10) (w : World) :
    Calls Try.prog 88 #[.int .i64 (m : Int)] w fun e w' => e = .returned (.string (fmt (m : Int))) ∧ w = w' := by
  have h0 : (m : Int) < 10 := by omega
  have h1 : ¬ ((m : Int) < 0) := by omega
  have H := Lib.hid ((encode_digit h).trans (fmt_small h).symm)
  go_enter Try.func88, Try.ntmps88
  go_wp2
  go_ret
  exact ⟨by simp [← H.out], rfl⟩
theorem digit_at (M : Int) (m : Nat) (hM : M = (m : Int)) (h : m < 10) (w : World) :
    Calls Try.prog 88 #[.int .i64 M] w fun e w' => e = .returned (.string (fmt (m : Int))) ∧ w = w' := by subst hM; exact implFmt_digit m h w
set_option maxRecDepth 100000 in
set_option maxHeartbeats 1600000 in
theorem implFmt_nat : ∀ (B m : Nat) (w : World), m ≤ B → m ≤ 9223372036854775807 →
    Calls Try.prog 88 #[.int .i64 (m : Int)] w fun e w' => e = .returned (.string (fmt (m : Int))) ∧ w = w' := by
  intro B
  induction B with
  | zero => intro m w hB _; exact implFmt_digit m (by omega) w
  | succ B ih =>
    intro m w hB hu
    by_cases h : m < 10
    · exact implFmt_digit m h w
    · have h1 : ¬ ((m : Int) < 0) := by omega
      have H := Lib.hid (show fmt ((m / 10 : Nat) : Int) ++ Utf8.encode (48 + ((m % 10 : Nat) : Int)) = fmt (m : Int) by
        rw [encode_digit (by omega), fmt_nat, fmt_nat, text_append, ← digits_big h])
      obtain ⟨q, hq⟩ : ∃ q, fmt ((m / 10 : Nat) : Int) = q := ⟨_, rfl⟩
      have hih : ∀ N : Int, N = ((m / 10 : Nat) : Int) → Calls Try.prog 88 #[.int .i64 N] w fun e w' => e = .returned (.string q) ∧ w = w' := by
        intro N hN; subst hN; rw [← hq]; exact ih (m / 10) w (by omega) (by omega)
      have hqs : q.size ≤ 20 := by rw [← hq]; exact fmt_size (by omega)
      rw [hq] at H
      have HI := Lib.hid hih
      have h3 : (10 : Int) ≤ (m : Int) := by omega
      have h4 : (m : Int) ≤ 9223372036854775807 := by omega
      have em : ((m % 10 : Nat) : Int) = (m : Int) % 10 := by omega
      rw [em] at H
      have hes : (Utf8.encode (48 + (m : Int) % 10)).size = 1 := by rw [← em, encode_digit (by omega), text_size]; rfl
      clear ih hih hB hq em
      obtain ⟨n, hn⟩ : ∃ n : Int, (m : Int) = n := ⟨_, rfl⟩
      have Hn := Lib.hid hn
      rw [hn] at h1 h3 h4 hes H ⊢
      clear hn
      have hns : ¬ 9223372036854775807 < q.size + (Utf8.encode (48 + n % 10)).size := by omega
      clear hes
      go_enter Try.func88, Try.ntmps88
      go_wp2_with fail
      refine (HI.out (n / 10) (by rw [← Hn.out]; omega)).mono ?_
      rintro e w1 ⟨rfl, rfl⟩
      go_wp2
      go_ret
      exact ⟨by rw [← H.out]; rfl, rfl⟩
theorem implFmt_at (N : Int) (m : Nat) (hN : N = (m : Int)) (h : m ≤ 9223372036854775807) (w : World) :
    Calls Try.prog 88 #[.int .i64 N] w fun e w' => e = .returned (.string (fmt (m : Int))) ∧ w = w' := by subst hN; exact implFmt_nat m m w (Nat.le_refl _) h

set_option maxRecDepth 100000 in
set_option maxHeartbeats 1600000 in
theorem implFmt_neg : ∀ (B m : Nat) (w : World), m ≤ B → 0 < m → m ≤ 9223372036854775808 →
    Calls Try.prog 88 #[.int .i64 (-(m : Int))] w fun e w' => e = .returned (.string (fmt (-(m : Int)))) ∧ w = w' := by
  intro B
  induction B with
  | zero => intro m w hB h0 _; omega
  | succ B ih =>
    intro m w hB h0 hu
    by_cases h : m < 10
    · obtain ⟨q, hq⟩ : ∃ q, fmt (m : Int) = q := ⟨_, rfl⟩
      have H := Lib.hid (show minus ++ q = fmt (-(m : Int)) by rw [← hq, fmt_neg h0, fmt_nat])
      have hqs : q.size ≤ 20 := by rw [← hq]; exact fmt_size (by omega)
      have HI := Lib.hid (show ∀ N : Int, N = (m : Int) → Calls Try.prog 88 #[.int .i64 N] w fun e w' => e = .returned (.string q) ∧ w = w' by
        intro N hN; rw [← hq]; exact digit_at N m hN h w)
      have hns : ¬ 9223372036854775807 < (⟨#[45]⟩ : ByteArray).size + q.size := by have : (⟨#[45]⟩ : ByteArray).size = 1 := rfl; omega
      clear ih hB hq hqs
      obtain ⟨n, hn⟩ : ∃ n : Int, -(m : Int) = n := ⟨_, rfl⟩
      have Hn := Lib.hid hn
      have h1 : n < 0 := by omega
      have h2 : -10 < n := by omega
      rw [hn] at H ⊢
      clear hn
      go_enter Try.func88, Try.ntmps88
      go_wp2_with fail
      refine (HI.out _ (by have := Hn.out; omega)).mono ?_
      rintro e w1 ⟨rfl, rfl⟩
      go_wp2
      go_ret
      exact ⟨by rw [← H.out]; rfl, rfl⟩
    · obtain ⟨q, hq⟩ : ∃ q, fmt (-((m / 10 : Nat) : Int)) = q := ⟨_, rfl⟩
      obtain ⟨r, hrr⟩ : ∃ r, fmt ((m % 10 : Nat) : Int) = r := ⟨_, rfl⟩
      have H := Lib.hid (show q ++ r = fmt (-(m : Int)) by rw [← hq, ← hrr, fmt_neg h0, fmt_neg (by omega), fmt_small (by omega), append_assoc, text_append, ← digits_big h])
      have hqs : q.size ≤ 20 := by rw [← hq]; exact fmt_size (by omega)
      have hrs : r.size ≤ 20 := by rw [← hrr]; exact fmt_size (by omega)
      have HI := Lib.hid (show ∀ N : Int, N = -((m / 10 : Nat) : Int) → Calls Try.prog 88 #[.int .i64 N] w fun e w' => e = .returned (.string q) ∧ w = w' by
        intro N hN; subst hN; rw [← hq]; exact ih (m / 10) w (by omega) (by omega) (by omega))
      have HJ := Lib.hid (show ∀ N : Int, N = ((m % 10 : Nat) : Int) → Calls Try.prog 88 #[.int .i64 N] w fun e w' => e = .returned (.string r) ∧ w = w' by
        intro N hN; rw [← hrr]; exact digit_at N (m % 10) hN (by omega) w)
      have hns : ¬ 9223372036854775807 < q.size + r.size := by omega
      clear ih hB hq hrr hqs hrs
      have t1 : (-(m : Int)).tdiv 10 = -((m / 10 : Nat) : Int) := by rw [Int.neg_tdiv]; congr 1
      have t2 : -((-(m : Int)).tmod 10) = ((m % 10 : Nat) : Int) := by rw [Int.neg_tmod]; simp only [Int.neg_neg]; rfl
      obtain ⟨n, hn⟩ : ∃ n : Int, -(m : Int) = n := ⟨_, rfl⟩
      have h1 : n < 0 := by omega
      have h2 : ¬ (-10 < n) := by omega
      have h3 : -9223372036854775808 ≤ n := by omega
      rw [hn] at H t1 t2 ⊢
      have T1 := Lib.hid t1
      have T2 := Lib.hid t2
      clear hn t1 t2
      go_enter Try.func88, Try.ntmps88
      go_wp2_with fail
      refine (HI.out _ (by first | exact T1.out | (have := T1.out; omega))).mono ?_
      rintro e w1 ⟨rfl, rfl⟩
      go_wp2_with fail
      refine (HJ.out _ (by first | exact T2.out | (rw [IntWalk.wrap64_in _ (by have := T2.out; omega)]; exact T2.out))).mono ?_
      rintro e w2 ⟨rfl, rfl⟩
      go_wp2
      go_ret
      exact ⟨by rw [← H.out]; rfl, rfl⟩
theorem implFmt_any (n : Int) (hl : -9223372036854775808 ≤ n) (hu : n ≤ 9223372036854775807) (w : World) :
    Calls Try.prog 88 #[.int .i64 n] w fun e w' => e = .returned (.string (fmt n)) ∧ w = w' := by
  rcases (show n < 0 ∨ 0 ≤ n by omega) with h | h
  · obtain ⟨m, rfl⟩ : ∃ m : Nat, n = -(m : Int) := ⟨n.natAbs, by omega⟩
    exact implFmt_neg m m w (Nat.le_refl _) (by omega) (by omega)
  · obtain ⟨m, rfl⟩ : ∃ m : Nat, n = (m : Int) := ⟨n.toNat, by omega⟩
    exact implFmt_nat m m w (Nat.le_refl _) (by omega)
end Go.Proofs.Ytnjfbgdighaiiaa
