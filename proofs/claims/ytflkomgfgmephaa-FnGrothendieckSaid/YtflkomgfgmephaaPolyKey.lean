/-
  Keys and exponents: l2Unit, l2At, l2Key, l2Exp.
-/
import Derived.Test.YtflkomgfgmephaaBuC
import Derived.Test.YtflkomgfgmephaaBuA
namespace Go.Proofs.Ytflkomgfgmephaa
open Go.RowKit

theorem seven {i : Nat} (h : i ≤ 6) : i = 0 ∨ i = 1 ∨ i = 2 ∨ i = 3 ∨ i = 4 ∨ i = 5 ∨ i = 6 := by omega
theorem and127 (x : Int) (h : 0 ≤ x ∧ x ≤ 9223372036854775807) : IntKind.i64.wrap (((BitVec.ofInt 64 x &&& BitVec.ofInt 64 127).toNat : Nat) : Int) = x % 128 := by
  have e : (BitVec.ofInt 64 x &&& BitVec.ofInt 64 127).toNat = x.toNat % 128 := by
    rw [BitVec.toNat_and]
    have h1 : (BitVec.ofInt 64 x).toNat = x.toNat := by
      rw [BitVec.toNat_ofInt]
      omega
    rw [h1]
    have : (BitVec.ofInt 64 127).toNat = 2 ^ 7 - 1 := by decide
    rw [this, Nat.and_two_pow_sub_one_eq_mod]
  rw [e, IntWalk.i64_in _ (by omega)]
  omega
theorem bits127 {x : Int} (h : 0 ≤ x ∧ x ≤ 9223372036854775807) : bits .and .i64 x 127 = x % 128 := by
  exact and127 x h
/-- a key out of a list of exponents -/
def keyL : List Int → Int
  | [] => 0
  | x :: r => x + 128 * keyL r
def Digs (xs : List Int) : Prop := ∀ x ∈ xs, isD x
theorem keyL_range {xs : List Int} (h : Digs xs) : 0 ≤ keyL xs ∧ keyL xs < 128 ^ xs.length := by
  induction xs with
  | nil => simp [keyL]
  | cons x r ih =>
    have h1 := h x List.mem_cons_self
    obtain ⟨h2, h3⟩ := ih fun y hy => h y (List.mem_cons_of_mem _ hy)
    rw [keyL, List.length_cons, Int.pow_succ]
    unfold isD at h1
    omega
theorem pow_le7 {n : Nat} (h : n ≤ 7) : (128 : Int) ^ n ≤ 562949953421312 := by
  have hc : n = 0 ∨ n = 1 ∨ n = 2 ∨ n = 3 ∨ n = 4 ∨ n = 5 ∨ n = 6 ∨ n = 7 := by omega
  rcases hc with rfl | rfl | rfl | rfl | rfl | rfl | rfl | rfl <;> decide
theorem keyL_small {xs : List Int} (h : Digs xs) (hl : xs.length ≤ 7) : inK (keyL xs) := by
  have h1 := keyL_range h
  have h2 := pow_le7 hl
  unfold inK
  omega
theorem keyL_drop {xs : List Int} {m : Nat} {x : Int} (hx : xs[m]? = some x) : keyL (xs.drop m) = x + 128 * keyL (xs.drop (m + 1)) := by
  rw [drop_at hx, keyL]
theorem Digs.drop {xs : List Int} (h : Digs xs) (m : Nat) : Digs (xs.drop m) := fun x hx => h x (List.mem_of_mem_drop hx)

def digs (k : Int) : List Int := (List.range 7).map fun i => dig k i
theorem digs_length (k : Int) : (digs k).length = 7 := by simp [digs]
theorem digs_at {k : Int} {i : Nat} (h : i < 7) : (digs k)[i]? = some (dig k i) := by simp [digs, h]
theorem digs_take_succ {k : Int} {i : Nat} (h : i < 7) : (digs k).take i ++ [dig k i] = (digs k).take (i + 1) := (take_at (digs_at h)).symm
theorem div_pow (k : Int) (i : Nat) : k / 128 ^ i / 128 = k / 128 ^ (i + 1) := by
  have hp : (0 : Int) < 128 ^ i := Int.pow_pos (by omega)
  rw [Int.pow_succ, Int.ediv_ediv, if_neg (by omega), Int.sub_zero]
theorem div_small {k : Int} (h : inK k) (i : Nat) : 0 ≤ k / 128 ^ i ∧ k / 128 ^ i < 562949953421312 := by
  unfold inK at h
  have hp : (0 : Int) < 128 ^ i := Int.pow_pos (by omega)
  exact ⟨Int.ediv_nonneg h.1 (by omega), Int.lt_of_le_of_lt (Int.ediv_le_self _ h.1) h.2⟩

end Go.Proofs.Ytflkomgfgmephaa
