/-
  Ladder moves: bounds of what comes out.
-/
import Derived.Test.YtageojkepoejiaaLadI
namespace Go.Proofs.Ytageojkepoejiaa
open Go.RowKit

theorem ladders_each {n : Int} {xs d : List (Int × Int)} (h : d ∈ ladders n xs) : isDream n xs = true ∧ d.length = xs.length ∧ xs.length ≤ 15 := by
  unfold ladders at h
  split at h
  · rename_i hd
    exact ⟨hd, ((ladTo_good hd (Nat.le_refl _)).1 d (mem_ascD.1 h)).2, dream_short (dream_all hd).1.2 (dream_all hd).2⟩
  · cases h
theorem ladders_few (n : Int) (xs : List (Int × Int)) : (ladders n xs).length ≤ 15 := by
  unfold ladders
  split
  · rename_i hd
    have h1 := ascD_length (ladTo xs xs.length)
    have h2 := ladTo_len xs xs.length
    have h3 := dream_short (dream_all hd).1.2 (dream_all hd).2
    omega
  · exact Nat.zero_le _
theorem ladders_len (n : Int) (xs : List (Int × Int)) : (ladders n xs).length ≤ 1048576 := Nat.le_trans (ladders_few n xs) (by omega)
theorem sz_CC_bd {K : Nat} : ∀ {l : List (List (Int × Int))}, (∀ d ∈ l, d.length ≤ K) → sz_CC l ≤ l.length * (2 * K)
  | [], _ => Nat.zero_le _
  | d :: l, h => by
    have h1 := h d List.mem_cons_self
    have h2 := sz_CC_bd (l := l) (K := K) fun e he => h e (List.mem_cons_of_mem _ he)
    rw [sz_CC, List.length_cons, Nat.succ_mul]
    unfold sz_C
    omega
theorem ladders_sz (n : Int) (xs : List (Int × Int)) : sz_CC (ladders n xs) ≤ 1099511627776 := by
  have h1 := sz_CC_bd (K := 15) (l := ladders n xs) fun d hd => by have := ladders_each hd; omega
  have h2 := ladders_few n xs
  have h3 : (ladders n xs).length * (2 * 15) ≤ 15 * (2 * 15) := Nat.mul_le_mul_right _ h2
  omega
theorem ladders_short (n : Int) (xs : List (Int × Int)) : ShortCC (ladders n xs) := fun d hd => by
  have := ladders_each hd
  omega
end Go.Proofs.Ytageojkepoejiaa
