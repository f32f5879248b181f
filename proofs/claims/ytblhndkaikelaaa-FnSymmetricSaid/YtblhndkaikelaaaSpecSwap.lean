/-
  Contracts of l2Swapped, l2Swap, SwapVariables of the reference.
-/
import Derived.Test.YtblhndkaikelaaaSpecOf
namespace Go.Proofs.Ytblhndkaikelaaa
open Go.RowKit

theorem mul_bnd {x u : Int} (hx : -127 ≤ x ∧ x ≤ 127) (hu : 0 ≤ u ∧ u ≤ 4398046511104) : -558551906910208 ≤ x * u ∧ x * u ≤ 558551906910208 := by
  have h1 : x * u ≤ 127 * u := Int.mul_le_mul_of_nonneg_right hx.2 hu.1
  have h2 : -127 * u ≤ x * u := Int.mul_le_mul_of_nonneg_right hx.1 hu.1
  omega
theorem unit_top {i : Nat} (hi : i ≤ 6) : 0 ≤ unit i ∧ unit i ≤ 4398046511104 := by
  rcases seven hi with rfl | rfl | rfl | rfl | rfl | rfl | rfl <;> decide
theorem swapM_take {i : Nat} {xs : Mons} {k : Nat} {p : Int × Int} (hx : xs[k]? = some p) : swapM i (xs.take k) ++ [(swapK i p.1, p.2)] = swapM i (xs.take (k + 1)) := by
  unfold swapM
  rw [take_at hx, List.map_append]
  rfl
end Go.Proofs.Ytblhndkaikelaaa
