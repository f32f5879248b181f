/-
  Contract of l2Open.
  Contracts of l2Variable, l2Demazure, l2Isobaric.
-/
import Derived.Test.YtcminkcoifkbgaaGreatDoorPolyOpen
import Derived.Test.YtcminkcoifkbgaaGreatDoorBuE
import Derived.Test.YtcminkcoifkbgaaGreatDoorOperated
namespace Go.Proofs.YtcminkcoifkbgaaGreatDoor
open Go.RowKit

theorem mons_take {xs : List (List Int × Int)} {k : Nat} {s : List Int} {x : Int} (hx : xs[k]? = some (s, x)) : monsOf (xs.take k) ++ [(keyL s, x)] = monsOf (xs.take (k + 1)) := by
  unfold monsOf
  rw [take_at hx, List.map_append]
  rfl
end Go.Proofs.YtcminkcoifkbgaaGreatDoor

namespace Go.Proofs.YtcminkcoifkbgaaGreatDoor
open Go.RowKit

theorem uniq_le (l : List Int) : (uniq l).length ≤ l.length := by
  induction l with
  | nil => exact Nat.le_refl _
  | cons a l ih =>
    rw [uniq, List.length_cons, List.length_cons]
    have := List.length_filter_le (fun b => decide (b ≠ a)) (uniq l)
    omega
theorem canon_le (F : Mons) : (canon F).length ≤ F.length := by
  unfold canon keysOf
  rw [List.length_map, List.length_mergeSort]
  refine Nat.le_trans (List.length_filter_le _ _) (Nat.le_trans (uniq_le _) ?_)
  rw [List.length_map]
  exact Nat.le_refl _
theorem canon_64 (F : Mons) : ∀ p ∈ canon F, in64 p.2 := fun p hp => by
  have h := (canon_mem.1 hp).2
  rw [h]
  exact wrap_range _
theorem ddW_le (i : Nat) (p : Int × Int) : (ddW i p).length ≤ 127 := by
  unfold ddW ddKeys
  rw [List.length_map, List.length_map, List.length_range]
  have h1 := dig_isD p.1 i
  have h2 := dig_isD p.1 (i + 1)
  unfold isD at h1 h2
  omega
theorem dividedW_le (i : Nat) (F : Mons) : (dividedW i F).length ≤ F.length * 127 := by
  induction F with
  | nil => exact Nat.le_refl _
  | cons p F ih =>
    show (ddW i p ++ dividedW i F).length ≤ _
    have := ddW_le i p
    rw [List.length_append, List.length_cons]
    omega
theorem times_unit (i : Nat) (F : Mons) : timesM F [(unit i, 1)] = raisedM i F := by
  unfold timesM raisedM
  induction F with
  | nil => rfl
  | cons p F ih => rw [List.flatMap_cons, ih]; simp
theorem unit_in {i : Nat} (hi : i ≤ 6) : inK (unit i) := by
  unfold inK
  rcases seven hi with rfl | rfl | rfl | rfl | rfl | rfl | rfl <;> decide
theorem RM.one {w : World} {p q : Int} : RM (w.alloc (.cells #[.int .i64 p, .int .i64 q] 88)) (some ⟨w.heap.size, 0, none⟩) [(p, q)] := by
  refine .inr ⟨w.heap.size, 0, rfl, fun k x hx => ?_⟩
  have g0 := heap_alloc_new w (.cells #[.int .i64 p, .int .i64 q] 88)
  rcases k with _ | k
  · simp only [List.getElem?_cons_zero, Option.some.injEq] at hx
    subst hx
    exact ⟨by rw [cell_of_row _ _ 0 _ _ (0, 0) g0]; rfl, by rw [cell_of_row _ _ 1 _ _ (0, 0) g0]; rfl⟩
  · simp at hx
end Go.Proofs.YtcminkcoifkbgaaGreatDoor
