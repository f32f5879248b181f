/-
  Contracts of l2Variable, l2Demazure, l2Isobaric.
-/
import Derived.Test.YtblhndkaikelaaaMonTimes
import Derived.Test.YtblhndkaikelaaaOperated
namespace Go.Proofs.Ytblhndkaikelaaa
open Go.RowKit

theorem uniq_le (l : List Int) : (uniq l).length ≤ l.length := by
  induction l with
  | nil => exact Nat.le_refl _
  | cons a l ih =>
    rw [uniq, List.length_cons, List.length_cons]
    have := List.length_filter_le (fun b => decide (b ≠ a)) (uniq l)
    omega
theorem canon_le (F : Mons) : (canon F).length ≤ F.length := by
  unfold canon keysOf
  rw [List.length_map, List.length_mergeSort]
  refine Nat.le_trans (List.length_filter_le _ _) (Nat.le_trans (uniq_le _) ?_)
  rw [List.length_map]
  exact Nat.le_refl _
theorem canon_64 (F : Mons) : ∀ p ∈ canon F, in64 p.2 := fun p hp => by
  have h := (canon_mem.1 hp).2
  rw [h]
  exact wrap_range _
theorem ddW_le (i : Nat) (p : Int × Int) : (ddW i p).length ≤ 127 := by
  unfold ddW ddKeys
  rw [List.length_map, List.length_map, List.length_range]
  have h1 := dig_isD p.1 i
  have h2 := dig_isD p.1 (i + 1)
  unfold isD at h1 h2
  omega
theorem dividedW_le (i : Nat) (F : Mons) : (dividedW i F).length ≤ F.length * 127 := by
  induction F with
  | nil => exact Nat.le_refl _
  | cons p F ih =>
    show (ddW i p ++ dividedW i F).length ≤ _
    have := ddW_le i p
    rw [List.length_append, List.length_cons]
    omega
theorem times_unit (i : Nat) (F : Mons) : timesM F [(unit i, 1)] = raisedM i F := by
  unfold timesM raisedM
  induction F with
  | nil => rfl
  | cons p F ih => rw [List.flatMap_cons, ih]; simp
theorem unit_in {i : Nat} (hi : i ≤ 6) : inK (unit i) := by
  unfold inK
  rcases seven hi with rfl | rfl | rfl | rfl | rfl | rfl | rfl <;> decide
theorem RM.one {w : World} {p q : Int} : RM (w.alloc (.cells #[.int .i64 p, .int .i64 q] 78)) (some ⟨w.heap.size, 0, none⟩) [(p, q)] := by
  refine .inr ⟨w.heap.size, 0, rfl, fun k x hx => ?_⟩
  have g0 := heap_alloc_new w (.cells #[.int .i64 p, .int .i64 q] 78)
  rcases k with _ | k
  · simp only [List.getElem?_cons_zero, Option.some.injEq] at hx
    subst hx
    exact ⟨by rw [cell_of_row _ _ 0 _ _ (0, 0) g0]; rfl, by rw [cell_of_row _ _ 1 _ _ (0, 0) g0]; rfl⟩
  · simp at hx
theorem l2Variable_any (x : Int) (w : World) :
    Calls Try.prog 42 #[.int .i64 x] w fun e w' => e = .returned (.bool (isVar x)) ∧ Drew w w' := by
  by_cases h : 0 ≤ x ∧ x ≤ 5
  · have H := Lib.hid (show isVar x = true by simp [isVar]; omega)
    go_enter Try.func42, Try.ntmps42
    go_wp2_with fail
    refine (l1In_yes x 0 5 _ h).mono ?_
    rintro e w1 ⟨rfl, hd⟩
    go_wp2
    go_ret
    exact ⟨ret_bool H.out.symm, hd⟩
  · have H := Lib.hid (show isVar x = false by simp [isVar]; omega)
    go_enter Try.func42, Try.ntmps42
    go_wp2_with fail
    refine (l1In_no x 0 5 _ (by omega)).mono ?_
    rintro e w1 ⟨rfl, hd⟩
    go_wp2
    go_ret
    exact ⟨ret_bool H.out.symm, hd⟩
end Go.Proofs.Ytblhndkaikelaaa
