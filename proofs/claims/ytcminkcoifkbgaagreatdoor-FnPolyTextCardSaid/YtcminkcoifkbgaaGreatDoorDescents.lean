/-
  Contracts of DescentsOf, the program's and the reference's.
-/
import Derived.Test.YtcminkcoifkbgaaGreatDoorBuA
import Derived.Test.YtcminkcoifkbgaaGreatDoorBuI3
namespace Go.Proofs.YtcminkcoifkbgaaGreatDoor
open Go.RowKit


/-- the places below k at which the next number is smaller -/
def desc (xs : List Int) (k : Nat) : List Int := ((List.range k).filter fun i => decide (xs.getD (i + 1) 0 < xs.getD i 0)).map fun (i : Nat) => (i : Int)
def descents (xs : List Int) : List Int := if isPerm xs then desc xs (xs.length - 1) else []
theorem desc_succ (xs : List Int) {k : Nat} {x y : Int} (hx : xs[k]? = some x) (hy : xs[k + 1]? = some y) : desc xs (k + 1) = if y < x then desc xs k ++ [(k : Int)] else desc xs k := by
  unfold desc
  rw [List.range_succ, List.filter_append, List.map_append, List.filter_cons, List.filter_nil, getD_of hx, getD_of hy]
  by_cases h : y < x <;> simp only [h, decide_true, decide_false, if_true, if_false, List.map_cons, List.map_nil] <;> simp
theorem desc_len (xs : List Int) (k : Nat) : (desc xs k).length ≤ k := by
  unfold desc
  rw [List.length_map]
  exact Nat.le_trans (List.length_filter_le _ _) (by simp)
theorem descents_len (xs : List Int) : (descents xs).length ≤ 6 := by
  unfold descents
  split
  · have := desc_len xs (xs.length - 1)
    have := perm_len ‹_›
    omega
  · simp
theorem descents_at {xs : List Int} {d : Int} (h : d ∈ descents xs) : 0 ≤ d ∧ d + 1 < xs.length := by
  unfold descents at h
  split at h
  · unfold desc at h
    simp only [List.mem_map, List.mem_filter, List.mem_range] at h
    obtain ⟨i, ⟨h1, _⟩, rfl⟩ := h
    omega
  · simp at h

end Go.Proofs.YtcminkcoifkbgaaGreatDoor
