/-
  Contracts of DescentsOf, the program's and the reference's.
  Contracts of the swaps along a word drawn, of a reduced word drawn, of two permutations drawn.
-/
import Derived.Test.YtjljacmepidgcaaBuK10
import Derived.Test.YtjljacmepidgcaaBuK12
import Derived.Test.YtjljacmepidgcaaBuK23
import Derived.Test.YtjljacmepidgcaaBuK16
import Derived.Deep.LoopGhost
namespace Go.Proofs.Ytjljacmepidgcaa
open Go.RowKit


/-- the places below k at which the next number is smaller -/
def desc (xs : List Int) (k : Nat) : List Int := ((List.range k).filter fun i => decide (xs.getD (i + 1) 0 < xs.getD i 0)).map fun (i : Nat) => (i : Int)
def descents (xs : List Int) : List Int := if isPerm xs then desc xs (xs.length - 1) else []
theorem desc_succ (xs : List Int) {k : Nat} {x y : Int} (hx : xs[k]? = some x) (hy : xs[k + 1]? = some y) : desc xs (k + 1) = if y < x then desc xs k ++ [(k : Int)] else desc xs k := by
  unfold desc
  rw [List.range_succ, List.filter_append, List.map_append, List.filter_cons, List.filter_nil, getD_of hx, getD_of hy]
  by_cases h : y < x <;> simp only [h, decide_true, decide_false, if_true, if_false, List.map_cons, List.map_nil] <;> simp
theorem desc_len (xs : List Int) (k : Nat) : (desc xs k).length ≤ k := by
  unfold desc
  rw [List.length_map]
  exact Nat.le_trans (List.length_filter_le _ _) (by simp)
theorem descents_len (xs : List Int) : (descents xs).length ≤ 6 := by
  unfold descents
  split
  · have := desc_len xs (xs.length - 1)
    have := perm_len ‹_›
    omega
  · simp
theorem descents_at {xs : List Int} {d : Int} (h : d ∈ descents xs) : 0 ≤ d ∧ d + 1 < xs.length := by
  unfold descents at h
  split at h
  · unfold desc at h
    simp only [List.mem_map, List.mem_filter, List.mem_range] at h
    obtain ⟨i, ⟨h1, _⟩, rfl⟩ := h
    omega
  · simp at h

end Go.Proofs.Ytjljacmepidgcaa

namespace Go.Proofs.Ytjljacmepidgcaa
open Go.RowKit

/-- swaps of neighbours keep to the permutations of n; at a descent they make shorter; where there is no descent, the length is 0 -/
def goodPerm (n : Nat) (u : List Int) : Bool :=
  decide (0 ≤ sumI (code u)) && decide (sumI (code u) ≤ 100 ∧ (descents u).length ≤ 5) && (decide (sumI (code u) = 0) || !(descents u).isEmpty)
  && ((List.range (n - 1)).all fun k => (perms n).contains (swp u k (k + 1)))
  && ((descents u).all fun k => decide (0 ≤ k) && decide (k + 1 < (n : Int)) && decide (sumI (code (swp u k.toNat (k.toNat + 1))) < sumI (code u)))
def goodPerms : Bool := [1, 2, 3, 4, 5].all fun n => (perms n).contains (ident n) && (perms n).all (goodPerm n)
set_option maxRecDepth 100000 in
theorem goodPerms_true : goodPerms = true := by kernel_rfl
theorem good_of {k : Nat} (h1 : 1 ≤ k) (h5 : k ≤ 5) : ident k ∈ perms k ∧ ∀ u ∈ perms k, goodPerm k u = true := by
  have h2 := goodPerms_true
  unfold goodPerms at h2
  rw [List.all_eq_true] at h2
  have h3 := h2 k (by simp; omega)
  rw [Bool.and_eq_true, List.all_eq_true] at h3
  exact ⟨by simpa using h3.1, h3.2⟩
theorem swp_in {n k : Nat} {u : List Int} (h1 : 1 ≤ n) (h5 : n ≤ 5) (hu : u ∈ perms n) (hk : k + 1 < n) : swp u k (k + 1) ∈ perms n := by
  have h := (good_of h1 h5).2 u hu
  unfold goodPerm at h
  simp only [Bool.and_eq_true] at h
  have h4 := h.1.2
  rw [List.all_eq_true] at h4
  have := h4 k (by rw [List.mem_range]; omega)
  simpa using this
theorem len_ok {n : Nat} {u : List Int} (h1 : 1 ≤ n) (h5 : n ≤ 5) (hu : u ∈ perms n) : 0 ≤ sumI (code u) ∧ sumI (code u) ≤ 100 ∧ (descents u).length ≤ 5 ∧ (sumI (code u) ≠ 0 → descents u ≠ []) := by
  have h := (good_of h1 h5).2 u hu
  unfold goodPerm at h
  simp only [Bool.and_eq_true, decide_eq_true_eq, Bool.or_eq_true, Bool.not_eq_true'] at h
  refine ⟨h.1.1.1.1, h.1.1.1.2.1, h.1.1.1.2.2, fun h0 => ?_⟩
  rcases h.1.1.2 with h2 | h2
  · exact absurd h2 h0
  · intro e; rw [e] at h2; simp at h2
theorem down_ok {n : Nat} {u : List Int} {k : Int} (h1 : 1 ≤ n) (h5 : n ≤ 5) (hu : u ∈ perms n) (hk : k ∈ descents u) : 0 ≤ k ∧ k + 1 < (n : Int) ∧ sumI (code (swp u k.toNat (k.toNat + 1))) < sumI (code u) := by
  have h := (good_of h1 h5).2 u hu
  unfold goodPerm at h
  simp only [Bool.and_eq_true] at h
  have h4 := h.2
  rw [List.all_eq_true] at h4
  have := h4 k hk
  simp only [Bool.and_eq_true, decide_eq_true_eq] at this
  exact ⟨this.1.1, this.1.2, this.2⟩

def PlayPost (p : Nat) (w : World) (e : Ending) (w' : World) : Prop :=
  ∃ u a' c', e = .returned (.slice a' p c') ∧ u ∈ perms p ∧ OwI w' w.heap.size w'.heap.size a' p c' u ∧ Below w.heap.size w w'
theorem OwI.one (w : World) (x : Int) : OwI (w.alloc (.cells #[.int .i64 x] 3)) w.heap.size (w.alloc (.cells #[.int .i64 x] 3)).heap.size (some ⟨w.heap.size, 0, none⟩) 1 1 [x] :=
  OwI.mk ⟨by simp [ints], .inr ⟨w.heap.size, 1, #[.int .i64 x], rfl, Nat.le_refl _, heap_alloc_new w _, Nat.le_refl _, by unfold maxLen; omega, by simp, by simp [ints]⟩⟩
def ReducedPost (n : Nat) (g : Nat) (a : Option Addr) (m c : Nat) (xs : List Int) (w : World) (e : Ending) (w' : World) : Prop :=
  ∃ ys a' l c', e = .returned (.slice a' l c') ∧ l ≤ 100 ∧ (∀ x ∈ ys, 0 ≤ x ∧ x + 1 < (n : Int)) ∧ OwI w' w.heap.size w'.heap.size a' l c' ys ∧ Cur w' g a m c xs ∧ Only g (g + 1) w w'
end Go.Proofs.Ytjljacmepidgcaa
