/-
  Contracts of l1Code and CodeOf: how many smaller numbers stand behind each.
-/
import Derived.Test.YtocgcgmlemoekaaGreatBuA
import Derived.Test.YtocgcgmlemoekaaGreatPerm
namespace Go.Proofs.YtocgcgmlemoekaaGreat
open Go.RowKit

theorem OwI.nil0 {w : World} {B S : Nat} : OwI w B S none 0 0 [] := ⟨OS.of ⟨rfl, .inl ⟨rfl, rfl⟩⟩, fun k hk => by simp [Value.ownBlock] at hk⟩
/-- how many of the m numbers behind place i are smaller -/
def cnt (xs : List Int) (i m : Nat) : Nat := ((List.range m).filter fun t => decide (xs.getD (i + 1 + t) 0 < xs.getD i 0)).length
def code (xs : List Int) : List Int := (List.range xs.length).map fun i => (cnt xs i (xs.length - 1 - i) : Int)
theorem cnt_le (xs : List Int) (i m : Nat) : cnt xs i m ≤ m := by
  unfold cnt
  exact Nat.le_trans (List.length_filter_le _ _) (by simp)
theorem cnt_succ {xs : List Int} {i m : Nat} {x y : Int} (hx : xs[i]? = some x) (hy : xs[i + 1 + m]? = some y) : cnt xs i (m + 1) = if y < x then cnt xs i m + 1 else cnt xs i m := by
  unfold cnt
  rw [List.range_succ, List.filter_append, List.length_append, List.filter_cons, List.filter_nil, getD_of hx, getD_of hy]
  by_cases h : y < x <;> simp [h]
theorem code_length (xs : List Int) : (code xs).length = xs.length := by simp [code]
theorem code_at {xs : List Int} {n i : Nat} (hn : xs.length = n) (hi : i < n) : (code xs)[i]? = some (cnt xs i (n - 1 - i) : Int) := by
  subst hn
  simp [code, hi]
theorem fill_zero {C : List Int} {n i : Nat} (hC : C.length = n) (hi : i < n) : (fillTo C n i).set i 0 = fillTo C n i := by
  unfold fillTo
  obtain ⟨d, hd⟩ : ∃ d, n - i = d + 1 := ⟨n - i - 1, by omega⟩
  rw [hd, List.replicate_succ, List.set_append_right _ _ (by simp; omega)]
  have : i - (C.take i).length = 0 := by simp; omega
  rw [this, List.set_cons_zero]
/-- the code as far as place i, of which m are counted -/
def codeAt (xs : List Int) (n i m : Nat) : List Int := (fillTo (code xs) n i).set i (cnt xs i m : Int)
theorem codeAt_start {xs : List Int} {n i : Nat} (hn : xs.length = n) (hi : i < n) : codeAt xs n i 0 = fillTo (code xs) n i := by
  unfold codeAt
  exact fill_zero (by rw [code_length]; exact hn) hi
theorem codeAt_set (xs : List Int) (n i m : Nat) : (codeAt xs n i m).set i (cnt xs i m + 1 : Int) = (fillTo (code xs) n i).set i ((cnt xs i m + 1 : Nat) : Int) := by
  unfold codeAt
  rw [List.set_set]; rfl
theorem codeAt_less {xs : List Int} {n i m : Nat} {x y : Int} (hx : xs[i]? = some x) (hy : xs[i + 1 + m]? = some y) (h : y < x) : (codeAt xs n i m).set i ((cnt xs i m : Int) + 1) = codeAt xs n i (m + 1) := by
  unfold codeAt
  rw [List.set_set, cnt_succ hx hy, if_pos h]; rfl
theorem codeAt_same {xs : List Int} {n i m : Nat} {x y : Int} (hx : xs[i]? = some x) (hy : xs[i + 1 + m]? = some y) (h : ¬ y < x) : codeAt xs n i m = codeAt xs n i (m + 1) := by
  unfold codeAt
  rw [cnt_succ hx hy, if_neg h]
theorem codeAt_end {xs : List Int} {n i : Nat} (hn : xs.length = n) (hi : i < n) : codeAt xs n i (n - 1 - i) = fillTo (code xs) n (i + 1) := by
  unfold codeAt
  exact fillTo_succ (by rw [code_length]; exact hn) hi (code_at hn hi)
theorem codeAt_at {xs : List Int} {n i m : Nat} (hn : xs.length = n) (hi : i < n) : (codeAt xs n i m)[i]? = some (cnt xs i m : Int) := by
  unfold codeAt
  rw [List.getElem?_set, if_pos rfl, if_pos]
  rw [fillTo_length (by rw [code_length]; exact hn) (by omega)]; exact hi

def codeOf (xs : List Int) : List Int := if isPerm xs then code xs else []
theorem codeOf_length (xs : List Int) : (codeOf xs).length ≤ 7 := by
  unfold codeOf
  split
  · rw [code_length]; exact (perm_len ‹_›).2
  · simp

end Go.Proofs.YtocgcgmlemoekaaGreat
