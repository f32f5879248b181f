/-
  Divided differences of Schubert polynomials, at permutations of at most 5. Plain.
-/
import Derived.Test.YtflkomgfgmephaaTransP
import Derived.Test.YtflkomgfgmephaaParts5
import Derived.Test.YtflkomgfgmephaaEmbed
namespace Go.Proofs.Ytflkomgfgmephaa
open Go.RowKit

def dsAt (u : List Int) (k : Nat) : Bool :=
  if u.getD (k + 1) 0 < u.getD k 0 then decide (gath (dividedM k (SMg u)) = gath (SMg (swp u k (k + 1)))) && smallL (SMg (swp u k (k + 1))) else decide (gath (dividedM k (SMg u)) = [])
def dsChk (n : Nat) (u : List Int) : Bool := smallL (SMg u) && (SMg u).all (fun p => decide (degK p.1 = sumI (code u))) && decide (wsum (SMg u) (fun _ => 1) ≠ 0) && decide (trim (grow1 u) = trim u) && decide (trimLen (grow1 u) (n + 1) = trimLen u n) && isPerm (grow1 u)
  && (List.range (n - 1)).all (dsAt u)
set_option maxRecDepth 100000 in
theorem dsChk_all : ([1, 2, 3, 4].all fun n => (perms n).all (dsChk n)) = true := by kernel_rfl
def dsPart (j : Nat) : Bool := (((perms 5).drop (12 * j)).take 12).all (dsChk 5)
set_option maxRecDepth 100000 in
theorem dsPart0 : dsPart 0 = true := by kernel_rfl
set_option maxRecDepth 100000 in
theorem dsPart1 : dsPart 1 = true := by kernel_rfl
set_option maxRecDepth 100000 in
theorem dsPart2 : dsPart 2 = true := by kernel_rfl
set_option maxRecDepth 100000 in
theorem dsPart3 : dsPart 3 = true := by kernel_rfl
set_option maxRecDepth 100000 in
theorem dsPart4 : dsPart 4 = true := by kernel_rfl
set_option maxRecDepth 100000 in
theorem dsPart5 : dsPart 5 = true := by kernel_rfl
set_option maxRecDepth 100000 in
theorem dsPart6 : dsPart 6 = true := by kernel_rfl
set_option maxRecDepth 100000 in
theorem dsPart7 : dsPart 7 = true := by kernel_rfl
set_option maxRecDepth 100000 in
theorem dsPart8 : dsPart 8 = true := by kernel_rfl
set_option maxRecDepth 100000 in
theorem dsPart9 : dsPart 9 = true := by kernel_rfl
theorem dsChk_five : (perms 5).all (dsChk 5) = true := all_parts _ 12 10 _ (by rw [perms5_len]; decide) fun j hj => by
  have hc : j = 0 ∨ j = 1 ∨ j = 2 ∨ j = 3 ∨ j = 4 ∨ j = 5 ∨ j = 6 ∨ j = 7 ∨ j = 8 ∨ j = 9 := by omega
  rcases hc with rfl | rfl | rfl | rfl | rfl | rfl | rfl | rfl | rfl | rfl
  · exact dsPart0
  · exact dsPart1
  · exact dsPart2
  · exact dsPart3
  · exact dsPart4
  · exact dsPart5
  · exact dsPart6
  · exact dsPart7
  · exact dsPart8
  · exact dsPart9
theorem dsChk_of {n : Nat} {u : List Int} (h1 : 1 ≤ n) (h5 : n ≤ 5) (hu : u ∈ perms n) : dsChk n u = true := by
  rcases Nat.lt_or_ge n 5 with h | h
  · have h2 := List.all_eq_true.1 dsChk_all n (by
      have hc : n = 1 ∨ n = 2 ∨ n = 3 ∨ n = 4 := by omega
      rcases hc with rfl | rfl | rfl | rfl <;> decide)
    exact List.all_eq_true.1 h2 u hu
  · obtain rfl : n = 5 := by omega
    exact List.all_eq_true.1 dsChk_five u hu
end Go.Proofs.Ytflkomgfgmephaa
