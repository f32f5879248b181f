/-
  Contracts of isSize and IdentityPerm.
-/
import Derived.Test.YtblhndkaikelaaaBuA
import Derived.RegionTactic
import Derived.ChangeAlike
namespace Go.Proofs.Ytblhndkaikelaaa
open Go.RowKit

def ident (n : Nat) : List Int := (List.range n).map fun (i : Nat) => (i : Int)
theorem ident_length (n : Nat) : (ident n).length = n := by simp [ident]
theorem ident_at {n i : Nat} (h : i < n) : (ident n)[i]? = some (i : Int) := by simp [ident, h]
theorem ident_succ (n : Nat) : ident (n + 1) = ident n ++ [(n : Int)] := by simp [ident, List.range_succ]

end Go.Proofs.Ytblhndkaikelaaa
