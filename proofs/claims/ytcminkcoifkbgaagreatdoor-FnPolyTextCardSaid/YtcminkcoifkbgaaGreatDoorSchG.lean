/-
  Schubert polynomials that the kernel can reckon. Plain.
-/
import Derived.Test.YtcminkcoifkbgaaGreatDoorBuH2
import Derived.Test.YtcminkcoifkbgaaGreatDoorBuH1
namespace Go.Proofs.YtcminkcoifkbgaaGreatDoor
open Go.RowKit

/-- Schubert polynomials, gathered at each step -/
def schG (v : List Int) (m : Nat) : Mons := (ups v).foldr (fun i F => gath (dividedM i F)) [(partK m m, 1)]
theorem schG_fold (l : List Nat) (F : Mons) : Same (l.foldr (fun i F => gath (dividedM i F)) F) (l.foldr dividedM F) := by
  induction l with
  | nil => exact Same.refl _
  | cons i l ih => exact (gath_same _).trans ih.divided
theorem schG_same (v : List Int) (m : Nat) : Same (schG v m) (schM v m) := schG_fold _ _
/-- the Schubert polynomial of a permutation; a form that the kernel can reckon -/
def SM (u : List Int) : Mons := schM (trim u) (trimLen u u.length)
def SMg (u : List Int) : Mons := schG (trim u) (trimLen u u.length)
theorem SMg_same (u : List Int) : Same (SMg u) (SM u) := schG_same _ _
theorem SM_b7 {u : List Int} (h : u.length ≤ 7) : B7 (SM u) := by
  unfold SM
  have hm : trimLen u u.length ≤ u.length := trimLen_le u u.length
  have hl : (trim u).length = trimLen u u.length := by unfold trim; rw [List.length_take]; omega
  exact (B7.stair (show trimLen u u.length ≤ 7 by omega)).low _ fun k hk => by have := ups_lt (trim u) k hk; omega
theorem B7.bd6 {F : Mons} (h : B7 F) : Bd 6 F := fun p hp => ⟨(h p hp).1, fun j hj => by have := (h p hp).2 j hj; omega⟩
theorem SM_bd {u : List Int} (h : u.length ≤ 7) : Bd 6 (SM u) := (SM_b7 h).bd6
theorem SM_okp {u : List Int} (h : u.length ≤ 7) (h1 : (SMg u).length ≤ 600) (h2 : nrm (SMg u) ≤ 1000000) : OKp (SM u) :=
  (GoodM.of_list (SMg_same u).symm ((SM_bd h).mono (by decide)) h1 h2).okp (Nat.le_refl _) (Nat.le_refl _)
end Go.Proofs.YtcminkcoifkbgaaGreatDoor
