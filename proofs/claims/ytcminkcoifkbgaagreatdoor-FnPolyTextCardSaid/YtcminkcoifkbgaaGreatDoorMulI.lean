/-
  Contract of MulPolys, the program's.
-/
import Derived.Test.YtcminkcoifkbgaaGreatDoorTimes
import Derived.Test.YtcminkcoifkbgaaGreatDoorClosed
import Derived.Test.YtcminkcoifkbgaaGreatDoorPolyOpen
import Derived.Test.YtcminkcoifkbgaaGreatDoorOperated
namespace Go.Proofs.YtcminkcoifkbgaaGreatDoor
open Go.RowKit Go.MapKept Go.ChangeMaps

def mulT (f g : List (List Int × Int)) : List (List Int × Int) := if polyOk f = true ∧ polyOk g = true then closedT (timesM (monsOf f) (monsOf g)) else []
def mulOk (f g : List (List Int × Int)) : Bool := polyOk f && (polyOk g && polyOk (termsM (timesM (monsOf f) (monsOf g))))
theorem mul_no1 {f g : List (List Int × Int)} (h : polyOk f = false) : mulT f g = [] ∧ mulOk f g = false := by
  unfold mulT mulOk
  rw [h]
  exact ⟨if_neg (by simp), rfl⟩
theorem mul_no2 {f g : List (List Int × Int)} (h : polyOk g = false) : mulT f g = [] ∧ mulOk f g = false := by
  unfold mulT mulOk
  rw [h]
  exact ⟨if_neg (by simp), by simp⟩
theorem mul_yes {f g : List (List Int × Int)} (h : polyOk f = true) (h' : polyOk g = true) : mulT f g = closedT (timesM (monsOf f) (monsOf g)) ∧ mulOk f g = polyOk (termsM (timesM (monsOf f) (monsOf g))) := by
  unfold mulT mulOk
  rw [h, h']
  exact ⟨if_pos ⟨rfl, rfl⟩, by simp⟩
end Go.Proofs.YtcminkcoifkbgaaGreatDoor
