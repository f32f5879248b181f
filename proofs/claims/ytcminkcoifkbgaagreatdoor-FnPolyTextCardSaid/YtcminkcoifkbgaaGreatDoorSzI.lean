/-
  Contract of szIntS.
-/
import Derived.Test.YtcminkcoifkbgaaGreatDoorBuA
namespace Go.Proofs.YtcminkcoifkbgaaGreatDoor
open Go.RowKit

/-- what is left of a measure, or -1 -/
def leftOf (left t : Int) : Int := if left < t then -1 else left - t
theorem leftOf_lt {left t : Int} (h : left < t) : leftOf left t = -1 := if_pos h
theorem leftOf_ge {left t : Int} (h : ¬ left < t) : leftOf left t = left - t := if_neg h
end Go.Proofs.YtcminkcoifkbgaaGreatDoor
