/-
  What a call leaves that returns a polynomial and whether it is one within the limits.
-/
import Derived.Test.YtflkomgfgmephaaBuI2
namespace Go.Proofs.Ytflkomgfgmephaa
open Go.RowKit

def PostT (w : World) (T : List (List Int × Int)) (ok : Bool) (e : Ending) (w' : World) : Prop :=
  ∃ a' n' c' r, e = .returned (.tuple #[.slice a' n' c', .bool r]) ∧ TO w' w.heap.size w'.heap.size a' n' c' T ∧ Hid (r = ok) ∧ Below w.heap.size w w'
end Go.Proofs.Ytflkomgfgmephaa
