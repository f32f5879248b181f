/-
  Contracts of l1Same and slices.Equal: two lists of integers compared.
-/
import Derived.Test.YtflkomgfgmephaaBuA
namespace Go.Proofs.Ytflkomgfgmephaa
open Go.RowKit

end Go.Proofs.Ytflkomgfgmephaa
