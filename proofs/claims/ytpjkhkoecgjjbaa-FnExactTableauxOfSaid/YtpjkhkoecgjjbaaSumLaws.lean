/-
  Contract of the laws' sum.
-/
import Derived.Test.YtpjkhkoecgjjbaaSumL
namespace Go.Proofs.Ytpjkhkoecgjjbaa
open Go.RowKit

end Go.Proofs.Ytpjkhkoecgjjbaa
