/-
  Contract of szIntS.
-/
import Derived.Test.YtocgcgmlemoekaaBuA
namespace Go.Proofs.Ytocgcgmlemoekaa
open Go.RowKit

/-- what is left of a measure, or -1 -/
def leftOf (left t : Int) : Int := if left < t then -1 else left - t
theorem leftOf_lt {left t : Int} (h : left < t) : leftOf left t = -1 := if_pos h
theorem leftOf_ge {left t : Int} (h : ¬ left < t) : leftOf left t = left - t := if_neg h
set_option maxHeartbeats 400000 in
theorem szIntS_any (a : Option Addr) (n c : Nat) (left : Int) (w : World) (h0 : 0 ≤ left) (h1 : left ≤ 1048576) (hb : n ≤ 9223372036854775807) :
    Calls Try.prog 167 #[.slice a n c, .int .i64 left] w fun e w' => e = .returned (.int .i64 (leftOf left n)) ∧ w = w' := by
  by_cases h : left < n
  · go_enter Try.func167, Try.ntmps167
    go_wp2
    go_ret
    exact ⟨ret_int (leftOf_lt h).symm, rfl⟩
  · go_enter Try.func167, Try.ntmps167
    go_wp2
    go_ret
    exact ⟨ret_int (leftOf_ge (by omega)).symm, rfl⟩

end Go.Proofs.Ytocgcgmlemoekaa
