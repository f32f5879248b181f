/-
  x
-/
import Derived.Test.YtageojkepoejiaaContC
import Derived.Test.YtageojkepoejiaaDream
namespace Go.Proofs.Ytageojkepoejiaa
open Go.RowKit

set_option maxRecDepth 100000 in
set_option maxHeartbeats 1600000 in
theorem ladIs_any (G : Nat) (a : Option Addr) (n c : Nat) (xs : List (Int × Int)) (p q : Int) (w : World) (hG : w.cell? ⟨G, 0, none⟩ = some (.slice a n c)) (hr : RC w a xs) (hn : xs.length = n) (hb : n ≤ 1048576) :
    Calls Try.prog 50 #[.int .i64 p, .int .i64 q, .pointer (some ⟨G, 0, none⟩)] w fun e w' => e = .returned (.bool (hasC xs p q)) ∧ Below w.heap.size w w' := by
  have Hn := Lib.hid hn; clear hn
  go_enter Try.func50, Try.ntmps50
  go_wp2_with fail
  refine (containsC_any _ _ _ xs p q _ hr Hn.out hb).mono ?_
  rintro e w1 ⟨rfl, hb1⟩
  go_wp2
  go_ret
  exact ⟨rfl, hb1⟩
end Go.Proofs.Ytageojkepoejiaa
