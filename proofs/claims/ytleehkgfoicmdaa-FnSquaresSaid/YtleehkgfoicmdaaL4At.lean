/-
  Contract of l4At.
-/
import Derived.Test.YtleehkgfoicmdaaMem
namespace Go.Proofs.Ytleehkgfoicmdaa
open Go.RowKit

set_option maxHeartbeats 400000 in
theorem l4At_any (a : Option Addr) (n c : Nat) (xs : List Int) (i : Nat) (w : World) (hr : RI w a xs) (hn : xs.length = n) (_hb : n ≤ 17592186044416) (_hi : i ≤ 17592186044416) :
    Calls Try.prog 73 #[.slice a n c, .int .i64 i] w fun e w' => e = .returned (.int .i64 (xs.getD i 0)) ∧ w = w' := by
  have Hn := Lib.hid hn; clear hn
  by_cases hlt : i < n
  · obtain ⟨b, off, rfl, hcell⟩ := hr.at (k := i) (by rw [Hn.out]; exact hlt)
    obtain ⟨x, hx⟩ := some_at Hn.out hlt
    have hc := hcell i x hx
    have Hx := Lib.hid hx; clear hx
    clear hcell
    go_enter Try.func73, Try.ntmps73
    go_wp2
    go_ret
    exact ⟨ret_int (getD_of Hx.out).symm, rfl⟩
  · go_enter Try.func73, Try.ntmps73
    go_wp2
    go_ret
    exact ⟨ret_int (by rw [List.getD_eq_getElem?_getD, List.getElem?_eq_none (by rw [Hn.out]; omega)]; rfl), rfl⟩
theorem l4At_is (a : Option Addr) (n c : Nat) (xs : List Int) (i : Nat) (I x : Int) (w : World) (hr : RI w a xs) (hn : xs.length = n) (hb : n ≤ 17592186044416) (hi : i ≤ 17592186044416) (hI : I = (i : Int)) (hx : xs.getD i 0 = x) :
    Calls Try.prog 73 #[.slice a n c, .int .i64 I] w fun e w' => e = .returned (.int .i64 x) ∧ w = w' := by
  subst hI hx; exact l4At_any a n c xs i w hr hn hb hi
end Go.Proofs.Ytleehkgfoicmdaa
