/-
  Contract of at0.
-/
import Derived.Test.YtflkomgfgmephaaBytes
namespace Go.Proofs.Ytflkomgfgmephaa
open Go.RowKit

set_option maxHeartbeats 400000 in
theorem at0_zero (a : Option Addr) (n c : Nat) (xs : List Int) (w : World) (hr : RB w a xs) (hn : xs.length = n) (hbs : Bytes xs) (hb : n ≤ 1048576) :
    Calls Try.prog 21 #[.slice a n c, .int .i64 0] w fun e w' => ∃ v : Nat, e = .returned (.int .i64 v) ∧ v ≤ 255 ∧ w = w' := by
  have Hn := Lib.hid hn; clear hn
  by_cases h0 : n = 0
  · subst h0
    go_enter Try.func21, Try.ntmps21
    go_wp2
    go_ret
    exact ⟨0, rfl, by omega, rfl⟩
  · have h0n : 0 < n := by omega
    obtain ⟨b, off, rfl, hcell⟩ := hr.at (k := 0) (by rw [Hn.out]; exact h0n)
    obtain ⟨x, hx⟩ := some_at Hn.out h0n
    have hc : w.cell? ⟨b, off, none⟩ = some (.int .u8 x) := hcell 0 x hx
    have hxb := hbs x (List.mem_of_getElem? hx)
    clear hcell hx
    obtain ⟨v, rfl⟩ : ∃ v : Nat, x = v := ⟨x.toNat, by omega⟩
    go_enter Try.func21, Try.ntmps21
    go_wp2
    go_ret
    exact ⟨v, rfl, by omega, rfl⟩
end Go.Proofs.Ytflkomgfgmephaa
