/-
  A law's bytes: what they read as; big, at0.
-/
import Derived.Test.YtcminkcoifkbgaaGreatDoorBase
namespace Go.Proofs.YtcminkcoifkbgaaGreatDoor
open Go.RowKit

/-- the slice at address a reads as the bytes xs -/
def RB (w : World) (a : Option Addr) (xs : List Int) : Prop :=
  xs = [] ∨ ∃ b off, a = some ⟨b, off, none⟩ ∧ ∀ k x, xs[k]? = some x → w.cell? ⟨b, off + k, none⟩ = some (.int .u8 x)
def Bytes (xs : List Int) : Prop := ∀ x ∈ xs, 0 ≤ x ∧ x ≤ 255
theorem RB.at {w : World} {a : Option Addr} {xs : List Int} (h : RB w a xs) {k : Nat} (hk : k < xs.length) :
    ∃ b off, a = some ⟨b, off, none⟩ ∧ ∀ k x, xs[k]? = some x → w.cell? ⟨b, off + k, none⟩ = some (.int .u8 x) := by
  rcases h with rfl | h
  · simp at hk
  · exact h
theorem RB.below {w w' : World} {a : Option Addr} {xs : List Int} (h : RB w a xs) (hb : Below w.heap.size w w') : RB w' a xs := by
  rcases h with h | ⟨b, off, ha, hc⟩
  · exact .inl h
  · exact .inr ⟨b, off, ha, fun k x hx => by rw [hb.cell (World.block_lt_of_cell? w _ (hc k x hx))]; exact hc k x hx⟩

set_option maxHeartbeats 400000 in
theorem big_any (a : Option Addr) (n c : Nat) (w : World) (hb : n ≤ 9223372036854775807) :
    Calls Tryz.prog 4 #[.slice a n c] w fun e w' => e = .returned (.bool (decide (1048576 < n))) ∧ w = w' := by
  go_enter Tryz.func4, Tryz.ntmps4
  go_wp2
  go_ret
  exact ⟨by simp; omega, rfl⟩
end Go.Proofs.YtcminkcoifkbgaaGreatDoor
