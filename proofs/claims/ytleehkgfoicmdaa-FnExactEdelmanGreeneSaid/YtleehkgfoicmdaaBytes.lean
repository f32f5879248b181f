/-
  A law's bytes: what they read as; big, at0.
-/
import Derived.Test.YtleehkgfoicmdaaBase
namespace Go.Proofs.Ytleehkgfoicmdaa
open Go.RowKit

/-- the slice at address a reads as the bytes xs -/
def RB (w : World) (a : Option Addr) (xs : List Int) : Prop :=
  xs = [] ∨ ∃ b off, a = some ⟨b, off, none⟩ ∧ ∀ k x, xs[k]? = some x → w.cell? ⟨b, off + k, none⟩ = some (.int .u8 x)
def Bytes (xs : List Int) : Prop := ∀ x ∈ xs, 0 ≤ x ∧ x ≤ 255
theorem RB.at {w : World} {a : Option Addr} {xs : List Int} (h : RB w a xs) {k : Nat} (hk : k < xs.length) :
    ∃ b off, a = some ⟨b, off, none⟩ ∧ ∀ k x, xs[k]? = some x → w.cell? ⟨b, off + k, none⟩ = some (.int .u8 x) := by
  rcases h with rfl | h
  · simp at hk
  · exact h
theorem RB.below {w w' : World} {a : Option Addr} {xs : List Int} (h : RB w a xs) (hb : Below w.heap.size w w') : RB w' a xs := by
  rcases h with h | ⟨b, off, ha, hc⟩
  · exact .inl h
  · exact .inr ⟨b, off, ha, fun k x hx => by rw [hb.cell (World.block_lt_of_cell? w _ (hc k x hx))]; exact hc k x hx⟩

set_option maxHeartbeats 400000 in
theorem big_any (a : Option Addr) (n c : Nat) (w : World) (hb : n ≤ 9223372036854775807) :
    Calls Try.prog 25 #[.slice a n c] w fun e w' => e = .returned (.bool (decide (1048576 < n))) ∧ w = w' := by
  go_enter Try.func25, Try.ntmps25
  go_wp2
  go_ret
  exact ⟨by simp; omega, rfl⟩

set_option maxHeartbeats 400000 in
theorem at0_zero (a : Option Addr) (n c : Nat) (xs : List Int) (w : World) (hr : RB w a xs) (hn : xs.length = n) (hbs : Bytes xs) (hb : n ≤ 1048576) :
    Calls Try.prog 26 #[.slice a n c, .int .i64 0] w fun e w' => ∃ v : Nat, e = .returned (.int .i64 v) ∧ v ≤ 255 ∧ w = w' := by
  have Hn := Lib.hid hn; clear hn
  by_cases h0 : n = 0
  · subst h0
    go_enter Try.func26, Try.ntmps26
    go_wp2
    go_ret
    exact ⟨0, rfl, by omega, rfl⟩
  · have h0n : 0 < n := by omega
    obtain ⟨b, off, rfl, hcell⟩ := hr.at (k := 0) (by rw [Hn.out]; exact h0n)
    obtain ⟨x, hx⟩ := some_at Hn.out h0n
    have hc : w.cell? ⟨b, off, none⟩ = some (.int .u8 x) := hcell 0 x hx
    have hxb := hbs x (List.mem_of_getElem? hx)
    clear hcell hx
    obtain ⟨v, rfl⟩ : ∃ v : Nat, x = v := ⟨x.toNat, by omega⟩
    go_enter Try.func26, Try.ntmps26
    go_wp2
    go_ret
    exact ⟨v, rfl, by omega, rfl⟩
end Go.Proofs.Ytleehkgfoicmdaa
