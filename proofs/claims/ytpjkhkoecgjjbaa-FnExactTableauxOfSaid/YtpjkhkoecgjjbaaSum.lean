/-
  Contracts of the program's sum, and of the factorial.
-/
import Derived.Test.YtpjkhkoecgjjbaaSumL
import Derived.Test.YtpjkhkoecgjjbaaSumLaws
namespace Go.Proofs.Ytpjkhkoecgjjbaa
open Go.RowKit

set_option maxHeartbeats 400000 in
theorem sumImpl_any (a : Option Addr) (n c : Nat) (xs : List Int) (w : World) (hr : RI w a xs) (hn : xs.length = n) (hb : n ≤ 1048576) (hs : Small xs) :
    Calls Try.prog 32 #[.slice a n c] w fun e w' => e = .returned (.int .i64 (sumI xs)) ∧ w = w' := by
  have Hn := Lib.hid hn; clear hn
  have HS := Lib.hid hs; clear hs
  go_enter Try.func32, Try.ntmps32
  go_wp2
  go_loop [3, 8] (fun s i => ∃ k : Nat, k ≤ n ∧ i = .int .i64 k ∧ s = .int .i64 (sumI (xs.take k))) (fun _ i => n - (intOf i).toNat)
  case atStart => exact ⟨0, Nat.zero_le _, rfl, rfl⟩
  case round =>
    obtain ⟨k, hk, rfl, rfl⟩ := hrel
    by_cases hlt : k < n
    · obtain ⟨b, off, rfl, hcell⟩ := hr.at (k := k) (by rw [Hn.out]; exact hlt)
      obtain ⟨x, hx⟩ := some_at Hn.out hlt
      have hc := hcell k x hx
      have hxb := HS.out.at hx
      have hsb := sumI_bd (HS.out.take k)
      have hst := Lib.hid (sumI_take hx)
      have hlk : (xs.take k).length = k := by rw [List.length_take, Hn.out]; omega
      rw [hlk] at hsb
      clear hcell hx hlk
      obtain ⟨s, hsv⟩ : ∃ s, sumI (xs.take k) = s := ⟨_, rfl⟩
      rw [hsv] at hsb ⊢
      have Hv := Lib.hid hsv; clear hsv
      go_wp2
      go_round
      case rel => exact ⟨k + 1, by omega, by go_num, by rw [hst.out, Hv.out]⟩
      case measure => simp [intOf]; omega
    · obtain rfl : k = n := by omega
      go_wp2
      go_ret
      exact ⟨ret_int (by rw [List.take_of_length_le (by rw [Hn.out]; omega)]), rfl⟩

def fact : Nat → Nat
  | 0 => 1
  | n + 1 => (n + 1) * fact n
theorem fact_pos (n : Nat) : 1 ≤ fact n := by
  induction n with
  | zero => exact Nat.le_refl _
  | succ n ih => rw [fact]; exact Nat.le_trans ih (Nat.le_mul_of_pos_left _ (by omega))
theorem fact_mono {m n : Nat} (h : m ≤ n) : fact m ≤ fact n := by
  induction n with
  | zero => obtain rfl : m = 0 := (by omega); exact Nat.le_refl _
  | succ n ih =>
    rcases Nat.lt_or_ge m (n + 1) with h1 | h1
    · have := ih (by omega)
      rw [fact]; exact Nat.le_trans this (Nat.le_mul_of_pos_left _ (by omega))
    · obtain rfl : m = n + 1 := (by omega); exact Nat.le_refl _
theorem fact_20 : fact 20 = 2432902008176640000 := by rfl
theorem fact_bd {n : Nat} (h : n ≤ 20) : fact n ≤ 2432902008176640000 := by rw [← fact_20]; exact fact_mono h

end Go.Proofs.Ytpjkhkoecgjjbaa
