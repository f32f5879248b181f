/-
  Sums; contract of l1Sum.
-/
import Derived.Test.YtpjkhkoecgjjbaaMem
namespace Go.Proofs.Ytpjkhkoecgjjbaa
open Go.RowKit

def sumI (xs : List Int) : Int := xs.foldr (· + ·) 0
theorem sumI_nil : sumI [] = 0 := rfl
theorem sumI_cons (x : Int) (xs : List Int) : sumI (x :: xs) = x + sumI xs := rfl
theorem sumI_append (xs ys : List Int) : sumI (xs ++ ys) = sumI xs + sumI ys := by
  induction xs with
  | nil => simp [sumI_nil]
  | cons x xs ih => rw [List.cons_append, sumI_cons, sumI_cons, ih]; omega
theorem sumI_take {xs : List Int} {k : Nat} {x : Int} (h : xs[k]? = some x) : sumI (xs.take (k + 1)) = sumI (xs.take k) + x := by
  obtain ⟨hk, rfl⟩ := List.getElem?_eq_some_iff.1 h
  rw [List.take_succ_eq_append_getElem hk, sumI_append, sumI_cons, sumI_nil]; omega
/-- numbers so small that no sum of them wraps -/
def Small (xs : List Int) : Prop := ∀ x ∈ xs, -1048576 ≤ x ∧ x ≤ 1048576
theorem sumI_bd {xs : List Int} (h : Small xs) : -(1048576 * (xs.length : Int)) ≤ sumI xs ∧ sumI xs ≤ 1048576 * (xs.length : Int) := by
  induction xs with
  | nil => simp [sumI_nil]
  | cons x xs ih =>
    have h1 := h x (by simp)
    have h2 := ih (fun y hy => h y (by simp [hy]))
    rw [sumI_cons, List.length_cons]
    omega
theorem Small.take {xs : List Int} (h : Small xs) (k : Nat) : Small (xs.take k) := fun x hx => h x (List.mem_of_mem_take hx)
theorem Small.at {xs : List Int} (h : Small xs) {k : Nat} {x : Int} (hx : xs[k]? = some x) : -1048576 ≤ x ∧ x ≤ 1048576 := h x (List.mem_of_getElem? hx)

set_option maxHeartbeats 400000 in
theorem l1Sum_any (a : Option Addr) (n c : Nat) (xs : List Int) (w : World) (hr : RI w a xs) (hn : xs.length = n) (hb : n ≤ 1048576) (hs : Small xs) :
    Calls Try.prog 16 #[.slice a n c] w fun e w' => e = .returned (.int .i64 (sumI xs)) ∧ w = w' := by
  have Hn := Lib.hid hn; clear hn
  have HS := Lib.hid hs; clear hs
  go_enter Try.func16, Try.ntmps16
  go_wp2
  go_loop [3, 4] (fun s i => ∃ k : Nat, k ≤ n ∧ i = .int .i64 k ∧ s = .int .i64 (sumI (xs.take k))) (fun _ i => n - (intOf i).toNat)
  case atStart => exact ⟨0, Nat.zero_le _, rfl, rfl⟩
  case round =>
    obtain ⟨k, hk, rfl, rfl⟩ := hrel
    by_cases hlt : k < n
    · obtain ⟨b, off, rfl, hcell⟩ := hr.at (k := k) (by rw [Hn.out]; exact hlt)
      obtain ⟨x, hx⟩ := some_at Hn.out hlt
      have hc := hcell k x hx
      have hxb := HS.out.at hx
      have hsb := sumI_bd (HS.out.take k)
      have hst := Lib.hid (sumI_take hx)
      have hlk : (xs.take k).length = k := by rw [List.length_take, Hn.out]; omega
      rw [hlk] at hsb
      clear hcell hx hlk
      obtain ⟨s, hsv⟩ : ∃ s, sumI (xs.take k) = s := ⟨_, rfl⟩
      rw [hsv] at hsb ⊢
      have Hv := Lib.hid hsv; clear hsv
      go_wp2
      go_round
      case rel => exact ⟨k + 1, by omega, by go_num, by rw [hst.out, Hv.out]⟩
      case measure => simp [intOf]; omega
    · obtain rfl : k = n := by omega
      go_wp2
      go_ret
      exact ⟨ret_int (by rw [List.take_of_length_le (by rw [Hn.out]; omega)]), rfl⟩
end Go.Proofs.Ytpjkhkoecgjjbaa
