/-
  Contracts of l4Bare, shortened and shapeOfRows: a list without the zeros at its end.
-/
import Derived.Test.YtleehkgfoicmdaaShapesIn
import Derived.Test.YtleehkgfoicmdaaDescents
namespace Go.Proofs.Ytleehkgfoicmdaa
open Go.RowKit

/-- how many numbers are left before the zeros at the end of the first k -/
def bareLen (xs : List Int) : Nat → Nat
  | 0 => 0
  | k + 1 => if xs.getD k 0 = 0 then bareLen xs k else k + 1
def bare (xs : List Int) : List Int := xs.take (bareLen xs xs.length)
theorem bareLen_le (xs : List Int) (k : Nat) : bareLen xs k ≤ k := by
  induction k with
  | zero => exact Nat.le_refl _
  | succ k ih => unfold bareLen; split <;> omega
theorem bare_length (xs : List Int) : (bare xs).length ≤ xs.length := by
  unfold bare; rw [List.length_take]; omega
theorem OwI.taken {w : World} {B S : Nat} {a : Option Addr} {n c : Nat} {xs : List Int} (h : OwI w B S a n c xs) {k : Nat} (hk : k ≤ n) : OwI w B S a k c (xs.take k) := by
  refine ⟨OS.of ⟨?_, ?_⟩, fun j hj => h.2 j (by cases a with | none => simp [Value.ownBlock] at hj | some p => exact hj)⟩
  · have := h.len; simp [ints]; omega
  · rcases h.1.own.2 with ⟨h1, h2⟩ | ⟨g, cap, cur, hv, hg, hb, h3, h4, h5, h6⟩
    · simp only [Value.slice.injEq] at h1
      obtain ⟨rfl, rfl, rfl⟩ := h1
      obtain rfl : k = 0 := by omega
      exact .inl ⟨rfl, rfl⟩
    · simp only [Value.slice.injEq] at hv
      obtain ⟨rfl, _, rfl⟩ := hv
      refine .inr ⟨g, c, cur, rfl, hg, hb, by omega, h4, h5, ?_⟩
      simp only [Nat.mul_one] at h6 ⊢
      simp only [ints] at h6 ⊢
      rw [List.map_take]
      rw [← h6, List.take_take, Nat.min_eq_left hk]

set_option maxRecDepth 100000 in
set_option maxHeartbeats 800000 in
theorem shortened_any (a : Option Addr) (n c : Nat) (xs : List Int) (w : World) (hr : RI w a xs) (hn : xs.length = n) (hb : n ≤ 1048576) (hcap : n ≤ c) :
    Calls Try.prog 121 #[.slice a n c] w fun e w' => e = .returned (.slice a (bareLen xs n) c) ∧ w = w' := by
  have Hn := Lib.hid hn; clear hn
  go_enter Try.func121, Try.ntmps121
  go_wp2
  go_loop [3] (fun i => ∃ k : Nat, k ≤ n ∧ i = .int .i64 k ∧ Hid (bareLen xs n = bareLen xs k)) (fun i => (intOf i).toNat)
  case atStart => exact ⟨n, Nat.le_refl _, rfl, by exact rfl⟩
  case round =>
    obtain ⟨k, hk, rfl, HA⟩ := hrel
    rcases k with _ | k
    · have hk0 : ¬ (0 : Int) < ((0 : Nat) : Int) := by omega
      go_wp2
      go_ret
      exact ⟨by rw [HA.out]; rfl, rfl⟩
    · obtain ⟨b, off, rfl, hcell⟩ := hr.at (k := k) (by rw [Hn.out]; omega)
      obtain ⟨x, hx⟩ := some_at (k := k) Hn.out (by omega)
      have hc := hcell k x hx
      clear hcell
      have hst : bareLen xs (k + 1) = if x = 0 then bareLen xs k else k + 1 := by rw [bareLen, getD_of hx]
      clear hx
      have q0 : (0 : Int) < ((k + 1 : Nat) : Int) := by omega
      have q1 : IntKind.i64.wrap (((k + 1 : Nat) : Int) - 1) = (k : Int) := by rw [IntWalk.i64_in _ (by omega)]; omega
      have q2 : (k : Int) < (n : Int) := by omega
      have hkc : k + 1 ≤ c := by omega
      by_cases h0 : x = 0
      · rw [if_pos h0] at hst
        have Hst := Lib.hid hst; clear hst
        have h0b : (x == 0) = true := by simp [h0]
        go_wp2
        go_round
        case rel => exact ⟨k, by omega, by go_num, by rw [HA.out]; exact Hst.out⟩
        case measure => simp [intOf]
      · rw [if_neg h0] at hst
        have Hst := Lib.hid hst; clear hst
        have h0b : (x == 0) = false := by simp [h0]
        go_wp2
        go_ret
        exact ⟨by rw [HA.out, Hst.out]; rfl, rfl⟩

theorem RI.taken {w : World} {a : Option Addr} {xs : List Int} (h : RI w a xs) (k : Nat) : RI w a (xs.take k) := by
  rcases h with rfl | ⟨b, off, ha, hc⟩
  · exact .inl (by simp)
  · exact .inr ⟨b, off, ha, fun j y hy => hc j y (by
      rw [List.getElem?_take] at hy; split at hy
      · exact hy
      · cases hy)⟩
theorem shapeOfRows_any (B S : Nat) (a : Option Addr) (n c : Nat) (xs : List Int) (w : World) (ho : OwI w B S a n c xs) (hb : n ≤ 1048576) :
    Calls Try.prog 80 #[.slice a n c] w fun e w' => ∃ n', e = .returned (.slice a n' c) ∧ OwI w' B S a n' c (bare xs) ∧ w = w' := by
  have hl := ho.len
  have hres : OwI w B S a (bareLen xs n) c (bare xs) := by
    have := ho.taken (bareLen_le xs n)
    unfold bare; rw [hl]; exact this
  have hlt := ho.1.lt
  go_enter Try.func80, Try.ntmps80
  go_wp2_with fail
  refine (shortened_any _ _ _ xs _ ho.rd hl hb hlt).mono ?_
  rintro e w1 ⟨rfl, rfl⟩
  go_wp2
  go_ret
  exact ⟨_, rfl, hres, rfl⟩

set_option maxRecDepth 100000 in
set_option maxHeartbeats 800000 in
theorem l4Bare_any (a : Option Addr) (n c : Nat) (xs : List Int) (w : World) (hr : RI w a xs) (hn : xs.length = n) (hb : n ≤ 1048576) (hcap : n ≤ c) :
    Calls Try.prog 78 #[.slice a n c] w fun e w' => ∃ a' n' c', e = .returned (.slice a' n' c') ∧ OwI w' w.heap.size w'.heap.size a' n' c' (bare xs) ∧ Below w.heap.size w w' := by
  have Hn := Lib.hid hn; clear hn
  go_enter Try.func78, Try.ntmps78
  go_wp2
  go_loop [3] (fun i => ∃ k : Nat, k ≤ n ∧ i = .int .i64 k ∧ Hid (bareLen xs n = bareLen xs k)) (fun i => (intOf i).toNat)
  case atStart => exact ⟨n, Nat.le_refl _, rfl, by exact rfl⟩
  case round =>
    obtain ⟨k, hk, rfl, HA⟩ := hrel
    have hrt := hr.taken k
    have hlt : (xs.take k).length = k := by rw [List.length_take, Hn.out]; omega
    rcases k with _ | k
    · have hk0 : ¬ (0 : Int) < ((0 : Nat) : Int) := by omega
      go_wp2_with fail
      refine (l1Ints_any _ _ _ (xs.take 0) _ hrt hlt (by omega)).mono ?_
      rintro e w1 ⟨a', c', rfl, ho, hb1⟩
      go_wp2
      go_ret
      exact ⟨_, _, _, rfl, by rw [bare, Hn.out, HA.out]; exact ho, hb1⟩
    · obtain ⟨b, off, rfl, hcell⟩ := hr.at (k := k) (by rw [Hn.out]; omega)
      obtain ⟨x, hx⟩ := some_at (k := k) Hn.out (by omega)
      have hc := hcell k x hx
      clear hcell
      have hst : bareLen xs (k + 1) = if x = 0 then bareLen xs k else k + 1 := by rw [bareLen, getD_of hx]
      clear hx
      have q0 : (0 : Int) < ((k + 1 : Nat) : Int) := by omega
      have q1 : IntKind.i64.wrap (((k + 1 : Nat) : Int) - 1) = (k : Int) := by rw [IntWalk.i64_in _ (by omega)]; omega
      have q2 : (k : Int) < (n : Int) := by omega
      have hkc : k + 1 ≤ c := by omega
      by_cases h0 : x = 0
      · rw [if_pos h0] at hst
        have Hst := Lib.hid hst; clear hst
        have h0b : (x == 0) = true := by simp [h0]
        go_wp2
        go_round
        case rel => exact ⟨k, by omega, by go_num, by rw [HA.out]; exact Hst.out⟩
        case measure => simp [intOf]
      · rw [if_neg h0] at hst
        have Hst := Lib.hid hst; clear hst
        have Hlt := Lib.hid hlt; clear hlt
        have h0b : (x == 0) = false := by simp [h0]
        go_wp2_with fail
        refine (l1Ints_any _ _ _ (xs.take (k + 1)) _ hrt Hlt.out (by omega)).mono ?_
        rintro e w1 ⟨a', c', rfl, ho, hb1⟩
        go_wp2
        go_ret
        exact ⟨_, _, _, rfl, by rw [bare, Hn.out, HA.out, Hst.out]; exact ho, hb1⟩
end Go.Proofs.Ytleehkgfoicmdaa
