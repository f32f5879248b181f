/-
  Contracts of l1Trim and TrimPerm: places at the end that are not moved, left away.
-/
import Derived.Test.YtocgcgmlemoekaaBuA
import Derived.Test.YtocgcgmlemoekaaPerm
namespace Go.Proofs.Ytocgcgmlemoekaa
open Go.RowKit

/-- how many places are left of the first n -/
def trimLen (xs : List Int) : Nat → Nat
  | 0 => 0
  | 1 => 1
  | n + 2 => if xs.getD (n + 1) 0 = ((n + 1 : Nat) : Int) then trimLen xs (n + 1) else n + 2
def trim (xs : List Int) : List Int := xs.take (trimLen xs xs.length)
theorem trimLen_small (xs : List Int) {m : Nat} (h : m ≤ 1) : trimLen xs m = m := by
  rcases m with _ | _ | m
  · rfl
  · rfl
  · omega
theorem trimLen_go {xs : List Int} {m : Nat} {y : Int} (h : 1 < m) (hy : xs[m - 1]? = some y) (he : y = (m : Int) - 1) : trimLen xs m = trimLen xs (m - 1) := by
  obtain ⟨k, rfl⟩ : ∃ k, m = k + 2 := ⟨m - 2, by omega⟩
  have e : k + 2 - 1 = k + 1 := by omega
  rw [e] at hy ⊢
  rw [trimLen, if_pos (by rw [getD_of hy, he]; omega)]
theorem trimLen_stop {xs : List Int} {m : Nat} {y : Int} (h : 1 < m) (hy : xs[m - 1]? = some y) (he : y ≠ (m : Int) - 1) : trimLen xs m = m := by
  obtain ⟨k, rfl⟩ : ∃ k, m = k + 2 := ⟨m - 2, by omega⟩
  have e : k + 2 - 1 = k + 1 := by omega
  rw [e] at hy
  rw [trimLen, if_neg (by rw [getD_of hy]; intro h1; omega)]
theorem trimLen_le (xs : List Int) (m : Nat) : trimLen xs m ≤ m := by
  induction m with
  | zero => exact Nat.le_refl _
  | succ m ih =>
    rcases m with _ | m
    · exact Nat.le_refl _
    · rw [trimLen]; split <;> omega
theorem RI.take {w : World} {a : Option Addr} {xs : List Int} (h : RI w a xs) (m : Nat) : RI w a (xs.take m) := by
  rcases h with rfl | ⟨b, off, ha, hc⟩
  · left; simp
  · refine .inr ⟨b, off, ha, fun k x hx => hc k x ?_⟩
    rw [List.getElem?_take] at hx; split at hx
    · exact hx
    · cases hx

set_option maxRecDepth 100000 in
set_option maxHeartbeats 800000 in
theorem l1Trim_any (a : Option Addr) (n c : Nat) (xs : List Int) (w : World) (hr : RI w a xs) (hn : xs.length = n) (hb : n ≤ 1048576) (hnc : n ≤ c) :
    Calls Try.prog 154 #[.slice a n c] w fun e w' => ∃ a' c', e = .returned (.slice a' (trimLen xs n) c') ∧ OwI w' w.heap.size w'.heap.size a' (trimLen xs n) c' (xs.take (trimLen xs n)) ∧ Below w.heap.size w w' := by
  have Hn := Lib.hid hn; clear hn
  obtain ⟨r, hr0⟩ : ∃ r, trimLen xs n = r := ⟨_, rfl⟩
  have hrn : r ≤ n := by rw [← hr0]; exact trimLen_le xs n
  rw [hr0]
  have HR := Lib.hid hr0; clear hr0
  go_enter Try.func154, Try.ntmps154
  go_wp2
  go_loop [3] (fun i => ∃ k : Nat, k ≤ n ∧ i = .int .i64 k ∧ Hid (trimLen xs k = r)) (fun i => (intOf i).toNat)
  case atStart => exact ⟨n, Nat.le_refl _, rfl, HR⟩
  case round =>
    obtain ⟨k, hk, rfl, HK⟩ := hrel
    by_cases h1 : 1 < k
    · obtain ⟨b, off, rfl, hcell⟩ := hr.at (k := k - 1) (by rw [Hn.out]; omega)
      obtain ⟨y, hy⟩ := some_at (k := k - 1) Hn.out (by omega)
      have hc := hcell (k - 1) y hy
      have Hy := Lib.hid hy; clear hy hcell
      have q1 : (0 : Int) ≤ (k : Int) - 1 := by omega
      have q2 : (k : Int) - 1 < (n : Int) := by omega
      by_cases he : y = (k : Int) - 1
      · have Hk := Lib.hid ((trimLen_go h1 Hy.out he).symm.trans HK.out)
        have e1 : (y == (k : Int) - 1) = true := by simp [he]
        have He := Lib.hid he; clear he
        have q3 : IntKind.i64.wrap ((k : Int) - 1) = (k : Int) - 1 := IntWalk.i64_in _ (by omega)
        have q4 : ((k : Int) - 1).toNat = k - 1 := by omega
        go_wp2
        go_round
        case rel =>
          clear q3 q4
          exact ⟨k - 1, by omega, by go_num, Hk⟩
        case measure => clear q3 q4; simp [intOf]; omega
      · have Hk := Lib.hid ((trimLen_stop h1 Hy.out he).symm.trans HK.out)
        have e1 : (y == (k : Int) - 1) = false := by simp [he]
        obtain rfl : k = r := Hk.out
        have hrt := hr.take k
        have hlt : (xs.take k).length = k := by rw [List.length_take, Hn.out]; omega
        have Hlt := Lib.hid hlt; clear hlt
        have q5 : (k : Int) ≤ (c : Int) := by omega
        have q3 : IntKind.i64.wrap ((k : Int) - 1) = (k : Int) - 1 := IntWalk.i64_in _ (by omega)
        have q4 : ((k : Int) - 1).toNat = k - 1 := by omega
        have hc0 : ¬ c = 0 := by omega
        go_wp2_with fail
        clear q3 q4
        refine (l1Ints_any _ _ _ (xs.take k) _ hrt Hlt.out (by omega)).mono ?_
        rintro e w1 ⟨a1, c1, rfl, ho, hB⟩
        go_wp2
        go_ret
        exact ⟨_, _, rfl, ho, hB⟩
    · have Hk := Lib.hid ((trimLen_small xs (m := k) (by omega)).symm.trans HK.out)
      obtain rfl : k = r := Hk.out
      have hrt := hr.take k
      have hlt : (xs.take k).length = k := by rw [List.length_take, Hn.out]; omega
      have Hlt := Lib.hid hlt; clear hlt
      have q5 : (k : Int) ≤ (c : Int) := by omega
      by_cases hc0 : c = 0
      · go_wp2_with fail
        refine (l1Ints_any _ _ _ (xs.take k) _ hrt Hlt.out (by omega)).mono ?_
        rintro e w1 ⟨a1, c1, rfl, ho, hB⟩
        go_wp2
        go_ret
        exact ⟨_, _, rfl, ho, hB⟩
      · go_wp2_with fail
        refine (l1Ints_any _ _ _ (xs.take k) _ hrt Hlt.out (by omega)).mono ?_
        rintro e w1 ⟨a1, c1, rfl, ho, hB⟩
        go_wp2
        go_ret
        exact ⟨_, _, rfl, ho, hB⟩
set_option maxRecDepth 100000 in
set_option maxHeartbeats 800000 in
theorem implTrim_any (a : Option Addr) (n c : Nat) (xs : List Int) (w : World) (hr : RI w a xs) (hn : xs.length = n) (hb : n ≤ 1048576) (hnc : n ≤ c) (hp : isPerm xs = true) :
    Calls Try.prog 104 #[.slice a n c] w fun e w' => ∃ a' c', e = .returned (.slice a' (trimLen xs n) c') ∧ OwI w' w.heap.size w'.heap.size a' (trimLen xs n) c' (xs.take (trimLen xs n)) ∧ Below w.heap.size w w' := by
  have Hn := Lib.hid hn; clear hn
  obtain ⟨r, hr0⟩ : ∃ r, trimLen xs n = r := ⟨_, rfl⟩
  have hrn : r ≤ n := by rw [← hr0]; exact trimLen_le xs n
  rw [hr0]
  have HR := Lib.hid hr0; clear hr0
  have HP := Lib.hid hp; clear hp
  go_enter Try.func104, Try.ntmps104
  go_wp2_with fail
  refine (is (implIsPerm_any _ _ _ xs _ hr Hn.out (by omega)) HP.out).mono ?_
  rintro e w0 ⟨rfl, hb0⟩
  have hr := hr.below hb0
  go_wp2
  go_loop [3] (fun i => ∃ k : Nat, k ≤ n ∧ i = .int .i64 k ∧ Hid (trimLen xs k = r)) (fun i => (intOf i).toNat)
  case atStart => exact ⟨n, Nat.le_refl _, rfl, HR⟩
  case round =>
    obtain ⟨k, hk, rfl, HK⟩ := hrel
    by_cases h1 : 1 < k
    · obtain ⟨b, off, rfl, hcell⟩ := hr.at (k := k - 1) (by rw [Hn.out]; omega)
      obtain ⟨y, hy⟩ := some_at (k := k - 1) Hn.out (by omega)
      have hc := hcell (k - 1) y hy
      have Hy := Lib.hid hy; clear hy hcell
      have q1 : (0 : Int) ≤ (k : Int) - 1 := by omega
      have q2 : (k : Int) - 1 < (n : Int) := by omega
      by_cases he : y = (k : Int) - 1
      · have Hk := Lib.hid ((trimLen_go h1 Hy.out he).symm.trans HK.out)
        have e1 : (y == (k : Int) - 1) = true := by simp [he]
        have He := Lib.hid he; clear he
        have q3 : IntKind.i64.wrap ((k : Int) - 1) = (k : Int) - 1 := IntWalk.i64_in _ (by omega)
        have q4 : ((k : Int) - 1).toNat = k - 1 := by omega
        go_wp2
        go_round
        case rel =>
          clear q3 q4
          exact ⟨k - 1, by omega, by go_num, Hk⟩
        case measure => clear q3 q4; simp [intOf]; omega
      · have Hk := Lib.hid ((trimLen_stop h1 Hy.out he).symm.trans HK.out)
        have e1 : (y == (k : Int) - 1) = false := by simp [he]
        obtain rfl : k = r := Hk.out
        have hrt := hr.take k
        have hlt : (xs.take k).length = k := by rw [List.length_take, Hn.out]; omega
        have Hlt := Lib.hid hlt; clear hlt
        have q5 : (k : Int) ≤ (c : Int) := by omega
        have q3 : IntKind.i64.wrap ((k : Int) - 1) = (k : Int) - 1 := IntWalk.i64_in _ (by omega)
        have q4 : ((k : Int) - 1).toNat = k - 1 := by omega
        have hc0 : ¬ c = 0 := by omega
        go_wp2_with fail
        clear q3 q4
        refine (cloneI_any _ _ _ (xs.take k) _ hrt Hlt.out (by omega)).mono ?_
        rintro e w1 ⟨a1, c1, rfl, ho, hB⟩
        go_wp2
        go_ret
        exact ⟨_, _, rfl, ho.mono hb0.size (Nat.le_refl _), hb0.trans (hB.mono hb0.size)⟩
    · have Hk := Lib.hid ((trimLen_small xs (m := k) (by omega)).symm.trans HK.out)
      obtain rfl : k = r := Hk.out
      have hrt := hr.take k
      have hlt : (xs.take k).length = k := by rw [List.length_take, Hn.out]; omega
      have Hlt := Lib.hid hlt; clear hlt
      have q5 : (k : Int) ≤ (c : Int) := by omega
      by_cases hc0 : c = 0
      · go_wp2_with fail
        refine (cloneI_any _ _ _ (xs.take k) _ hrt Hlt.out (by omega)).mono ?_
        rintro e w1 ⟨a1, c1, rfl, ho, hB⟩
        go_wp2
        go_ret
        exact ⟨_, _, rfl, ho.mono hb0.size (Nat.le_refl _), hb0.trans (hB.mono hb0.size)⟩
      · go_wp2_with fail
        refine (cloneI_any _ _ _ (xs.take k) _ hrt Hlt.out (by omega)).mono ?_
        rintro e w1 ⟨a1, c1, rfl, ho, hB⟩
        go_wp2
        go_ret
        exact ⟨_, _, rfl, ho.mono hb0.size (Nat.le_refl _), hb0.trans (hB.mono hb0.size)⟩
end Go.Proofs.Ytocgcgmlemoekaa
