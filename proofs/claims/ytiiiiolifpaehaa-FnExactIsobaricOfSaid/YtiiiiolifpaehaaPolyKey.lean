/-
  Keys and exponents: l2Unit, l2At, l2Key, l2Exp.
-/
import Derived.Test.YtiiiiolifpaehaaPolyOps
import Derived.Test.YtiiiiolifpaehaaApp
namespace Go.Proofs.Ytiiiiolifpaehaa
open Go.RowKit

theorem seven {i : Nat} (h : i ≤ 6) : i = 0 ∨ i = 1 ∨ i = 2 ∨ i = 3 ∨ i = 4 ∨ i = 5 ∨ i = 6 := by omega
theorem l2Unit_any (i : Nat) (I : Int) (w : World) (hI : I = (i : Int)) (hi : i ≤ 6) :
    Calls Try.prog 211 #[.int .i64 I] w fun e w' => e = .returned (.int .i64 (unit i)) ∧ w' = w := by
  subst hI
  rcases seven hi with rfl | rfl | rfl | rfl | rfl | rfl | rfl <;>
  · go_enter Try.func211, Try.ntmps211
    go_wp2
    go_ret
    exact ⟨ret_int (by decide), rfl⟩
theorem and127 (x : Int) (h : 0 ≤ x ∧ x ≤ 9223372036854775807) : IntKind.i64.wrap (((BitVec.ofInt 64 x &&& BitVec.ofInt 64 127).toNat : Nat) : Int) = x % 128 := by
  have e : (BitVec.ofInt 64 x &&& BitVec.ofInt 64 127).toNat = x.toNat % 128 := by
    rw [BitVec.toNat_and]
    have h1 : (BitVec.ofInt 64 x).toNat = x.toNat := by
      rw [BitVec.toNat_ofInt]
      omega
    rw [h1]
    have : (BitVec.ofInt 64 127).toNat = 2 ^ 7 - 1 := by decide
    rw [this, Nat.and_two_pow_sub_one_eq_mod]
  rw [e, IntWalk.i64_in _ (by omega)]
  omega
theorem bits127 {x : Int} (h : 0 ≤ x ∧ x ≤ 9223372036854775807) : bits .and .i64 x 127 = x % 128 := by
  exact and127 x h
theorem l2At_any (k : Int) (i : Nat) (I : Int) (w : World) (hk : inK k) (hI : I = (i : Int)) (hi : i ≤ 6) :
    Calls Try.prog 251 #[.int .i64 k, .int .i64 I] w fun e w' => e = .returned (.int .i64 (dig k i)) ∧ w' = w := by
  subst hI
  unfold inK at hk
  rcases seven hi with rfl | rfl | rfl | rfl | rfl | rfl | rfl <;>
  · go_enter Try.func251, Try.ntmps251
    go_wp2
    go_ret
    refine ⟨ret_int ?_, rfl⟩
    first | rw [dig0] | rw [dig1] | rw [dig2] | rw [dig3] | rw [dig4] | rw [dig5] | rw [dig6]
    exact bits127 (by omega)

/-- a key out of a list of exponents -/
def keyL : List Int → Int
  | [] => 0
  | x :: r => x + 128 * keyL r
def Digs (xs : List Int) : Prop := ∀ x ∈ xs, isD x
theorem keyL_range {xs : List Int} (h : Digs xs) : 0 ≤ keyL xs ∧ keyL xs < 128 ^ xs.length := by
  induction xs with
  | nil => simp [keyL]
  | cons x r ih =>
    have h1 := h x List.mem_cons_self
    obtain ⟨h2, h3⟩ := ih fun y hy => h y (List.mem_cons_of_mem _ hy)
    rw [keyL, List.length_cons, Int.pow_succ]
    unfold isD at h1
    omega
theorem pow_le7 {n : Nat} (h : n ≤ 7) : (128 : Int) ^ n ≤ 562949953421312 := by
  have hc : n = 0 ∨ n = 1 ∨ n = 2 ∨ n = 3 ∨ n = 4 ∨ n = 5 ∨ n = 6 ∨ n = 7 := by omega
  rcases hc with rfl | rfl | rfl | rfl | rfl | rfl | rfl | rfl <;> decide
theorem keyL_small {xs : List Int} (h : Digs xs) (hl : xs.length ≤ 7) : inK (keyL xs) := by
  have h1 := keyL_range h
  have h2 := pow_le7 hl
  unfold inK
  omega
theorem keyL_drop {xs : List Int} {m : Nat} {x : Int} (hx : xs[m]? = some x) : keyL (xs.drop m) = x + 128 * keyL (xs.drop (m + 1)) := by
  rw [drop_at hx, keyL]
theorem Digs.drop {xs : List Int} (h : Digs xs) (m : Nat) : Digs (xs.drop m) := fun x hx => h x (List.mem_of_mem_drop hx)

set_option maxRecDepth 100000 in
set_option maxHeartbeats 800000 in
theorem l2Key_any (a : Option Addr) (n c : Nat) (xs : List Int) (w : World) (hr : RI w a xs) (hn : xs.length = n) (hb : n ≤ 7) (hd : Digs xs) :
    Calls Try.prog 147 #[.slice a n c] w fun e w' => e = .returned (.int .i64 (keyL xs)) ∧ w' = w := by
  have Hn := Lib.hid hn; clear hn
  have Hd := Lib.hid hd; clear hd
  have q0 : IntKind.i64.wrap ((n : Int) - 1) = (n : Int) - 1 := IntWalk.i64_in _ (by omega)
  go_enter Try.func147, Try.ntmps147
  go_wp2
  go_loop [3, 4] (fun kv iv => ∃ m : Nat, m ≤ n ∧ iv = .int .i64 ((m : Int) - 1) ∧ kv = .int .i64 (keyL (xs.drop m))) (fun _ iv => (intOf iv + 1).toNat)
  case atStart => exact ⟨n, Nat.le_refl _, rfl, by rw [List.drop_of_length_le (by rw [Hn.out]; exact Nat.le_refl _)]; rfl⟩
  case round =>
    clear q0
    obtain ⟨m, hm, rfl, rfl⟩ := hrel
    by_cases h0 : 0 < m
    · obtain ⟨p, rfl⟩ : ∃ p, m = p + 1 := ⟨m - 1, by omega⟩
      obtain ⟨b, off, rfl, hcell⟩ := hr.at (k := p) (by rw [Hn.out]; omega)
      obtain ⟨x, hx⟩ := some_at Hn.out (show p < n by omega)
      have hc := hcell p x hx
      have hk := keyL_drop hx
      have hxd := Hd.out x (List.mem_of_getElem? hx)
      have hr1 := keyL_range (Hd.out.drop (p + 1))
      have hr2 := pow_le7 (n := (xs.drop (p + 1)).length) (by rw [List.length_drop, Hn.out]; omega)
      unfold isD at hxd
      have hp1 : ((p + 1 : Nat) : Int) - 1 = (p : Int) := by omega
      rw [hp1]
      have Hx := Lib.hid hx
      have Hk := Lib.hid hk
      obtain ⟨K, hK⟩ : ∃ K, keyL (xs.drop (p + 1)) = K := ⟨_, rfl⟩
      rw [hK] at hr1 Hk ⊢
      clear hx hcell hk hK hp1
      have q1 : (p : Int) < (n : Int) := by omega
      have q2 : (0 : Int) ≤ (p : Int) := by omega
      have q3 : IntKind.i64.wrap (K * 128) = K * 128 := IntWalk.i64_in _ (by omega)
      have q4 : IntKind.i64.wrap (K * 128 + x) = K * 128 + x := IntWalk.i64_in _ (by omega)
      have q5 : IntKind.i64.wrap ((p : Int) - 1) = (p : Int) - 1 := IntWalk.i64_in _ (by omega)
      go_wp2
      go_round
      case rel => exact ⟨p, by omega, rfl, by rw [Hk.out, Int.add_comm, Int.mul_comm]⟩
      case measure => clear q3 q4 q5; simp [intOf]
    · obtain rfl : m = 0 := by omega
      rw [List.drop_zero]
      go_wp2
      go_ret
      exact ⟨rfl, rfl⟩

def digs (k : Int) : List Int := (List.range 7).map fun i => dig k i
theorem digs_length (k : Int) : (digs k).length = 7 := by simp [digs]
theorem digs_at {k : Int} {i : Nat} (h : i < 7) : (digs k)[i]? = some (dig k i) := by simp [digs, h]
theorem digs_take_succ {k : Int} {i : Nat} (h : i < 7) : (digs k).take i ++ [dig k i] = (digs k).take (i + 1) := (take_at (digs_at h)).symm
theorem div_pow (k : Int) (i : Nat) : k / 128 ^ i / 128 = k / 128 ^ (i + 1) := by
  have hp : (0 : Int) < 128 ^ i := Int.pow_pos (by omega)
  rw [Int.pow_succ, Int.ediv_ediv, if_neg (by omega), Int.sub_zero]
theorem div_small {k : Int} (h : inK k) (i : Nat) : 0 ≤ k / 128 ^ i ∧ k / 128 ^ i < 562949953421312 := by
  unfold inK at h
  have hp : (0 : Int) < 128 ^ i := Int.pow_pos (by omega)
  exact ⟨Int.ediv_nonneg h.1 (by omega), Int.lt_of_le_of_lt (Int.ediv_le_self _ h.1) h.2⟩

set_option maxRecDepth 100000 in
set_option maxHeartbeats 800000 in
theorem l2Exp_any (k : Int) (w : World) (hk : inK k) :
    Calls Try.prog 208 #[.int .i64 k] w fun e w' => ∃ a' c', e = .returned (.slice a' 7 c') ∧ OwI w' w.heap.size w'.heap.size a' 7 c' (digs k) ∧ Below w.heap.size w w' := by
  have h1 : OwI (w.alloc (.cells #[] 3)) w.heap.size (w.alloc (.cells #[] 3)).heap.size (some ⟨w.heap.size, 0, none⟩) 0 0 [] := OwI.mk (World.ownsRow_made _ #[] 0 (Nat.le_refl _) (Nat.zero_le _) rfl)
  have hB0 : Below w.heap.size w (w.alloc (.cells #[] 3)) := (Below.refl _ _).alloc (Nat.le_refl _) _
  go_enter Try.func208, Try.ntmps208
  go_wp2
  go_loopw [0, 3, 4] (fun kv ov iv wr => Hid (∃ (j : Nat) (a' : Option Addr) (c' : Nat), j ≤ 7 ∧ iv = .int .i64 j ∧ kv = .int .i64 (k / 128 ^ j) ∧ ov = .slice a' j c' ∧ OwI wr w.heap.size wr.heap.size a' j c' ((digs k).take j)) ∧ Below w.heap.size w wr) (fun _ _ iv _ => 7 - (intOf iv).toNat)
  case atStart => exact ⟨⟨0, _, _, by omega, rfl, by simp, rfl, h1⟩, hB0⟩
  case round =>
    clear h1 hB0
    obtain ⟨HV, hB⟩ := hrel
    obtain ⟨wo, rfl⟩ : ∃ wo : World, wo = wr := ⟨_, rfl⟩
    obtain ⟨j, a1, c1, hj, rfl, rfl, rfl, ho⟩ := HV.out
    clear HV
    have hbs := hB.size
    by_cases hlt : j < 7
    · have hd := div_small hk j
      have hnx := div_pow k j
      have hst := digs_take_succ (k := k) hlt
      have hdg : k / 128 ^ j % 128 = dig k j := rfl
      obtain ⟨K, hK⟩ : ∃ K, k / 128 ^ j = K := ⟨_, rfl⟩
      rw [hK] at hd hnx hdg ⊢
      obtain ⟨hd1, hd2⟩ := hd
      have Hnx := Lib.hid hnx
      have Hdg := Lib.hid hdg
      have Hst := Lib.hid hst
      clear hnx hdg hst hK
      have q1 : (j : Int) < 7 := by omega
      have q2 : IntKind.i64.wrap (K.tdiv 128) = K / 128 := IntWalk.i64_quo _ _ (by omega)
      have HO := Lib.hid ho
      clear ho
      go_wp2_with (first | (at_builtin; go_loud (refine wpList_pushI (by rfl) (by rfl) _ _ (by rfl) HO.out (by rfl) (by rfl) (by omega) hbs ?_)))
      intro a3 c3 w4 ho3 hg3
      have hB4 := below_grown hB hg3.grown hbs HO.out.1.lo
      rw [Hdg.out, Hst.out] at ho3
      have HO3 := Lib.hid ho3
      clear ho3 HO hg3 hB
      go_wp2
      go_roundw
      case rel => exact ⟨⟨j + 1, _, _, by omega, by go_num, by rw [Hnx.out], rfl, HO3.out⟩, hB4⟩
      case measure => simp [intOf]; omega
    · obtain rfl : j = 7 := by omega
      rw [List.take_of_length_le (by rw [digs_length]; exact Nat.le_refl _)] at ho
      have HO := Lib.hid ho
      clear ho
      go_wp2
      go_ret
      exact ⟨_, _, rfl, HO.out, hB⟩
end Go.Proofs.Ytiiiiolifpaehaa
