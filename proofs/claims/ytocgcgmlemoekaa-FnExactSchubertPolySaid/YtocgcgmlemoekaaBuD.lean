/-
  Keys and exponents: l2Unit, l2At, l2Key, l2Exp.
  Slices of monomials (a key, a coefficient): what they read as, what a call owns of them; appended to.
  Lists of monomials merged: runs, sums of runs, what is left of them.
-/
import Derived.Test.YtocgcgmlemoekaaBuC
import Derived.Test.YtocgcgmlemoekaaBuA
import Derived.StillTailTactics
namespace Go.Proofs.Ytocgcgmlemoekaa
open Go.RowKit

theorem seven {i : Nat} (h : i ≤ 6) : i = 0 ∨ i = 1 ∨ i = 2 ∨ i = 3 ∨ i = 4 ∨ i = 5 ∨ i = 6 := by omega
theorem l2Unit_any (i : Nat) (I : Int) (w : World) (hI : I = (i : Int)) (hi : i ≤ 6) :
    Calls Try.prog 162 #[.int .i64 I] w fun e w' => e = .returned (.int .i64 (unit i)) ∧ w' = w := by
  subst hI
  rcases seven hi with rfl | rfl | rfl | rfl | rfl | rfl | rfl <;>
  · go_enter Try.func162, Try.ntmps162
    go_wp2
    go_ret
    exact ⟨ret_int (by decide), rfl⟩
theorem and127 (x : Int) (h : 0 ≤ x ∧ x ≤ 9223372036854775807) : IntKind.i64.wrap (((BitVec.ofInt 64 x &&& BitVec.ofInt 64 127).toNat : Nat) : Int) = x % 128 := by
  have e : (BitVec.ofInt 64 x &&& BitVec.ofInt 64 127).toNat = x.toNat % 128 := by
    rw [BitVec.toNat_and]
    have h1 : (BitVec.ofInt 64 x).toNat = x.toNat := by
      rw [BitVec.toNat_ofInt]
      omega
    rw [h1]
    have : (BitVec.ofInt 64 127).toNat = 2 ^ 7 - 1 := by decide
    rw [this, Nat.and_two_pow_sub_one_eq_mod]
  rw [e, IntWalk.i64_in _ (by omega)]
  omega
theorem bits127 {x : Int} (h : 0 ≤ x ∧ x ≤ 9223372036854775807) : bits .and .i64 x 127 = x % 128 := by
  exact and127 x h
theorem l2At_any (k : Int) (i : Nat) (I : Int) (w : World) (hk : inK k) (hI : I = (i : Int)) (hi : i ≤ 6) :
    Calls Try.prog 197 #[.int .i64 k, .int .i64 I] w fun e w' => e = .returned (.int .i64 (dig k i)) ∧ w' = w := by
  subst hI
  unfold inK at hk
  rcases seven hi with rfl | rfl | rfl | rfl | rfl | rfl | rfl <;>
  · go_enter Try.func197, Try.ntmps197
    go_wp2
    go_ret
    refine ⟨ret_int ?_, rfl⟩
    first | rw [dig0] | rw [dig1] | rw [dig2] | rw [dig3] | rw [dig4] | rw [dig5] | rw [dig6]
    exact bits127 (by omega)

/-- a key out of a list of exponents -/
def keyL : List Int → Int
  | [] => 0
  | x :: r => x + 128 * keyL r
def Digs (xs : List Int) : Prop := ∀ x ∈ xs, isD x
theorem keyL_range {xs : List Int} (h : Digs xs) : 0 ≤ keyL xs ∧ keyL xs < 128 ^ xs.length := by
  induction xs with
  | nil => simp [keyL]
  | cons x r ih =>
    have h1 := h x List.mem_cons_self
    obtain ⟨h2, h3⟩ := ih fun y hy => h y (List.mem_cons_of_mem _ hy)
    rw [keyL, List.length_cons, Int.pow_succ]
    unfold isD at h1
    omega
theorem pow_le7 {n : Nat} (h : n ≤ 7) : (128 : Int) ^ n ≤ 562949953421312 := by
  have hc : n = 0 ∨ n = 1 ∨ n = 2 ∨ n = 3 ∨ n = 4 ∨ n = 5 ∨ n = 6 ∨ n = 7 := by omega
  rcases hc with rfl | rfl | rfl | rfl | rfl | rfl | rfl | rfl <;> decide
theorem keyL_small {xs : List Int} (h : Digs xs) (hl : xs.length ≤ 7) : inK (keyL xs) := by
  have h1 := keyL_range h
  have h2 := pow_le7 hl
  unfold inK
  omega
theorem keyL_drop {xs : List Int} {m : Nat} {x : Int} (hx : xs[m]? = some x) : keyL (xs.drop m) = x + 128 * keyL (xs.drop (m + 1)) := by
  rw [drop_at hx, keyL]
theorem Digs.drop {xs : List Int} (h : Digs xs) (m : Nat) : Digs (xs.drop m) := fun x hx => h x (List.mem_of_mem_drop hx)

set_option maxRecDepth 100000 in
set_option maxHeartbeats 800000 in
theorem l2Key_any (a : Option Addr) (n c : Nat) (xs : List Int) (w : World) (hr : RI w a xs) (hn : xs.length = n) (hb : n ≤ 7) (hd : Digs xs) :
    Calls Try.prog 76 #[.slice a n c] w fun e w' => e = .returned (.int .i64 (keyL xs)) ∧ w' = w := by
  have Hn := Lib.hid hn; clear hn
  have Hd := Lib.hid hd; clear hd
  have q0 : IntKind.i64.wrap ((n : Int) - 1) = (n : Int) - 1 := IntWalk.i64_in _ (by omega)
  go_enter Try.func76, Try.ntmps76
  go_wp2
  go_loop [3, 4] (fun kv iv => ∃ m : Nat, m ≤ n ∧ iv = .int .i64 ((m : Int) - 1) ∧ kv = .int .i64 (keyL (xs.drop m))) (fun _ iv => (intOf iv + 1).toNat)
  case atStart => exact ⟨n, Nat.le_refl _, rfl, by rw [List.drop_of_length_le (by rw [Hn.out]; exact Nat.le_refl _)]; rfl⟩
  case round =>
    clear q0
    obtain ⟨m, hm, rfl, rfl⟩ := hrel
    by_cases h0 : 0 < m
    · obtain ⟨p, rfl⟩ : ∃ p, m = p + 1 := ⟨m - 1, by omega⟩
      obtain ⟨b, off, rfl, hcell⟩ := hr.at (k := p) (by rw [Hn.out]; omega)
      obtain ⟨x, hx⟩ := some_at Hn.out (show p < n by omega)
      have hc := hcell p x hx
      have hk := keyL_drop hx
      have hxd := Hd.out x (List.mem_of_getElem? hx)
      have hr1 := keyL_range (Hd.out.drop (p + 1))
      have hr2 := pow_le7 (n := (xs.drop (p + 1)).length) (by rw [List.length_drop, Hn.out]; omega)
      unfold isD at hxd
      have hp1 : ((p + 1 : Nat) : Int) - 1 = (p : Int) := by omega
      rw [hp1]
      have Hx := Lib.hid hx
      have Hk := Lib.hid hk
      obtain ⟨K, hK⟩ : ∃ K, keyL (xs.drop (p + 1)) = K := ⟨_, rfl⟩
      rw [hK] at hr1 Hk ⊢
      clear hx hcell hk hK hp1
      have q1 : (p : Int) < (n : Int) := by omega
      have q2 : (0 : Int) ≤ (p : Int) := by omega
      have q3 : IntKind.i64.wrap (K * 128) = K * 128 := IntWalk.i64_in _ (by omega)
      have q4 : IntKind.i64.wrap (K * 128 + x) = K * 128 + x := IntWalk.i64_in _ (by omega)
      have q5 : IntKind.i64.wrap ((p : Int) - 1) = (p : Int) - 1 := IntWalk.i64_in _ (by omega)
      go_wp2
      go_round
      case rel => exact ⟨p, by omega, rfl, by rw [Hk.out, Int.add_comm, Int.mul_comm]⟩
      case measure => clear q3 q4 q5; simp [intOf]
    · obtain rfl : m = 0 := by omega
      rw [List.drop_zero]
      go_wp2
      go_ret
      exact ⟨rfl, rfl⟩

def digs (k : Int) : List Int := (List.range 7).map fun i => dig k i
theorem digs_length (k : Int) : (digs k).length = 7 := by simp [digs]
theorem digs_at {k : Int} {i : Nat} (h : i < 7) : (digs k)[i]? = some (dig k i) := by simp [digs, h]
theorem digs_take_succ {k : Int} {i : Nat} (h : i < 7) : (digs k).take i ++ [dig k i] = (digs k).take (i + 1) := (take_at (digs_at h)).symm
theorem div_pow (k : Int) (i : Nat) : k / 128 ^ i / 128 = k / 128 ^ (i + 1) := by
  have hp : (0 : Int) < 128 ^ i := Int.pow_pos (by omega)
  rw [Int.pow_succ, Int.ediv_ediv, if_neg (by omega), Int.sub_zero]
theorem div_small {k : Int} (h : inK k) (i : Nat) : 0 ≤ k / 128 ^ i ∧ k / 128 ^ i < 562949953421312 := by
  unfold inK at h
  have hp : (0 : Int) < 128 ^ i := Int.pow_pos (by omega)
  exact ⟨Int.ediv_nonneg h.1 (by omega), Int.lt_of_le_of_lt (Int.ediv_le_self _ h.1) h.2⟩

set_option maxRecDepth 100000 in
set_option maxHeartbeats 800000 in
theorem l2Exp_any (k : Int) (w : World) (hk : inK k) :
    Calls Try.prog 153 #[.int .i64 k] w fun e w' => ∃ a' c', e = .returned (.slice a' 7 c') ∧ OwI w' w.heap.size w'.heap.size a' 7 c' (digs k) ∧ Below w.heap.size w w' := by
  have h1 : OwI (w.alloc (.cells #[] 3)) w.heap.size (w.alloc (.cells #[] 3)).heap.size (some ⟨w.heap.size, 0, none⟩) 0 0 [] := OwI.mk (World.ownsRow_made _ #[] 0 (Nat.le_refl _) (Nat.zero_le _) rfl)
  have hB0 : Below w.heap.size w (w.alloc (.cells #[] 3)) := (Below.refl _ _).alloc (Nat.le_refl _) _
  go_enter Try.func153, Try.ntmps153
  go_wp2
  go_loopw [0, 3, 4] (fun kv ov iv wr => Hid (∃ (j : Nat) (a' : Option Addr) (c' : Nat), j ≤ 7 ∧ iv = .int .i64 j ∧ kv = .int .i64 (k / 128 ^ j) ∧ ov = .slice a' j c' ∧ OwI wr w.heap.size wr.heap.size a' j c' ((digs k).take j)) ∧ Below w.heap.size w wr) (fun _ _ iv _ => 7 - (intOf iv).toNat)
  case atStart => exact ⟨⟨0, _, _, by omega, rfl, by simp, rfl, h1⟩, hB0⟩
  case round =>
    clear h1 hB0
    obtain ⟨HV, hB⟩ := hrel
    obtain ⟨wo, rfl⟩ : ∃ wo : World, wo = wr := ⟨_, rfl⟩
    obtain ⟨j, a1, c1, hj, rfl, rfl, rfl, ho⟩ := HV.out
    clear HV
    have hbs := hB.size
    by_cases hlt : j < 7
    · have hd := div_small hk j
      have hnx := div_pow k j
      have hst := digs_take_succ (k := k) hlt
      have hdg : k / 128 ^ j % 128 = dig k j := rfl
      obtain ⟨K, hK⟩ : ∃ K, k / 128 ^ j = K := ⟨_, rfl⟩
      rw [hK] at hd hnx hdg ⊢
      obtain ⟨hd1, hd2⟩ := hd
      have Hnx := Lib.hid hnx
      have Hdg := Lib.hid hdg
      have Hst := Lib.hid hst
      clear hnx hdg hst hK
      have q1 : (j : Int) < 7 := by omega
      have q2 : IntKind.i64.wrap (K.tdiv 128) = K / 128 := IntWalk.i64_quo _ _ (by omega)
      have HO := Lib.hid ho
      clear ho
      go_wp2_with (first | (at_builtin; go_loud (refine wpList_pushI (by rfl) (by rfl) _ _ (by rfl) HO.out (by rfl) (by rfl) (by omega) hbs ?_)))
      intro a3 c3 w4 ho3 hg3
      have hB4 := below_grown hB hg3.grown hbs HO.out.1.lo
      rw [Hdg.out, Hst.out] at ho3
      have HO3 := Lib.hid ho3
      clear ho3 HO hg3 hB
      go_wp2
      go_roundw
      case rel => exact ⟨⟨j + 1, _, _, by omega, by go_num, by rw [Hnx.out], rfl, HO3.out⟩, hB4⟩
      case measure => simp [intOf]; omega
    · obtain rfl : j = 7 := by omega
      rw [List.take_of_length_le (by rw [digs_length]; exact Nat.le_refl _)] at ho
      have HO := Lib.hid ho
      clear ho
      go_wp2
      go_ret
      exact ⟨_, _, rfl, HO.out, hB⟩
end Go.Proofs.Ytocgcgmlemoekaa

namespace Go.Proofs.Ytocgcgmlemoekaa
open Go.RowKit

/-- the slice at address a reads as pairs -/
def RM (w : World) (a : Option Addr) (xs : List (Int × Int)) : Prop :=
  xs = [] ∨ ∃ b off, a = some ⟨b, off, none⟩ ∧ ∀ k p, xs[k]? = some p → w.cell? ⟨b, off + k * 2, none⟩ = some (.int .i64 p.1) ∧ w.cell? ⟨b, off + k * 2 + 1, none⟩ = some (.int .i64 p.2)
theorem RM.at {w : World} {a : Option Addr} {xs : List (Int × Int)} (h : RM w a xs) {k : Nat} (hk : k < xs.length) :
    ∃ b off, a = some ⟨b, off, none⟩ ∧ ∀ k p, xs[k]? = some p → w.cell? ⟨b, off + k * 2, none⟩ = some (.int .i64 p.1) ∧ w.cell? ⟨b, off + k * 2 + 1, none⟩ = some (.int .i64 p.2) := by
  rcases h with rfl | h
  · simp at hk
  · exact h
theorem RM.below {w w' : World} {a : Option Addr} {xs : List (Int × Int)} (h : RM w a xs) (hb : Below w.heap.size w w') : RM w' a xs := by
  rcases h with h | ⟨b, off, ha, hc⟩
  · exact .inl h
  · exact .inr ⟨b, off, ha, fun k x hx => by
      obtain ⟨h1, h2⟩ := hc k x hx
      exact ⟨by rw [hb.cell (World.block_lt_of_cell? w _ h1)]; exact h1, by rw [hb.cell (World.block_lt_of_cell? w _ h2)]; exact h2⟩⟩

theorem pairM_at {xs : List (Int × Int)} {n k : Nat} (h : xs.length = n) (hk : k < n) : ∃ p q, xs[k]? = some (p, q) := ⟨(xs[k]'(by omega)).1, (xs[k]'(by omega)).2, List.getElem?_eq_getElem (by omega)⟩
def prm : List (Int × Int) → List Value
  | [] => []
  | p :: xs => .int .i64 p.1 :: .int .i64 p.2 :: prm xs
theorem prm_length (xs : List (Int × Int)) : (prm xs).length = xs.length * 2 := by
  induction xs with
  | nil => rfl
  | cons p xs ih => simp only [prm, List.length_cons, ih]; omega
theorem prm_at {xs : List (Int × Int)} : ∀ {k : Nat} {p : Int × Int}, xs[k]? = some p → (prm xs)[k * 2]? = some (.int .i64 p.1) ∧ (prm xs)[k * 2 + 1]? = some (.int .i64 p.2) := by
  induction xs with
  | nil => intro k p h; simp at h
  | cons q xs ih =>
    intro k p h
    rcases k with _ | k
    · simp only [List.getElem?_cons_zero, Option.some.injEq] at h
      subst h
      exact ⟨rfl, rfl⟩
    · simp only [List.getElem?_cons_succ] at h
      have := ih h
      have e : (k + 1) * 2 = k * 2 + 1 + 1 := by omega
      rw [e]
      simpa [prm] using this
theorem prm_append (xs ys : List (Int × Int)) : prm (xs ++ ys) = prm xs ++ prm ys := by
  induction xs with
  | nil => rfl
  | cons p xs ih => simp [prm, ih]
theorem prm_set {xs : List (Int × Int)} : ∀ {k : Nat} {p : Int × Int}, xs[k]? = some p → ∀ u : Int, (prm xs).set (k * 2) (.int .i64 u) = prm (xs.set k (u, p.2)) ∧ (prm xs).set (k * 2 + 1) (.int .i64 u) = prm (xs.set k (p.1, u)) := by
  induction xs with
  | nil => intro k p h; simp at h
  | cons q xs ih =>
    intro k p h u
    rcases k with _ | k
    · simp only [List.getElem?_cons_zero, Option.some.injEq] at h
      subst h
      exact ⟨rfl, rfl⟩
    · simp only [List.getElem?_cons_succ] at h
      obtain ⟨h1, h2⟩ := ih h u
      have e : (k + 1) * 2 = k * 2 + 1 + 1 := by omega
      rw [e]
      simp only [prm, List.set_cons_succ, h1, h2]
      exact ⟨trivial, trivial⟩

/-- the slice of cells is a row of the call's own, in a block from B on and below S -/
def MO (w : World) (B S : Nat) (a : Option Addr) (n c : Nat) (xs : List (Int × Int)) : Prop :=
  w.ownsRow B 88 2 (.slice a n c) n (prm xs) ∧ ∀ k, (Value.slice a n c).ownBlock = some k → k < S
theorem MO.len {w : World} {B S : Nat} {a : Option Addr} {n c : Nat} {xs : List (Int × Int)} (h : MO w B S a n c xs) : xs.length = n := by
  have := h.1.1; rw [prm_length] at this; omega
theorem MO.mk {w : World} {B : Nat} {a : Option Addr} {n c : Nat} {xs : List (Int × Int)} (h : w.ownsRow B 88 2 (.slice a n c) n (prm xs)) : MO w B w.heap.size a n c xs := ⟨h, fun k hk => (h.lt k hk).2⟩
theorem MO.lo {w : World} {B S : Nat} {a : Option Addr} {n c : Nat} {xs : List (Int × Int)} (h : MO w B S a n c xs) : ∀ k, (Value.slice a n c).ownBlock = some k → B ≤ k := fun k hk => (h.1.lt k hk).1
theorem MO.nil {w : World} {B S : Nat} : MO w B S none 0 0 [] := ⟨⟨rfl, .inl ⟨rfl, rfl⟩⟩, fun k hk => by simp [Value.ownBlock] at hk⟩
theorem MO.cons {w : World} {B S : Nat} {a : Option Addr} {n c : Nat} {xs : List (Int × Int)} (h : MO w B S a n c xs) {j : Nat} {p : Int × Int} (hp : xs[j]? = some p) :
    ∃ g, a = some ⟨g, 0, none⟩ ∧ B ≤ g ∧ w.cell? ⟨g, j * 2, none⟩ = some (.int .i64 p.1) ∧ w.cell? ⟨g, j * 2 + 1, none⟩ = some (.int .i64 p.2) ∧ w.frozen? ⟨g, j * 2, none⟩ = false ∧ w.frozen? ⟨g, j * 2 + 1, none⟩ = false := by
  have hl := h.len
  have hj : j < n := by have := (List.getElem?_eq_some_iff.1 hp).1; omega
  have h' := h.1
  rcases h.1.2 with ⟨_, h2⟩ | ⟨g, cap, cur, hv, hb, _⟩
  · omega
  · simp only [Value.slice.injEq] at hv
    obtain ⟨rfl, _, rfl⟩ := hv
    obtain ⟨e1, e2⟩ := prm_at hp
    exact ⟨g, rfl, hb, by rw [h'.cellAt _ (by omega)]; exact e1, by rw [h'.cellAt _ (by omega)]; exact e2, h'.frozenAt _, h'.frozenAt _⟩
theorem MO.rd {w : World} {B S : Nat} {a : Option Addr} {n c : Nat} {xs : List (Int × Int)} (h : MO w B S a n c xs) : RM w a xs := by
  rcases xs with _ | ⟨p0, xs⟩
  · exact .inl rfl
  · obtain ⟨g, rfl, _⟩ := h.cons (j := 0) (p := p0) rfl
    refine .inr ⟨g, 0, rfl, fun k p hp => ?_⟩
    obtain ⟨g', e, _, h1, h2, _⟩ := h.cons hp
    obtain rfl : g = g' := by simpa using e
    simp only [Nat.zero_add]
    exact ⟨h1, h2⟩
theorem MO.store {w : World} {B S g n c : Nat} {xs : List (Int × Int)} (h : MO w B S (some ⟨g, 0, none⟩) n c xs) {j : Nat} {p : Int × Int} (hp : xs[j]? = some p) (u : Int) :
    (MO (w.setCell ⟨g, j * 2, none⟩ (.int .i64 u)) B S (some ⟨g, 0, none⟩) n c (xs.set j (u, p.2)) ∧ w.grownBy (w.setCell ⟨g, j * 2, none⟩ (.int .i64 u)) (some g)) ∧
    (MO (w.setCell ⟨g, j * 2 + 1, none⟩ (.int .i64 u)) B S (some ⟨g, 0, none⟩) n c (xs.set j (p.1, u)) ∧ w.grownBy (w.setCell ⟨g, j * 2 + 1, none⟩ (.int .i64 u)) (some g)) := by
  obtain ⟨e1, e2⟩ := prm_set hp u
  have s1 := h.1.stored (j * 2) (.int .i64 u)
  have s2 := h.1.stored (j * 2 + 1) (.int .i64 u)
  exact ⟨⟨⟨by rw [← e1]; exact s1.1, h.2⟩, s1.2⟩, ⟨⟨by rw [← e2]; exact s2.1, h.2⟩, s2.2⟩⟩
theorem MO.only {w w' : World} {B S B' S' : Nat} {a : Option Addr} {n c : Nat} {xs : List (Int × Int)} (h : MO w B S a n c xs) (ho : Only B' S' w w') (hd : S ≤ B' ∨ S' ≤ B) : MO w' B S a n c xs := by
  refine ⟨⟨h.1.1, ?_⟩, h.2⟩
  have hh := h.2
  have hl := h.lo
  rcases h.1.2 with h2 | ⟨g, cap, cur, hv, hg, hb, r⟩
  · exact .inl h2
  · simp only [Value.slice.injEq] at hv
    obtain ⟨rfl, _, rfl⟩ := hv
    have h1 := hh g rfl
    have h3 := hl g rfl
    exact .inr ⟨g, c, cur, rfl, hg, by rw [ho.block g (Array.getElem?_eq_some_iff.1 hb).1 (by omega)]; exact hb, r⟩
theorem MO.below {w w' : World} {B S : Nat} {a : Option Addr} {n c : Nat} {xs : List (Int × Int)} (h : MO w B S a n c xs) (hb : Below w.heap.size w w') : MO w' B S a n c xs := h.only (Only.of_below hb) (.inr (Nat.zero_le _))
theorem MO.mono {w : World} {B S B' S' : Nat} {a : Option Addr} {n c : Nat} {xs : List (Int × Int)} (h : MO w B S a n c xs) (hB : B' ≤ B) (hS : S ≤ S') : MO w B' S' a n c xs := by
  refine ⟨⟨h.1.1, ?_⟩, fun k hk => Nat.lt_of_lt_of_le (h.2 k hk) hS⟩
  rcases h.1.2 with h2 | ⟨g, cap, cur, hv, hg, r⟩
  · exact .inl h2
  · exact .inr ⟨g, cap, cur, hv, Nat.le_trans hB hg, r⟩

theorem Try.infoMon : (Try.prog.info? 88).map (fun i => (i.zero, i.size, i.bytes)) = some (some (.agg #[.int .i64 0, .int .i64 0]), 2, 16) := by kernel_rfl
theorem slice_of2M {w : World} {B e n : Nat} {v : Value} {xs : List Value} (h : w.ownsRow B e 2 v n xs) : ∃ a c, v = .slice a n c := by
  rcases h.2 with ⟨rfl, rfl⟩ | ⟨g, cap, cur, rfl, _⟩
  · exact ⟨none, 0, rfl⟩
  · exact ⟨_, cap, rfl⟩
theorem wpList_pushM {w W : World} {p q : Int} (hW : W = w.alloc (.cells #[.int .i64 p, .int .i64 q] 88)) {ops : Array Oper} {rest : List Oper} {o : Oper} {ac : Act} {Q : Exit → Act → World → Prop} (hgd : o.guard = none) (s x : Operand)
    (ho : o.op = .call { callee := .builtin .append, args := #[s, x], argTypes := #[75, 75] })
    {B S : Nat} {a : Option Addr} {n c : Nat} {xs : List (Int × Int)} (hown : MO w B S a n c xs) (hs : ac.eval s = .slice a n c)
    (hx : ac.eval x = .slice (some ⟨w.heap.size, 0, none⟩) 1 1) (hn : n + 1 ≤ 1048576) (hbase : B ≤ w.heap.size)
    (h : ∀ a' c' w', MO w' B w'.heap.size a' (n + 1) c' (xs ++ [(p, q)]) → w.grownBy w' (Value.slice a n c).ownBlock → wpList Try.prog ops Q rest (ac.put o.dst (.slice a' (n + 1) c')) w') :
    wpList Try.prog ops Q (o :: rest) ac W := by
  subst hW
  obtain ⟨i0, hi, hz0, hz1, hz2⟩ := info_parts Try.infoMon
  refine wpList_append_own _ hgd s x 75 ho B 88 i0 (.agg #[.int .i64 0, .int .i64 0]) 2 16 Try.underlying75 hi hz0 hz1 hz2 rfl (by decide) _ n (prm xs) hs (hown.1.alloc _) ⟨w.heap.size, 0, none⟩ 1 1 [.int .i64 p, .int .i64 q] hx rfl ?_ ?_ (by unfold maxLen; omega) (by omega) (by simp; omega) ?_
  · intro j y hj
    match j, hj with
    | 0, hj => simp at hj; subst hj; simp [Addr.add]
    | 1, hj => simp at hj; subst hj; simp [Addr.add]
  · intro y hy
    simp at hy
    rcases hy with rfl | rfl <;> rfl
  · intro v' w' h2 h3 _
    obtain ⟨a', c', rfl⟩ := slice_of2M h2
    exact h a' c' w' (MO.mk (by rw [prm_append]; exact h2)) (grownBy.trans (World.grownBy_alloc w _ _) h3)
theorem MO.made (w : World) : MO (w.alloc (.cells #[] 88)) w.heap.size (w.alloc (.cells #[] 88)).heap.size (some ⟨w.heap.size, 0, none⟩) 0 0 [] :=
  MO.mk (World.ownsRow_made _ #[] 0 (Nat.le_refl _) (Nat.zero_le _) rfl)
theorem MO.nilv {w : World} {B S : Nat} : MO w B S none 0 0 [] := MO.nil
/-- append of a list of monomials -/
theorem wpList_appM {w : World} {ops : Array Oper} {rest : List Oper} {o : Oper} {ac : Act} {Q : Exit → Act → World → Prop} (hgd : o.guard = none) (s x : Operand)
    (ho : o.op = .call { callee := .builtin .append, args := #[s, x], argTypes := #[75, 75] })
    {B S : Nat} {a : Option Addr} {n c : Nat} {xs : List (Int × Int)} (hown : MO w B S a n c xs) (hs : ac.eval s = .slice a n c)
    {b : Nat} {off m d : Nat} {ys : List (Int × Int)} (hr : ∀ k p, ys[k]? = some p → w.cell? ⟨b, off + k * 2, none⟩ = some (.int .i64 p.1) ∧ w.cell? ⟨b, off + k * 2 + 1, none⟩ = some (.int .i64 p.2)) (hm : ys.length = m) (hx : ac.eval x = .slice (some ⟨b, off, none⟩) m d) (hn : n + m ≤ 16777216) (hbase : B ≤ w.heap.size)
    (h : ∀ a' c' w', MO w' B w'.heap.size a' (n + m) c' (xs ++ ys) → w.grownBy w' (Value.slice a n c).ownBlock → wpList Try.prog ops Q rest (ac.put o.dst (.slice a' (n + m) c')) w') :
    wpList Try.prog ops Q (o :: rest) ac w := by
  obtain ⟨i0, hi, hz0, hz1, hz2⟩ := info_parts Try.infoMon
  refine wpList_append_own _ hgd s x 75 ho B 88 i0 (.agg #[.int .i64 0, .int .i64 0]) 2 16 Try.underlying75 hi hz0 hz1 hz2 rfl (by decide) _ n (prm xs) hs hown.1 ⟨b, off, none⟩ m d (prm ys) hx (by rw [prm_length, hm]) ?_ ?_ (by unfold maxLen; omega) (by omega) hbase ?_
  · intro j y hj
    have hj2 : j / 2 < ys.length := by have := lt_of_some hj; rw [prm_length] at this; omega
    obtain ⟨p, hp⟩ := some_of hj2
    obtain ⟨h1, h2⟩ := hr _ _ hp
    obtain ⟨e1, e2⟩ := prm_at hp
    rw [show (⟨b, off, none⟩ : Addr).add j = ⟨b, off + j, none⟩ from by unfold Addr.add; split <;> simp_all]
    rcases Nat.mod_two_eq_zero_or_one j with h0 | h0
    · have ej : j / 2 * 2 = j := by omega
      rw [ej] at e1 h1
      rw [e1] at hj
      obtain rfl := Option.some.inj hj
      exact h1
    · have ej : j / 2 * 2 + 1 = j := by omega
      rw [ej] at e2
      rw [Nat.add_assoc, ej] at h2
      rw [e2] at hj
      obtain rfl := Option.some.inj hj
      exact h2
  · intro y hy
    have : ∀ zs : List (Int × Int), y ∈ prm zs → y.oneCell' = true := by
      intro zs
      induction zs with
      | nil => intro h; cases h
      | cons z zs ih =>
        intro h
        simp only [prm, List.mem_cons] at h
        rcases h with rfl | rfl | h
        · rfl
        · rfl
        · exact ih h
    exact this ys hy
  · intro v' w' h2 h3 _
    obtain ⟨a', c', rfl⟩ := slice_of2M h2
    exact h a' c' w' (MO.mk (by rw [prm_append]; exact h2)) h3
end Go.Proofs.Ytocgcgmlemoekaa

namespace Go.Proofs.Ytocgcgmlemoekaa
open Go.RowKit

def descM (l : Mons) : Prop := l.Pairwise fun p q => q.1 ≤ p.1
/-- runs of s in descending order -/
def BS (s : Nat) (l : Mons) : Prop := ∀ (i j : Nat) (p q : Int × Int), l[i]? = some p → l[j]? = some q → i ≤ j → i / s = j / s → q.1 ≤ p.1
def seg (l : Mons) (a b : Nat) : Mons := (l.drop a).take (b - a)
theorem BS_one (l : Mons) : BS 1 l := fun i j p q hp hq hij h => by
  rw [Nat.div_one, Nat.div_one] at h
  subst h
  rw [hp] at hq
  obtain rfl := Option.some.inj hq
  exact Int.le_refl _
theorem BS_desc {s : Nat} {l : Mons} (h : BS s l) (hl : l.length ≤ s) : descM l := by
  unfold descM
  rw [List.pairwise_iff_getElem]
  intro i j hi hj hij
  refine h i j _ _ (List.getElem?_eq_getElem hi) (List.getElem?_eq_getElem hj) (by omega) ?_
  rw [Nat.div_eq_of_lt (by omega), Nat.div_eq_of_lt (by omega)]
theorem descM_at {l : Mons} (h : descM l) {i j : Nat} {p q : Int × Int} (hp : l[i]? = some p) (hq : l[j]? = some q) (hij : i ≤ j) : q.1 ≤ p.1 := by
  obtain ⟨hi, rfl⟩ := List.getElem?_eq_some_iff.1 hp
  obtain ⟨hj, rfl⟩ := List.getElem?_eq_some_iff.1 hq
  rcases Nat.lt_or_ge i j with h1 | h1
  · exact (List.pairwise_iff_getElem.1 h) i j hi hj h1
  · obtain rfl : i = j := by omega
    exact Int.le_refl _
theorem BS_append {t q : Nat} {ys zs : Mons} (ht : 0 < t) (h : BS t ys) (hy : ys.length = t * q) (_hz : zs.length ≤ t) (hd : descM zs) : BS t (ys ++ zs) := by
  intro i j p r hp hr hij he
  rcases Nat.lt_or_ge i ys.length with hi | hi
  · rw [List.getElem?_append_left hi] at hp
    rcases Nat.lt_or_ge j ys.length with hj | hj
    · rw [List.getElem?_append_left hj] at hr
      exact h i j p r hp hr hij he
    · have h1 : i / t < q := by rw [Nat.div_lt_iff_lt_mul ht]; rw [hy, Nat.mul_comm] at hi; exact hi
      have h2 : q ≤ j / t := by rw [Nat.le_div_iff_mul_le ht]; rw [hy, Nat.mul_comm] at hj; exact hj
      omega
  · rw [List.getElem?_append_right hi] at hp
    rw [List.getElem?_append_right (by omega)] at hr
    exact descM_at hd hp hr (by omega)
theorem seg_self (l : Mons) (a : Nat) : seg l a a = [] := by unfold seg; simp
theorem seg_succ {l : Mons} {a b : Nat} {x : Int × Int} (h : a ≤ b) (hx : l[b]? = some x) : seg l a (b + 1) = seg l a b ++ [x] := by
  unfold seg
  have e : b + 1 - a = (b - a) + 1 := by omega
  rw [e, List.take_add_one, List.getElem?_drop]
  have e2 : a + (b - a) = b := by omega
  rw [e2, hx]
  rfl
theorem seg_length {l : Mons} {a b : Nat} (h : b ≤ l.length) : (seg l a b).length = b - a := by
  unfold seg
  rw [List.length_take, List.length_drop]
  omega
theorem seg_join (l : Mons) {a b c : Nat} (h : a ≤ b) (h' : b ≤ c) : seg l a b ++ seg l b c = seg l a c := by
  unfold seg
  have e : (l.drop b).take (c - b) = ((l.drop a).drop (b - a)).take (c - b) := by rw [List.drop_drop]; congr 2; omega
  rw [e, ← List.take_add]
  congr 1
  omega
theorem seg_zero (l : Mons) (b : Nat) : seg l 0 b = l.take b := by unfold seg; simp
/-- a merge under way: from the runs a .. mid and mid .. e, up to i and j -/
structure Mg (l : Mons) (a mid e i j : Nat) (zs : Mons) : Prop where
  perm : zs.Perm (seg l a i ++ seg l mid j)
  desc : descM zs
  left : ∀ p ∈ zs, ∀ (k : Nat) (x : Int × Int), i ≤ k → k < mid → l[k]? = some x → x.1 ≤ p.1
  right : ∀ p ∈ zs, ∀ (k : Nat) (x : Int × Int), j ≤ k → k < e → l[k]? = some x → x.1 ≤ p.1
theorem Mg.start (l : Mons) (a mid e : Nat) : Mg l a mid e a mid [] := ⟨by rw [seg_self, seg_self]; exact List.Perm.refl _, List.Pairwise.nil, by simp, by simp⟩
theorem desc_snoc {zs : Mons} {x : Int × Int} (h : descM zs) (hx : ∀ p ∈ zs, x.1 ≤ p.1) : descM (zs ++ [x]) := by
  unfold descM
  rw [List.pairwise_append]
  exact ⟨h, List.pairwise_singleton .., fun p hp q hq => by rw [List.mem_singleton] at hq; subst hq; exact hx p hp⟩
theorem Mg.goLeft {l : Mons} {a mid e i j : Nat} {zs : Mons} (h : Mg l a mid e i j zs) {x : Int × Int} (hx : l[i]? = some x) (ha : a ≤ i) (hi : i < mid) (hs : ∀ (k : Nat) (y : Int × Int), i ≤ k → k < mid → l[k]? = some y → y.1 ≤ x.1)
    (hr : ∀ (k : Nat) (y : Int × Int), j ≤ k → k < e → l[k]? = some y → y.1 ≤ x.1) : Mg l a mid e (i + 1) j (zs ++ [x]) := by
  refine ⟨?_, desc_snoc h.desc fun p hp => h.left p hp i x (Nat.le_refl _) hi hx, ?_, ?_⟩
  · rw [seg_succ ha hx]
    refine (List.Perm.append_right [x] h.perm).trans ?_
    rw [List.append_assoc, List.append_assoc]
    exact List.Perm.append_left _ List.perm_append_comm
  · intro p hp k y hk hk2 hy
    rcases List.mem_append.1 hp with hp | hp
    · exact h.left p hp k y (by omega) hk2 hy
    · rw [List.mem_singleton] at hp
      subst hp
      exact hs k y (by omega) hk2 hy
  · intro p hp k y hk hk2 hy
    rcases List.mem_append.1 hp with hp | hp
    · exact h.right p hp k y hk hk2 hy
    · rw [List.mem_singleton] at hp
      subst hp
      exact hr k y hk hk2 hy
theorem Mg.goRight {l : Mons} {a mid e i j : Nat} {zs : Mons} (h : Mg l a mid e i j zs) {x : Int × Int} (hx : l[j]? = some x) (hm : mid ≤ j) (hj : j < e) (hs : ∀ (k : Nat) (y : Int × Int), i ≤ k → k < mid → l[k]? = some y → y.1 ≤ x.1)
    (hr : ∀ (k : Nat) (y : Int × Int), j ≤ k → k < e → l[k]? = some y → y.1 ≤ x.1) : Mg l a mid e i (j + 1) (zs ++ [x]) := by
  refine ⟨?_, desc_snoc h.desc fun p hp => h.right p hp j x (Nat.le_refl _) hj hx, ?_, ?_⟩
  · rw [seg_succ hm hx]
    refine (List.Perm.append_right [x] h.perm).trans ?_
    rw [List.append_assoc]
  · intro p hp k y hk hk2 hy
    rcases List.mem_append.1 hp with hp | hp
    · exact h.left p hp k y hk hk2 hy
    · rw [List.mem_singleton] at hp
      subst hp
      exact hs k y hk hk2 hy
  · intro p hp k y hk hk2 hy
    rcases List.mem_append.1 hp with hp | hp
    · exact h.right p hp k y (by omega) hk2 hy
    · rw [List.mem_singleton] at hp
      subst hp
      exact hr k y (by omega) hk2 hy
/-- in a run of s the first ones are the greatest -/
theorem BS_run {s q : Nat} {l : Mons} (h : BS s l) (_hs : 0 < s) {a e i k : Nat} {x y : Int × Int} (ha : a = s * q) (he : e ≤ a + s) (hai : a ≤ i) (hik : i ≤ k) (hke : k < e) (hx : l[i]? = some x) (hy : l[k]? = some y) : y.1 ≤ x.1 := by
  refine h i k x y hx hy hik ?_
  have e1 : i / s = q := Nat.div_eq_of_lt_le (by rw [Nat.mul_comm]; omega) (by rw [Nat.succ_mul, Nat.mul_comm]; omega)
  have e2 : k / s = q := Nat.div_eq_of_lt_le (by rw [Nat.mul_comm]; omega) (by rw [Nat.succ_mul, Nat.mul_comm]; omega)
  rw [e1, e2]

/-! sums of those that are alike -/
structure Sm (l : Mons) (k : Nat) (zs : Mons) : Prop where
  eqv : Eqv zs (l.take k)
  desc : zs.Pairwise fun p q => q.1 < p.1
  rest : ∀ p ∈ zs, ∀ (j : Nat) (x : Int × Int), k ≤ j → l[j]? = some x → x.1 ≤ p.1
  in64 : ∀ p ∈ zs, -9223372036854775808 ≤ p.2 ∧ p.2 ≤ 9223372036854775807
theorem Sm.start (l : Mons) : Sm l 0 [] := ⟨by rw [List.take_zero]; exact Eqv.refl _, List.Pairwise.nil, by simp, by simp⟩
theorem Sm.push {l : Mons} {k : Nat} {zs : Mons} (h : Sm l k zs) {x : Int × Int} (hx : l[k]? = some x) (hl : descM l) (hne : ∀ p ∈ zs, p.1 ≠ x.1) (h64 : -9223372036854775808 ≤ x.2 ∧ x.2 ≤ 9223372036854775807) : Sm l (k + 1) (zs ++ [x]) := by
  refine ⟨?_, ?_, ?_, ?_⟩
  · rw [List.take_add_one, hx]
    exact h.eqv.append (Eqv.refl _)
  · rw [List.pairwise_append]
    refine ⟨h.desc, List.pairwise_singleton .., fun p hp q hq => ?_⟩
    rw [List.mem_singleton] at hq
    subst hq
    have := h.rest p hp k q (Nat.le_refl _) hx
    have := hne p hp
    omega
  · intro p hp j y hj hy
    rcases List.mem_append.1 hp with hp | hp
    · exact h.rest p hp j y (by omega) hy
    · rw [List.mem_singleton] at hp
      subst hp
      exact descM_at hl hx hy (by omega)
  · intro p hp
    rcases List.mem_append.1 hp with hp | hp
    · exact h.in64 p hp
    · rw [List.mem_singleton] at hp
      subst hp
      exact h64
theorem Sm.add {l : Mons} {k : Nat} {zs : Mons} {r c d : Int} (h : Sm l k (zs ++ [(r, c)])) (hx : l[k]? = some (r, d)) (hl : descM l) : Sm l (k + 1) (zs ++ [(r, wrap64 (c + d))]) := by
  refine ⟨?_, ?_, ?_, ?_⟩
  · rw [List.take_add_one, hx]
    refine Eqv.trans ?_ (h.eqv.append (Eqv.refl _))
    rw [Option.toList, List.append_assoc]
    refine (Eqv.refl zs).append ?_
    intro j
    rw [List.cons_append, List.nil_append, coef_cons, coef_cons, coef_cons]
    split
    · unfold wrap64; omega
    · rfl
  · have := h.desc
    rw [List.pairwise_append] at this ⊢
    refine ⟨this.1, List.pairwise_singleton .., fun p hp q hq => ?_⟩
    rw [List.mem_singleton] at hq
    subst hq
    exact this.2.2 p hp (r, c) (List.mem_singleton.2 rfl)
  · intro p hp j y hj hy
    rcases List.mem_append.1 hp with hp | hp
    · exact h.rest p (List.mem_append_left _ hp) j y (by omega) hy
    · rw [List.mem_singleton] at hp
      subst hp
      have h9 := descM_at hl hx hy (show k ≤ j by omega)
      exact h9
  · intro p hp
    rcases List.mem_append.1 hp with hp | hp
    · exact h.in64 p (List.mem_append_left _ hp)
    · rw [List.mem_singleton] at hp
      subst hp
      exact wrap_range _
theorem sm_last {zs : Mons} (h : zs ≠ []) : ∃ ys r c, zs = ys ++ [(r, c)] := ⟨zs.dropLast, (zs.getLast h).1, (zs.getLast h).2, (List.dropLast_concat_getLast h).symm⟩
/-! those that are not 0 -/
def some0 (l : Mons) : Mons := l.filter fun p => decide (p.2 ≠ 0)
theorem some0_eqv (l : Mons) : Eqv (some0 l) l := by
  induction l with
  | nil => exact Eqv.refl _
  | cons p l ih =>
    unfold some0 at *
    by_cases h : p.2 = 0
    · rw [List.filter_cons_of_neg (by simp [h])]
      refine ih.trans fun j => ?_
      have e : p = (p.1, 0) := by rw [← h]
      rw [e, coef_cons]
      split
      · rw [Int.add_zero]; exact (coef_range l j).symm
      · rfl
    · rw [List.filter_cons_of_pos (by simp [h])]
      exact (Eqv.refl [p]).append ih
theorem gather_end {l xs zs : Mons} (h : Sm l l.length zs) (hp : l.Perm xs) : some0 zs = canon xs := by
  refine canon_unique ?_ ?_ ((some0_eqv zs).trans (h.eqv.trans ?_))
  · exact List.Pairwise.filter _ h.desc
  · intro p hp
    have := List.mem_filter.1 hp
    exact ⟨by simpa using this.2, h.in64 p this.1⟩
  · rw [List.take_length]
    exact Eqv.of_perm hp
end Go.Proofs.Ytocgcgmlemoekaa
