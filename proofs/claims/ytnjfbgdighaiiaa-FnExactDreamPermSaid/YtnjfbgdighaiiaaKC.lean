/-
  Slices of cells: what they read as, what a call owns of them; compared.
-/
import Derived.Test.YtnjfbgdighaiiaaKI
import Derived.Test.YtnjfbgdighaiiaaApp
import Derived.StillTailTactics
namespace Go.Proofs.Ytnjfbgdighaiiaa
open Go.RowKit

/-- the slice at address a reads as pairs -/
def RC (w : World) (a : Option Addr) (xs : List (Int × Int)) : Prop :=
  xs = [] ∨ ∃ b off, a = some ⟨b, off, none⟩ ∧ ∀ k p, xs[k]? = some p → w.cell? ⟨b, off + k * 2, none⟩ = some (.int .i64 p.1) ∧ w.cell? ⟨b, off + k * 2 + 1, none⟩ = some (.int .i64 p.2)
theorem RC.at {w : World} {a : Option Addr} {xs : List (Int × Int)} (h : RC w a xs) {k : Nat} (hk : k < xs.length) :
    ∃ b off, a = some ⟨b, off, none⟩ ∧ ∀ k p, xs[k]? = some p → w.cell? ⟨b, off + k * 2, none⟩ = some (.int .i64 p.1) ∧ w.cell? ⟨b, off + k * 2 + 1, none⟩ = some (.int .i64 p.2) := by
  rcases h with rfl | h
  · simp at hk
  · exact h
theorem RC.below {w w' : World} {a : Option Addr} {xs : List (Int × Int)} (h : RC w a xs) (hb : Below w.heap.size w w') : RC w' a xs := by
  rcases h with h | ⟨b, off, ha, hc⟩
  · exact .inl h
  · exact .inr ⟨b, off, ha, fun k x hx => by
      obtain ⟨h1, h2⟩ := hc k x hx
      exact ⟨by rw [hb.cell (World.block_lt_of_cell? w _ h1)]; exact h1, by rw [hb.cell (World.block_lt_of_cell? w _ h2)]; exact h2⟩⟩

set_option maxHeartbeats 400000 in
theorem eqCell_any (a b c d : Int) (w : World) :
    Calls Try.prog 69 #[.agg #[.int .i64 a, .int .i64 b], .agg #[.int .i64 c, .int .i64 d]] w fun e w' => e = .returned (.bool (decide ((a, b) = (c, d)))) ∧ Below w.heap.size w w' := by
  have hB := Lib.hid (((Below.refl w.heap.size w).alloc (Nat.le_refl _) (.cells #[.int .i64 a, .int .i64 b] 44)).alloc (by simp only [World.alloc, Array.size_push]; omega) (.cells #[.int .i64 c, .int .i64 d] 44))
  by_cases h1 : a = c
  · have e1 : (a != c) = false := by simp [h1]
    by_cases h2 : b = d
    · subst h1 h2
      have e2 : (b != b) = false := by simp
      go_enter Try.func69, Try.ntmps69
      go_wp2
      go_ret
      exact ⟨ret_bool (by simp), hB.out⟩
    · have e2 : (b != d) = true := by simp [h2]
      subst h1
      go_enter Try.func69, Try.ntmps69
      go_wp2
      go_ret
      exact ⟨ret_bool (by simp [h2]), hB.out⟩
  · have e1 : (a != c) = true := by simp [h1]
    go_enter Try.func69, Try.ntmps69
    go_wp2
    go_ret
    exact ⟨ret_bool (by simp; intro h; exact absurd h h1), hB.out⟩

theorem eqp_of_all {xs ys : List (Int × Int)} (hl : xs.length = ys.length) (h : ∀ j, j < xs.length → xs[j]? = ys[j]?) : decide (xs = ys) = true := by
  rw [decide_eq_true_iff]
  apply List.ext_getElem?
  intro j
  rcases Nat.lt_or_ge j xs.length with h1 | h1
  · exact h j h1
  · rw [List.getElem?_eq_none h1, List.getElem?_eq_none (by omega)]
theorem nep_of_at {xs ys : List (Int × Int)} {k : Nat} {x y : Int × Int} (hx : xs[k]? = some x) (hy : ys[k]? = some y) (h : x ≠ y) : decide (xs = ys) = false := by
  rw [decide_eq_false_iff_not]
  rintro rfl
  rw [hx] at hy
  exact h (by simpa using hy)
theorem pair_at {xs : List (Int × Int)} {n k : Nat} (h : xs.length = n) (hk : k < n) : ∃ p q, xs[k]? = some (p, q) := ⟨(xs[k]'(by omega)).1, (xs[k]'(by omega)).2, List.getElem?_eq_getElem (by omega)⟩

set_option maxRecDepth 100000 in
set_option maxHeartbeats 1600000 in
theorem eqCellS_any (a b : Option Addr) (n c m d : Nat) (xs ys : List (Int × Int)) (w : World) (hr : RC w a xs) (hs : RC w b ys) (hn : xs.length = n) (hm : ys.length = m) (hb : n ≤ 17592186044416) :
    Calls Try.prog 17 #[.slice a n c, .slice b m d] w fun e w' => e = .returned (.bool (decide (xs = ys))) ∧ Below w.heap.size w w' := by
  have Hn := Lib.hid hn; clear hn
  have Hm := Lib.hid hm; clear hm
  by_cases hnm : n = m
  · subst hnm
    go_enter Try.func17, Try.ntmps17
    go_wp2
    go_loopw [5] (fun i wr => ∃ k : Nat, k ≤ n ∧ i = .int .i64 k ∧ Hid (∀ j, j < k → xs[j]? = ys[j]?) ∧ Below w.heap.size w wr) (fun i _ => n - (intOf i).toNat)
    case atStart => exact ⟨0, Nat.zero_le _, rfl, by intro j hj; omega, Below.refl _ _⟩
    case round =>
      obtain ⟨k, hk, rfl, HA, hB⟩ := hrel
      by_cases hlt : k < n
      · obtain ⟨b1, off, rfl, hcell⟩ := (hr.below hB).at (k := k) (by rw [Hn.out]; exact hlt)
        obtain ⟨b2, off2, rfl, hcell2⟩ := (hs.below hB).at (k := k) (by rw [Hm.out]; exact hlt)
        obtain ⟨p, q, hx⟩ := pair_at Hn.out hlt
        obtain ⟨u, v, hy⟩ := pair_at Hm.out hlt
        obtain ⟨hc1, hc2⟩ := hcell k _ hx
        obtain ⟨hc3, hc4⟩ := hcell2 k _ hy
        have Hx := Lib.hid hx; clear hx
        have Hy := Lib.hid hy; clear hy
        clear hcell hcell2
        have hltI : (k : Int) < (n : Int) := by omega
        by_cases h1 : (p, q) = (u, v)
        · go_wp2
          go_still_tail 8, (by kernel_rfl)
          go_wp2_with fail
          refine (is (eqCell_any p q u v _) (by simp [h1] : _ = true)).mono ?_
          rintro e w2 ⟨rfl, hb2⟩
          have hB2 := hB.trans ((Drew.below ⟨1, rfl⟩ w.heap.size).trans (hb2.mono hB.size))
          go_wp2
          go_roundw
          case rel => exact ⟨k + 1, by omega, by go_num, by
                intro j hj
                rcases Nat.lt_or_ge j k with h | h
                · exact HA.out j h
                · obtain rfl : j = k := by omega
                  rw [Hx.out, Hy.out, h1], hB2⟩
          case measure => simp [intOf]; omega
        · go_wp2
          go_still_tail 8, (by kernel_rfl)
          go_wp2_with fail
          refine (is (eqCell_any p q u v _) (by simp only [decide_eq_false_iff_not]; exact h1 : _ = false)).mono ?_
          rintro e w2 ⟨rfl, hb2⟩
          have hB2 := hB.trans ((Drew.below ⟨1, rfl⟩ w.heap.size).trans (hb2.mono hB.size))
          go_wp2
          go_ret
          exact ⟨ret_bool (nep_of_at Hx.out Hy.out h1).symm, hB2⟩
      · obtain rfl : k = n := by omega
        go_wp2
        go_ret
        exact ⟨ret_bool (eqp_of_all (by rw [Hn.out, Hm.out]) (by rw [Hn.out]; exact HA.out)).symm, hB⟩
  · have hne : ((n : Int) != (m : Int)) = true := by simp; omega
    go_enter Try.func17, Try.ntmps17
    go_wp2
    go_ret
    exact ⟨ret_bool (by symm; rw [decide_eq_false_iff_not]; rintro rfl; exact hnm (by rw [← Hn.out, ← Hm.out])), Below.refl _ _⟩
end Go.Proofs.Ytnjfbgdighaiiaa
