/-
  Slices of pairs of a slice of integers and an integer: what they read as; compared, measured.
-/
import Derived.Test.YtiiiiolifpaehaaSzI
import Derived.StillTailTactics
namespace Go.Proofs.Ytiiiiolifpaehaa
open Go.RowKit

/-- the slice at address a reads as pairs -/
def RP (w : World) (a : Option Addr) (xs : List (List Int × Int)) : Prop :=
  xs = [] ∨ ∃ b off, a = some ⟨b, off, none⟩ ∧ ∀ k p, xs[k]? = some p → ∃ a' c', w.cell? ⟨b, off + k * 2, none⟩ = some (.slice a' p.1.length c') ∧ w.cell? ⟨b, off + k * 2 + 1, none⟩ = some (.int .i64 p.2) ∧ RI w a' p.1 ∧ p.1.length ≤ c'
theorem RP.at {w : World} {a : Option Addr} {xs : List (List Int × Int)} (h : RP w a xs) {k : Nat} (hk : k < xs.length) :
    ∃ b off, a = some ⟨b, off, none⟩ ∧ ∀ k p, xs[k]? = some p → ∃ a' c', w.cell? ⟨b, off + k * 2, none⟩ = some (.slice a' p.1.length c') ∧ w.cell? ⟨b, off + k * 2 + 1, none⟩ = some (.int .i64 p.2) ∧ RI w a' p.1 ∧ p.1.length ≤ c' := by
  rcases h with rfl | h
  · simp at hk
  · exact h
theorem RP.below {w w' : World} {a : Option Addr} {xs : List (List Int × Int)} (h : RP w a xs) (hb : Below w.heap.size w w') : RP w' a xs := by
  rcases h with h | ⟨b, off, ha, hc⟩
  · exact .inl h
  · exact .inr ⟨b, off, ha, fun k x hx => by
      obtain ⟨a', c', h1, h2, h3, h4⟩ := hc k x hx
      exact ⟨a', c', by rw [hb.cell (World.block_lt_of_cell? w _ h1)]; exact h1, by rw [hb.cell (World.block_lt_of_cell? w _ h2)]; exact h2, h3.below hb, h4⟩⟩
theorem part_at {xs : List (List Int × Int)} {n k : Nat} (h : xs.length = n) (hk : k < n) : ∃ p q, xs[k]? = some (p, q) := ⟨(xs[k]'(by omega)).1, (xs[k]'(by omega)).2, List.getElem?_eq_getElem (by omega)⟩

set_option maxRecDepth 100000 in
set_option maxHeartbeats 800000 in
theorem eqPart_any (a b : Option Addr) (n c m d : Nat) (xs ys : List Int) (x y : Int) (w : World) (hr : RI w a xs) (hs : RI w b ys) (hn : xs.length = n) (hm : ys.length = m) (hb : n ≤ 1048576) :
    Calls Try.prog 141 #[.agg #[.slice a n c, .int .i64 x], .agg #[.slice b m d, .int .i64 y]] w fun e w' => e = .returned (.bool (decide ((xs, x) = (ys, y)))) ∧ Below w.heap.size w w' := by
  have hB := ((Below.refl w.heap.size w).alloc (Nat.le_refl _) (.cells #[.slice a n c, .int .i64 x] 121)).alloc (by simp only [World.alloc, Array.size_push]; omega) (.cells #[.slice b m d, .int .i64 y] 121)
  have hr1 := hr.below hB
  have hs1 := hs.below hB
  have HB := Lib.hid hB; clear hB
  by_cases h1 : xs = ys
  · have e0 := Lib.hid (show decide (xs = ys) = true by simp [h1])
    by_cases h2 : x = y
    · subst h2
      have e2 : (x != x) = false := by simp
      have Hres := Lib.hid (show decide ((xs, x) = (ys, x)) = true by simp [h1])
      clear h1
      go_enter Try.func141, Try.ntmps141
      go_wp2_with fail
      refine (is (eqIntS_any _ _ _ _ _ _ xs ys _ hr1 hs1 hn hm (by omega)) e0.out).mono ?_
      rintro e w1 ⟨rfl, ⟨q, rfl⟩⟩
      go_wp2
      go_ret
      exact ⟨ret_bool Hres.out.symm, HB.out.trans (Drew.below ⟨q, rfl⟩ _)⟩
    · have e2 : (x != y) = true := by simp [h2]
      have Hres := Lib.hid (show decide ((xs, x) = (ys, y)) = false by simp [h2])
      clear h1
      go_enter Try.func141, Try.ntmps141
      go_wp2_with fail
      refine (is (eqIntS_any _ _ _ _ _ _ xs ys _ hr1 hs1 hn hm (by omega)) e0.out).mono ?_
      rintro e w1 ⟨rfl, ⟨q, rfl⟩⟩
      go_wp2
      go_ret
      exact ⟨ret_bool Hres.out.symm, HB.out.trans (Drew.below ⟨q, rfl⟩ _)⟩
  · have e0 := Lib.hid (show decide (xs = ys) = false by simp [h1])
    have Hres := Lib.hid (show decide ((xs, x) = (ys, y)) = false by simp [h1])
    clear h1
    go_enter Try.func141, Try.ntmps141
    go_wp2_with fail
    refine (is (eqIntS_any _ _ _ _ _ _ xs ys _ hr1 hs1 hn hm (by omega)) e0.out).mono ?_
    rintro e w1 ⟨rfl, ⟨q, rfl⟩⟩
    go_wp2
    go_ret
    exact ⟨ret_bool Hres.out.symm, HB.out.trans (Drew.below ⟨q, rfl⟩ _)⟩

set_option maxRecDepth 100000 in
set_option maxHeartbeats 800000 in
theorem szPart_any (a : Option Addr) (n c : Nat) (x left : Int) (w : World) (h0 : 0 ≤ left) (h1 : left ≤ 1048576) (hb : n ≤ 9223372036854775807) :
    Calls Try.prog 131 #[.agg #[.slice a n c, .int .i64 x], .int .i64 left] w fun e w' => e = .returned (.int .i64 (leftOf left n)) ∧ Below w.heap.size w w' := by
  have hB := (Below.refl w.heap.size w).alloc (Nat.le_refl _) (.cells #[.slice a n c, .int .i64 x] 117)
  have HB := Lib.hid hB; clear hB
  by_cases h : left < n
  · have hq := Lib.hid (leftOf_lt h)
    go_enter Try.func131, Try.ntmps131
    go_wp2_with fail
    refine (isInt (szIntS_any _ _ _ left _ h0 h1 hb) hq.out).mono ?_
    rintro e w1 ⟨rfl, rfl⟩
    go_wp2
    go_ret
    exact ⟨ret_int hq.out.symm, HB.out⟩
  · have hq := Lib.hid (leftOf_ge h)
    have hn : ¬ (left - (n : Int) < 0) := by omega
    go_enter Try.func131, Try.ntmps131
    go_wp2_with fail
    refine (isInt (szIntS_any _ _ _ left _ h0 h1 hb) hq.out).mono ?_
    rintro e w1 ⟨rfl, rfl⟩
    go_wp2
    go_ret
    exact ⟨ret_int hq.out.symm, HB.out⟩
end Go.Proofs.Ytiiiiolifpaehaa
