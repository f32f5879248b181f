/-
  Contract of l1HasCell.
-/
import Derived.Test.YtageojkepoejiaaBuG2
namespace Go.Proofs.Ytageojkepoejiaa
open Go.RowKit

/-- whether the list has the cell -/
def hasC (xs : List (Int × Int)) (p q : Int) : Bool := xs.contains (p, q)
theorem contains_no {xs : List (Int × Int)} {x : Int × Int} {n : Nat} (hn : xs.length = n) (h : ∀ j, j < n → xs[j]? ≠ some x) : xs.contains x = false := by
  rw [Bool.eq_false_iff]
  intro hc
  obtain ⟨j, hj⟩ := List.getElem?_of_mem (List.contains_iff_mem.1 hc)
  exact h j (by have := (List.getElem?_eq_some_iff.1 hj).1; omega) hj
set_option maxRecDepth 100000 in
set_option maxHeartbeats 1600000 in
theorem l1HasCell_any (a : Option Addr) (n c : Nat) (xs : List (Int × Int)) (p q : Int) (w : World) (hr : RC w a xs) (hn : xs.length = n) (hb : n ≤ 1048576) :
    Calls Try.prog 45 #[.slice a n c, .agg #[.int .i64 p, .int .i64 q]] w fun e w' => e = .returned (.bool (hasC xs p q)) ∧ Below w.heap.size w w' := by
  have Hn := Lib.hid hn; clear hn
  have hB0 : Below w.heap.size w (w.alloc (.cells #[.int .i64 p, .int .i64 q] 60)) := (Below.refl _ _).alloc (Nat.le_refl _) _
  have g0 : (w.alloc (.cells #[.int .i64 p, .int .i64 q] 60)).heap[w.heap.size]? = some (.cells #[.int .i64 p, .int .i64 q] 60) := heap_alloc_new w _
  have y0 : (w.alloc (.cells #[.int .i64 p, .int .i64 q] 60)).cell? ⟨w.heap.size, 0, none⟩ = some (.int .i64 p) := by rw [cell_of_row _ _ 0 _ _ (0, 0) g0]; rfl
  have y1 : (w.alloc (.cells #[.int .i64 p, .int .i64 q] 60)).cell? ⟨w.heap.size, 1, none⟩ = some (.int .i64 q) := by rw [cell_of_row _ _ 1 _ _ (0, 0) g0]; rfl
  clear g0
  go_enter Try.func45, Try.ntmps45
  go_wp2
  go_loopw [5] (fun iv wr => Hid (∃ k : Nat, k ≤ n ∧ iv = .int .i64 k ∧ ∀ j, j < k → xs[j]? ≠ some (p, q)) ∧ Drew (w.alloc (.cells #[.int .i64 p, .int .i64 q] 60)) wr) (fun iv _ => n - (intOf iv).toNat)
  case atStart => exact ⟨⟨0, Nat.zero_le _, rfl, fun j hj => by omega⟩, Drew.refl _⟩
  case round =>
    obtain ⟨HV, hd⟩ := hrel
    obtain ⟨wo, rfl⟩ : ∃ wo : World, wo = wr := ⟨_, rfl⟩
    obtain ⟨k, hk, rfl, hno⟩ := HV.out
    clear HV
    have hB := hB0.trans (hd.below w.heap.size)
    have z0 : wo.cell? ⟨w.heap.size, 0, none⟩ = some (.int .i64 p) := by rw [hd.cell]; exact y0
    have z1 : wo.cell? ⟨w.heap.size, 1, none⟩ = some (.int .i64 q) := by rw [hd.cell]; exact y1
    by_cases hlt : k < n
    · obtain ⟨b, off, rfl, hcell⟩ := (hr.below hB).at (k := k) (by rw [Hn.out]; exact hlt)
      obtain ⟨u, v, hx⟩ := pair_at Hn.out hlt
      obtain ⟨hc1, hc2⟩ := hcell _ _ hx
      simp only at hc1 hc2
      have q1 : (k : Int) < (n : Int) := by omega
      have Hx := Lib.hid hx
      have Hno := Lib.hid hno
      clear hcell hx hno y0 y1
      by_cases he : (u, v) = (p, q)
      · have hm : xs.contains (p, q) = true := List.contains_iff_mem.2 (List.mem_of_getElem? (by rw [Hx.out, he]))
        have Hm := Lib.hid hm
        have e1 : (u == p) = true := by simp only [Prod.mk.injEq] at he; simp [he.1]
        have e2 : (v == q) = true := by simp only [Prod.mk.injEq] at he; simp [he.2]
        clear he hm
        go_wp2
        go_quiet (fail)
        go_wp2
        go_ret
        exact ⟨ret_bool Hm.out.symm, hB.trans (Drew.below (Drew.drewN wo nq) _)⟩
      · have hno2 := Lib.hid (show ∀ j, j < k + 1 → xs[j]? ≠ some (p, q) from fun j hj => by
          rcases Nat.lt_or_ge j k with h | h
          · exact Hno.out j h
          · obtain rfl : j = k := by omega
            rw [Hx.out]
            exact fun e => he (Option.some.inj e))
        have hd2 := hd.trans (Drew.drewN wo 1)
        by_cases h1 : u = p
        · have h2 : v ≠ q := fun e => he (by rw [h1, e])
          have e1 : (u == p) = true := by simp [h1]
          have e2 : (v == q) = false := by simp [h2]
          clear he h1 h2 hd2
          go_wp2
          go_quiet (fail)
          go_wp2
          go_roundw
          case rel => exact ⟨⟨k + 1, by omega, by go_num, hno2.out⟩, hd.trans (Drew.drewN wo nq)⟩
          case measure => simp [intOf]; omega
        · have e1 : (u == p) = false := by simp [h1]
          clear he h1 hd2
          go_wp2
          go_quiet (fail)
          go_wp2
          go_roundw
          case rel => exact ⟨⟨k + 1, by omega, by go_num, hno2.out⟩, hd.trans (Drew.drewN wo nq)⟩
          case measure => simp [intOf]; omega
    · obtain rfl : k = n := by omega
      have Hm := Lib.hid (contains_no Hn.out hno)
      go_wp2
      go_ret
      exact ⟨ret_bool Hm.out.symm, hB⟩
end Go.Proofs.Ytageojkepoejiaa
