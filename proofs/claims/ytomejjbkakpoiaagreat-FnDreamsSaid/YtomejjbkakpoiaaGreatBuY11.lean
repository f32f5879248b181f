/-
  Contracts of isDream and l3Crosses: whether cells are a dream.
  slices.SortFunc at impl.Cell: the kit's shelf, laid at this program's numbers.
  Worlds that a sort passes through: draws, new blocks, one row's cells put anew.
  Contract of slices.SortFunc at a row of cells of the call's own, by an order that parts whatever two cells; given by the kit's shelf: AnyQ.slices_SortFunc_total.
-/
import Derived.Test.YtomejjbkakpoiaaGreatBuY6
import Derived.Test.YtomejjbkakpoiaaGreatFacts
import Derived.Shelf.SlSortCmp.NoneTotal
import Derived.Test.YtomejjbkakpoiaaGreatBase
namespace Go.Proofs.YtomejjbkakpoiaaGreat
open Go.RowKit

theorem stair_bad {n : Int} {r c : Int} (h : ¬ (0 ≤ r ∧ r ≤ n - 2) ∨ ¬ (0 ≤ c ∧ c ≤ n - 2 - r)) : inStair n (r, c) = false := by
  unfold inStair
  rw [Bool.and_eq_false_iff]
  rcases h with h | h
  · exact .inl (decide_eq_false h)
  · exact .inr (decide_eq_false h)
theorem stair_ok {n : Int} {r c : Int} (h : 0 ≤ r ∧ r ≤ n - 2) (k : 0 ≤ c ∧ c ≤ n - 2 - r) : inStair n (r, c) = true := by
  unfold inStair
  rw [Bool.and_eq_true]
  exact ⟨decide_eq_true h, decide_eq_true k⟩
theorem stair_in {n : Int} {p : Int × Int} (hn : 1 ≤ n ∧ n ≤ 6) (h : inStair n p = true) : Low p.1 ∧ Low p.2 := by
  unfold inStair at h
  simp only [Bool.and_eq_true, decide_eq_true_eq] at h
  unfold Low
  omega
theorem dreamAt_stair {n : Int} {xs : List (Int × Int)} {k : Nat} {p : Int × Int} (h : xs[k]? = some p) (h1 : dreamAt n xs k = true) : inStair n p = true := by
  unfold dreamAt at h1
  rw [cellOf_at h, Bool.and_eq_true] at h1
  exact h1.1

set_option maxRecDepth 100000 in
set_option maxHeartbeats 3200000 in
theorem implDream_any (N : Int) (a : Option Addr) (n c : Nat) (xs : List (Int × Int)) (w : World) (hl : -9223372036854775808 ≤ N) (hu : N ≤ 9223372036854775807) (hr : RC w a xs) (hn : xs.length = n) (hb : n ≤ 1048576) :
    Calls Tryz.prog 71 #[.int .i64 N, .slice a n c] w fun e w' => e = .returned (.bool (isDream N xs)) ∧ Below w.heap.size w w' := by
  have Hn := Lib.hid hn; clear hn
  by_cases hN : 1 ≤ N ∧ N ≤ 6
  rotate_left
  · have Hres := Lib.hid (isDream_size (xs := xs) hN)
    by_cases hlow : N < 1
    · clear hN
      go_enter Tryz.func71, Tryz.ntmps71
      go_wp2
      go_ret
      exact ⟨ret_bool Hres.out.symm, Below.refl _ _⟩
    · have hhigh : 6 < N := by omega
      clear hN
      go_enter Tryz.func71, Tryz.ntmps71
      go_wp2
      go_ret
      exact ⟨ret_bool Hres.out.symm, Below.refl _ _⟩
  have HN := Lib.hid hN
  obtain ⟨hN1, hN2⟩ := hN
  have hB1 := Below.refl w.heap.size w
  go_enter Tryz.func71, Tryz.ntmps71
  go_wp2
  go_loopw [15] (fun i wr => ∃ k : Nat, k ≤ n ∧ i = .int .i64 k ∧ Hid (∀ j, j < k → dreamAt N xs j = true) ∧ Below w.heap.size w wr) (fun i _ => n - (intOf i).toNat)
  case atStart => exact ⟨0, Nat.zero_le _, rfl, by intro j hj; omega, hB1⟩
  case round =>
    clear hB1
    obtain ⟨k, hk, rfl, HA, hd⟩ := hrel
    obtain ⟨wo, rfl⟩ : ∃ wo : World, wo = wr := ⟨_, rfl⟩
    have hbs := hd.size
    by_cases hlt : k < n
    · obtain ⟨b, off, rfl, hcell⟩ := (hr.below hd).at (k := k) (by rw [Hn.out]; exact hlt)
      obtain ⟨r, c0, hx⟩ := pair_at Hn.out hlt
      obtain ⟨hc1, hc2⟩ := hcell k _ hx
      simp only at hc1 hc2
      have hlast : k ≠ 0 → ∃ r' c', xs[k-1]? = some (r', c') ∧ wo.cell? ⟨b, off + (k-1) * 2, none⟩ = some (.int .i64 r') ∧ wo.cell? ⟨b, off + (k-1) * 2 + 1, none⟩ = some (.int .i64 c') ∧ Low r' ∧ Low c' := by
        intro h0
        obtain ⟨r', c', ht⟩ := pair_at (k := k - 1) Hn.out (by omega)
        obtain ⟨e1, e2⟩ := hcell (k - 1) _ ht
        have := stair_in HN.out (dreamAt_stair ht (HA.out (k - 1) (by omega)))
        exact ⟨r', c', ht, e1, e2, this.1, this.2⟩
      clear hcell
      have Hx := Lib.hid hx; clear hx
      have q1 : (k : Int) < (n : Int) := by omega
      obtain ⟨W, hW⟩ : ∃ W, wo.alloc (.cells #[.int .i64 r, .int .i64 c0] 36) = W := ⟨_, rfl⟩
      have hBW : Below wo.heap.size wo W := by rw [← hW]; exact (Below.refl _ _).alloc (Nat.le_refl _) _
      have hdW := hd.trans (hBW.mono hbs)
      have hbW := hdW.size
      have g0 : W.heap[wo.heap.size]? = some (.cells #[.int .i64 r, .int .i64 c0] 36) := by rw [← hW]; exact heap_alloc_new wo _
      have p0 : W.cell? ⟨wo.heap.size, 0, none⟩ = some (.int .i64 r) := by rw [cell_of_row W _ 0 _ _ (0, 0) g0]; rfl
      have p1 : W.cell? ⟨wo.heap.size, 1, none⟩ = some (.int .i64 c0) := by rw [cell_of_row W _ 1 _ _ (0, 0) g0]; rfl
      have k0 := fun d os => cell_regrown p0 d os
      have k1 := fun d os => cell_regrown p1 d os
      clear g0
      by_cases h1 : r < 0
      · clear hlast
        go_wp2
        refine wp_region_quiet_below (by kernel_rfl) (by kernel_rfl) ?_
        repeat (go_big_quiet_step (fail))
        refine wpQuiet_nil ?_
        intro _ hw'
        obtain ⟨⟨dq, osq⟩, hw''⟩ := hw'
        subst hw''
        have hB2 := hdW.trans ((below_regrown W dq osq).mono hbW)
        go_wp2
        go_ret
        exact ⟨ret_bool (isDream_false (k := k) (by rw [Hn.out]; exact hlt) (dreamAt_out Hx.out (stair_bad (.inl (by omega))))).symm, hB2⟩
      have n1 : decide (r < 0) = false := by simp; omega
      by_cases h2 : N - 2 < r
      · clear hlast
        go_wp2
        refine wp_region_quiet_below (by kernel_rfl) (by kernel_rfl) ?_
        repeat (go_big_quiet_step (fail))
        refine wpQuiet_nil ?_
        intro _ hw'
        obtain ⟨⟨dq, osq⟩, hw''⟩ := hw'
        subst hw''
        have hB2 := hdW.trans ((below_regrown W dq osq).mono hbW)
        go_wp2
        go_ret
        exact ⟨ret_bool (isDream_false (k := k) (by rw [Hn.out]; exact hlt) (dreamAt_out Hx.out (stair_bad (.inl (by omega))))).symm, hB2⟩
      have n2 : decide (N - 2 < r) = false := by simp; omega
      by_cases h3 : c0 < 0
      · clear hlast
        go_wp2
        refine wp_region_quiet_below (by kernel_rfl) (by kernel_rfl) ?_
        repeat (go_big_quiet_step (fail))
        refine wpQuiet_nil ?_
        intro _ hw'
        obtain ⟨⟨dq, osq⟩, hw''⟩ := hw'
        subst hw''
        have hB2 := hdW.trans ((below_regrown W dq osq).mono hbW)
        go_wp2
        go_ret
        exact ⟨ret_bool (isDream_false (k := k) (by rw [Hn.out]; exact hlt) (dreamAt_out Hx.out (stair_bad (.inr (by omega))))).symm, hB2⟩
      have n3 : decide (c0 < 0) = false := by simp; omega
      by_cases h4 : N - 2 - r < c0
      · clear hlast
        go_wp2
        refine wp_region_quiet_below (by kernel_rfl) (by kernel_rfl) ?_
        repeat (go_big_quiet_step (fail))
        refine wpQuiet_nil ?_
        intro _ hw'
        obtain ⟨⟨dq, osq⟩, hw''⟩ := hw'
        subst hw''
        have hB2 := hdW.trans ((below_regrown W dq osq).mono hbW)
        go_wp2
        go_ret
        exact ⟨ret_bool (isDream_false (k := k) (by rw [Hn.out]; exact hlt) (dreamAt_out Hx.out (stair_bad (.inr (by omega))))).symm, hB2⟩
      have n4 : decide (N - 2 - r < c0) = false := by simp; omega
      obtain ⟨hr0, hr1⟩ : 0 ≤ r ∧ r ≤ N - 2 := by simp at n1 n2; omega
      obtain ⟨hcol0, hcol1⟩ : 0 ≤ c0 ∧ c0 ≤ N - 2 - r := by simp at n3 n4; omega
      have HS := Lib.hid (stair_ok ⟨hr0, hr1⟩ ⟨hcol0, hcol1⟩)
      by_cases hk0 : k = 0
      · clear hlast
        subst hk0
        simp only [Nat.zero_mul, Nat.add_zero] at hc1 hc2
        have g0 : decide ((0 : Int) < 0) = false := by decide
        go_wp2
        refine wp_region_quiet_below (by kernel_rfl) (by kernel_rfl) ?_
        repeat (go_big_quiet_step (fail))
        refine wpQuiet_nil ?_
        intro _ hw'
        obtain ⟨⟨dq, osq⟩, hw''⟩ := hw'
        subst hw''
        have hB2 := hdW.trans ((below_regrown W dq osq).mono hbW)
        go_wp2
        go_roundw
        case rel => exact ⟨1, by omega, rfl, dream_next HA.out (dreamAt_first Hx.out HS.out), hB2⟩
        case measure => simp [intOf]; omega
      · obtain ⟨r2, c2, ht, hc3, hc4, hl1, hl2⟩ := hlast hk0
        clear hlast
        have Ht := Lib.hid ht; clear ht
        have hc3 : W.cell? ⟨b, off + (k-1) * 2, none⟩ = some (.int .i64 r2) := by rw [hBW.cell (World.block_lt_of_cell? wo _ hc3)]; exact hc3
        have hc4 : W.cell? ⟨b, off + (k-1) * 2 + 1, none⟩ = some (.int .i64 c2) := by rw [hBW.cell (World.block_lt_of_cell? wo _ hc4)]; exact hc4
        have k2 := fun d os => cell_regrown hc3 d os
        have k3 := fun d os => cell_regrown hc4 d os
        have g0 : 0 < k := by omega
        have g1 : (0 : Int) ≤ (k : Int) - 1 := by omega
        have g2 : (k : Int) - 1 < (n : Int) := by omega
        cases hL : cellLess (r2, c2) (r, c0)
        · have HL := Lib.hid hL
          obtain ⟨oo, hoo⟩ : ∃ o, cellCmp (r2, c2) (r, c0) = o := ⟨_, rfl⟩
          have ho2 : decide (0 ≤ oo) = !(cellLess (r2, c2) (r, c0)) := by rw [← cellCmp_less, hoo]; by_cases h : oo < 0 <;> simp [h] <;> omega
          rw [hL] at ho2
          simp only [Bool.not_false] at ho2
          have cl : ∀ (d : Nat) (os : Array Obj), Calls Tryz.prog 76 #[.agg #[.int .i64 r2, .int .i64 c2], .agg #[.int .i64 r, .int .i64 c0]] (Go.Sort.grow (redrawn W d) os) fun e w'' => e = .returned (.int .i64 oo) ∧ ∃ p : Regrown, w'' = Go.Sort.grow (redrawn W p.d) p.os := fun d os => Calls.regrown_of (by rw [← hoo]; exact byCells_any r2 c2 r c0 _ hl1 hl2 (by unfold Low; omega) (by unfold Low; omega))
          have CL := Lib.hid cl; clear cl hL hoo
          have g3 : IntKind.i64.wrap ((k : Int) - 1) = (k : Int) - 1 := IntWalk.i64_in _ (by omega)
          have g4 : ((k : Int) - 1).toNat = k - 1 := by omega
          go_wp2
          refine wp_region_quiet_below (by kernel_rfl) (by kernel_rfl) ?_
          repeat (go_big_quiet_step (first | (go_at_call 76; exact CL.out _ _)))
          refine wpQuiet_nil ?_
          intro _ hw'
          obtain ⟨⟨dq, osq⟩, hw''⟩ := hw'
          subst hw''
          have hB2 := hdW.trans ((below_regrown W dq osq).mono hbW)
          clear g3 g4
          go_wp2
          go_ret
          exact ⟨ret_bool (isDream_false (k := k) (by rw [Hn.out]; exact hlt) (dreamAt_rise Hx.out Ht.out hk0 HL.out)).symm, hB2⟩
        · have HL := Lib.hid hL
          obtain ⟨oo, hoo⟩ : ∃ o, cellCmp (r2, c2) (r, c0) = o := ⟨_, rfl⟩
          have ho2 : decide (0 ≤ oo) = !(cellLess (r2, c2) (r, c0)) := by rw [← cellCmp_less, hoo]; by_cases h : oo < 0 <;> simp [h] <;> omega
          rw [hL] at ho2
          simp only [Bool.not_true] at ho2
          have cl : ∀ (d : Nat) (os : Array Obj), Calls Tryz.prog 76 #[.agg #[.int .i64 r2, .int .i64 c2], .agg #[.int .i64 r, .int .i64 c0]] (Go.Sort.grow (redrawn W d) os) fun e w'' => e = .returned (.int .i64 oo) ∧ ∃ p : Regrown, w'' = Go.Sort.grow (redrawn W p.d) p.os := fun d os => Calls.regrown_of (by rw [← hoo]; exact byCells_any r2 c2 r c0 _ hl1 hl2 (by unfold Low; omega) (by unfold Low; omega))
          have CL := Lib.hid cl; clear cl hL hoo
          have g3 : IntKind.i64.wrap ((k : Int) - 1) = (k : Int) - 1 := IntWalk.i64_in _ (by omega)
          have g4 : ((k : Int) - 1).toNat = k - 1 := by omega
          go_wp2
          refine wp_region_quiet_below (by kernel_rfl) (by kernel_rfl) ?_
          repeat (go_big_quiet_step (first | (go_at_call 76; exact CL.out _ _)))
          refine wpQuiet_nil ?_
          intro _ hw'
          obtain ⟨⟨dq, osq⟩, hw''⟩ := hw'
          subst hw''
          have hB2 := hdW.trans ((below_regrown W dq osq).mono hbW)
          clear g3 g4
          go_wp2
          go_roundw
          case rel => exact ⟨k + 1, by omega, by go_num, dream_next HA.out (dreamAt_next Hx.out Ht.out HS.out HL.out), hB2⟩
          case measure => simp [intOf]; omega
    · obtain rfl : k = n := by omega
      go_wp2
      go_ret
      exact ⟨ret_bool (isDream_true HN.out (by rw [Hn.out]; exact HA.out)).symm, hd⟩
end Go.Proofs.YtomejjbkakpoiaaGreat

namespace Go.Proofs.YtomejjbkakpoiaaGreat
open Go.RowKit Go.Shelf

def renSortC : Ren := ⟨fun k => if k = 6 then 75 else if k = 14 then 109 else if k = 15 then 110 else if k = 20 then 125 else if k = 21 then 126 else if k = 22 then 127 else if k = 23 then 128 else if k = 24 then 129 else if k = 25 then 130 else if k = 26 then 131 else if k = 27 then 132 else if k = 28 then 133 else if k = 29 then 134 else if k = 46 then 162 else if k = 47 then 163 else if k = 48 then 164 else if k = 49 then 165 else if k = 50 then 166 else if k = 57 then 176 else 0, fun k => if k = 22 then 33 else if k = 24 then 36 else if k = 25 then 100 else if k = 39 then 123 else if k = 45 then 140 else if k = 46 then 141 else if k = 50 then 145 else if k = 53 then 148 else if k = 55 then 150 else if k = 66 then 167 else if k = 70 then 171 else if k = 76 then 179 else if k = 77 then 180 else k, fun k => k⟩
theorem laysSortC : SlLaysF0.n6 Tryz.prog renSortC where
  mixed := by kernel_rfl
  f6 := ⟨Tryz.f75.name, by kernel_rfl, by kernel_rfl⟩
  f14 := ⟨Tryz.f109.name, by kernel_rfl, by kernel_rfl⟩
  f15 := by kernel_rfl
  f20 := ⟨Tryz.f125.name, by kernel_rfl, by kernel_rfl⟩
  f21 := ⟨Tryz.f126.name, by kernel_rfl, by kernel_rfl⟩
  f22 := ⟨Tryz.f127.name, by kernel_rfl, by kernel_rfl⟩
  f23 := ⟨Tryz.f128.name, by kernel_rfl, by kernel_rfl⟩
  f24 := ⟨Tryz.f129.name, by kernel_rfl, by kernel_rfl⟩
  f25 := ⟨Tryz.f130.name, by kernel_rfl, by kernel_rfl⟩
  f26 := ⟨Tryz.f131.name, by kernel_rfl, by kernel_rfl⟩
  f27 := ⟨Tryz.f132.name, by kernel_rfl, by kernel_rfl⟩
  f28 := by kernel_rfl
  f29 := by kernel_rfl
  f46 := ⟨Tryz.f162.name, by kernel_rfl, by kernel_rfl⟩
  f47 := by kernel_rfl
  f48 := by kernel_rfl
  f49 := ⟨Tryz.f165.name, by kernel_rfl, by kernel_rfl⟩
  f50 := ⟨Tryz.f166.name, by kernel_rfl, by kernel_rfl⟩
  f57 := ⟨Tryz.f176.name, by kernel_rfl, by kernel_rfl⟩
  t0 := by kernel_rfl
  a0 := fun w => by kernel_rfl
  z0 := fun w => by kernel_rfl
  v0 := fun w => by kernel_rfl
  t3 := by kernel_rfl
  a3 := fun w => by kernel_rfl
  z3 := fun w => by kernel_rfl
  v3 := fun w => by kernel_rfl
  t4 := by kernel_rfl
  a4 := fun w => by kernel_rfl
  z4 := fun w => by kernel_rfl
  v4 := fun w => by kernel_rfl
  t5 := by kernel_rfl
  a5 := fun w => by kernel_rfl
  z5 := fun w => by kernel_rfl
  v5 := fun w => by kernel_rfl
  t9 := by kernel_rfl
  a9 := fun w => by kernel_rfl
  z9 := fun w => by kernel_rfl
  v9 := fun w => by kernel_rfl
  t22 := by kernel_rfl
  a22 := fun w => by kernel_rfl
  z22 := fun w => by kernel_rfl
  v22 := fun w => by kernel_rfl
  t25 := by kernel_rfl
  a25 := fun w => by kernel_rfl
  z25 := fun w => by kernel_rfl
  v25 := fun w => by kernel_rfl
  t39 := by kernel_rfl
  a39 := fun w => by kernel_rfl
  z39 := fun w => by kernel_rfl
  v39 := fun w => by kernel_rfl
  t45 := by kernel_rfl
  a45 := fun w => by kernel_rfl
  z45 := fun w => by kernel_rfl
  v45 := fun w => by kernel_rfl
  t46 := by kernel_rfl
  a46 := fun w => by kernel_rfl
  z46 := fun w => by kernel_rfl
  v46 := fun w => by kernel_rfl
  t50 := by kernel_rfl
  a50 := fun w => by kernel_rfl
  z50 := fun w => by kernel_rfl
  v50 := fun w => by kernel_rfl
  t53 := by kernel_rfl
  a53 := fun w => by kernel_rfl
  z53 := fun w => by kernel_rfl
  v53 := fun w => by kernel_rfl
  t55 := by kernel_rfl
  a55 := fun w => by kernel_rfl
  z55 := fun w => by kernel_rfl
  v55 := fun w => by kernel_rfl
  t66 := by kernel_rfl
  a66 := fun w => by kernel_rfl
  z66 := fun w => by kernel_rfl
  v66 := fun w => by kernel_rfl
  t70 := by kernel_rfl
  a70 := fun w => by kernel_rfl
  z70 := fun w => by kernel_rfl
  v70 := fun w => by kernel_rfl
  t76 := by kernel_rfl
  a76 := fun w => by kernel_rfl
  z76 := fun w => by kernel_rfl
  v76 := fun w => by kernel_rfl
  t77 := by kernel_rfl
  a77 := fun w => by kernel_rfl
  z77 := fun w => by kernel_rfl
  v77 := fun w => by kernel_rfl
end Go.Proofs.YtomejjbkakpoiaaGreat

namespace Go.Proofs.YtomejjbkakpoiaaGreat
open Go.RowKit Go.Shelf Go.Sort

/-- nothing but draws and new blocks -/
def Laid (w w' : World) : Prop := ∃ q os, w' = grow (w.drewN q) os
theorem Laid.refl (w : World) : Laid w w := ⟨0, #[], by rw [grow_empty]; rfl⟩
theorem Laid.alloc {w w' : World} (h : Laid w w') (o : Obj) : Laid w (w'.alloc o) := by
  obtain ⟨q, os, rfl⟩ := h
  exact ⟨q, os ++ #[o], by rw [alloc_eq_grow, grow_grow]⟩
theorem Laid.drew {w w' : World} (h : Laid w w') (n : Nat) : Laid w (w'.drewN n) := by
  obtain ⟨q, os, rfl⟩ := h
  exact ⟨q + n, os, by show grow ((w.drewN q).drewN n) os = _; rw [World.drewN_drewN]⟩
theorem Laid.trans {a b c : World} (h : Laid a b) (k : Laid b c) : Laid a c := by
  obtain ⟨q, os, rfl⟩ := k
  obtain ⟨p, os', e⟩ := h.drew q
  exact ⟨p, os' ++ os, by rw [e, grow_grow]⟩

theorem heap_sortedV {w : World} {g n : Nat} {os : Array Obj} {cur : Array Value} {e : TypeId} {fr : Nat × Nat} (d : Array Value) (hb : w.heap[g]? = some (.cells cur e fr)) :
    (grow (putRow id (Go.Sort.ahead w n) g 0 d) os).heap[g]? = some (.cells (putCells id 0 d cur) e fr) := by
  have hg : g < w.heap.size := (Array.getElem?_eq_some_iff.1 hb).1
  rw [heap_grow_old _ _ (by simpa using hg)]
  simp [putRow, mapBlock, Go.Sort.ahead, Array.getElem?_modify, hb, onCells]
theorem grownBy_sortedV {w : World} {g n : Nat} {os : Array Obj} (d : Array Value) : w.grownBy (grow (putRow id (Go.Sort.ahead w n) g 0 d) os) (some g) := by
  refine ⟨rfl, rfl, rfl, by simp, fun k hk hne => ?_⟩
  rw [heap_grow_old _ _ (by simpa using hk)]
  have : g ≠ k := fun e => hne (by rw [e])
  simp [putRow, mapBlock, Go.Sort.ahead, Array.getElem?_modify, this]
theorem take_putCellsV (cur : Array Value) (ts : List Value) (h : ts.length ≤ cur.size) : (putCells id 0 ts.toArray cur).toList.take ts.length = ts := by
  apply List.ext_getElem?
  intro j
  by_cases hj : j < ts.length
  · rw [List.getElem?_take_of_lt hj, Array.getElem?_toList]
    simp [putCells, hj, show j < cur.size by omega]
  · rw [List.getElem?_take_eq_none (by omega), List.getElem?_eq_none (by omega)]

theorem Drew.laid {w w' : World} (h : Drew w w') : Laid w w' := by
  obtain ⟨m, rfl⟩ := h
  exact (Laid.refl w).drew m
end Go.Proofs.YtomejjbkakpoiaaGreat

namespace Go.Proofs.YtomejjbkakpoiaaGreat
open Go.RowKit Go.Shelf Go.Sort

/-- cells whose numbers are small -/
def LowP : Type := { p : Int × Int // Low p.1 ∧ Low p.2 }
instance : Inhabited LowP := ⟨⟨(0, 0), by unfold Low; omega, by unfold Low; omega⟩⟩
def encP (p : LowP) : List Value := [.int .i64 p.1.1, .int .i64 p.1.2]
def lowed (xs : List (Int × Int)) (h : ∀ p ∈ xs, Low p.1 ∧ Low p.2) : List LowP := xs.attachWith _ h
theorem lowed_val (xs : List (Int × Int)) (h : ∀ p ∈ xs, Low p.1 ∧ Low p.2) : (lowed xs h).map (fun p => p.1) = xs := by
  unfold lowed
  exact List.attachWith_map_subtype_val h
theorem lowed_length (xs : List (Int × Int)) (h : ∀ p ∈ xs, Low p.1 ∧ Low p.2) : (lowed xs h).length = xs.length := by
  unfold lowed; exact List.length_attachWith
theorem flat_prs (ys : List LowP) : flatK encP 2 ys.toArray = (prs (ys.map fun p => p.1)).toArray := by
  apply Array.ext_getElem?
  intro t
  by_cases ht : t < ys.length * 2
  · have h1 : (flatK encP 2 ys.toArray)[t]? = some (flatK encP 2 ys.toArray)[t]! := by
      rw [getElem!_pos _ t (by simpa using ht)]; exact Array.getElem?_eq_getElem _
    rw [h1, get_flatK _ _ _ _ (by simpa using ht)]
    have hk : t / 2 < ys.length := by omega
    have hp : (ys.map fun p => p.1)[t / 2]? = some (ys[t / 2]'hk).1 := by simp [hk]
    obtain ⟨e1, e2⟩ := prs_at hp
    have e3 : ys.toArray[t / 2]! = ys[t / 2]'hk := by simp [hk]
    rw [e3]
    rw [List.getElem?_toArray]
    rcases Nat.mod_two_eq_zero_or_one t with h | h
    · rw [h]
      have : t = t / 2 * 2 := by omega
      rw [show (prs (ys.map fun p => p.1))[t]? = (prs (ys.map fun p => p.1))[t / 2 * 2]? by rw [← this], e1]
      rfl
    · rw [h]
      have : t = t / 2 * 2 + 1 := by omega
      rw [show (prs (ys.map fun p => p.1))[t]? = (prs (ys.map fun p => p.1))[t / 2 * 2 + 1]? by rw [← this], e2]
      rfl
  · rw [Array.getElem?_eq_none (by simp; omega), Array.getElem?_eq_none (by simp [prs_length]; omega)]

theorem sizeOf_Cell (w : World) : (Go.sizeOf 36).run Tryz.prog w = .ok 2 w := by kernel_rfl
theorem isAgg_Cell (w : World) : (isAgg 36).run Tryz.prog w = .ok true w := by kernel_rfl

theorem sortC_any (cf : LowP → LowP → Int) (hO : SWO (ltOf cf)) (hT : ∀ x y, (ltOf cf) x y = false → (ltOf cf) y x = false → x = y) (le : (Int × Int) → (Int × Int) → Bool) (hle : ∀ x y : LowP, le x.1 y.1 = !(ltOf cf) y x)
    (f : Nat) (ef : ∀ args w, (callFunc f args).run Tryz.prog w = .ok (.enter f args) w) (hcmp : ∀ (x y : LowP) (w : World), Calls Tryz.prog f #[.agg (encP x).toArray, .agg (encP y).toArray] w fun e w' => e = .returned (.int .i64 (cf x y)) ∧ Laid w w')
    (B S : Nat) (a : Option Addr) (n c : Nat) (xs : List (Int × Int)) (w : World) (ho : CO w B S a n c xs) (hlow : ∀ p ∈ xs, Low p.1 ∧ Low p.2) (hb : n ≤ 1048576) :
    Calls Tryz.prog 75 #[.slice a n c, .func (.func f) #[] #[]] w fun e w' => e = .returned (.tuple #[]) ∧ CO w' B S a n c (xs.mergeSort le) ∧ Only B S w w' := by
  have hl := ho.len
  rcases Nat.eq_zero_or_pos n with h0 | h0
  · subst h0
    have hx : xs = [] := List.length_eq_zero_iff.1 hl
    subst hx
    refine Calls.mono (AnyF.slices_SortFunc_none laysSortC a c _ w) ?_
    rintro e w' ⟨rfl, rfl⟩
    refine ⟨rfl, ?_, Only.refl _ _ _⟩
    rw [List.mergeSort_nil]
    exact ho
  · have hlo := ho.lo
    have hhi := ho.2
    rcases ho.1.2 with ⟨_, h2⟩ | ⟨g, cap, cur, hv, hg, hh, hn, hm, hs, ht⟩
    · omega
    · simp only [Value.slice.injEq] at hv
      obtain ⟨rfl, _, rfl⟩ := hv
      have hgz : g < w.heap.size := (Array.getElem?_eq_some_iff.1 hh).1
      have hgS := hhi g rfl
      have hll : (lowed xs hlow).toArray.size = n := by simp [lowed_length, hl]
      have hfl : flatK encP 2 (lowed xs hlow).toArray = (prs xs).toArray := by rw [flat_prs, lowed_val]
      have hH : HoldsK encP 2 w g 0 (lowed xs hlow).toArray := by
        unfold HoldsK
        rw [hfl]
        intro j hj
        have hj' : j < n * 2 := by simpa [prs_length, hl] using hj
        rw [Nat.zero_add]
        refine ⟨?_, ho.1.frozenAt _⟩
        rw [ho.1.cellAt _ (by simpa using hj')]
        simp [prs_length, hl, hj']
      have key := AnyQ.slices_SortFunc_total laysSortC 2 isAgg_Cell sizeOf_Cell encP (fun _ => rfl) (by intro x v hv; simp [encP] at hv; rcases hv with rfl | rfl <;> rfl) cf hO f #[] g 0 c (lowed xs hlow).toArray w ef
        (by
          intro m os dk hdk x y
          refine (hcmp x y _).mono ?_
          rintro e w' ⟨he, q, os', hw⟩
          exact ⟨he, q, os', hw⟩) hH hgz (by rw [hll]; omega) hT
      rw [hll] at key
      refine Calls.mono key ?_
      rintro e w' ⟨rfl, m, os, rfl⟩
      have hms : ((lowed xs hlow).mergeSort (fun x y => !(ltOf cf) y x)).map (fun p => p.1) = xs.mergeSort le := by
        rw [List.map_mergeSort (s := le), lowed_val]
        intro x _ y _
        exact (hle x y).symm
      have hfs : flatK encP 2 ((lowed xs hlow).mergeSort (fun x y => !(ltOf cf) y x)).toArray = (prs (xs.mergeSort le)).toArray := by rw [flat_prs, hms]
      have hlen : (prs (xs.mergeSort le)).length = n * 2 := by rw [prs_length, List.length_mergeSort, hl]
      have hnew := heap_sortedV (n := m) (os := os) (prs (xs.mergeSort le)).toArray hh
      have hgr := grownBy_sortedV (w := w) (g := g) (n := m) (os := os) (prs (xs.mergeSort le)).toArray
      unfold sortWorldK putRowK
      rw [show ((lowed xs hlow).toArray.toList.mergeSort fun x y => !(ltOf cf) y x) = (lowed xs hlow).mergeSort (fun x y => !(ltOf cf) y x) from rfl, hfs]
      refine ⟨rfl, ⟨⟨hlen, .inr ⟨g, c, _, rfl, hg, hnew, hn, hm, by simp [putCells, hs], ?_⟩⟩, hhi⟩, Only.of_grown (v := .slice (some ⟨g, 0, none⟩) n c) hgr hlo hhi⟩
      rw [← hlen]
      exact take_putCellsV cur _ (by rw [hlen, hs]; exact Nat.mul_le_mul_right 2 hn)
end Go.Proofs.YtomejjbkakpoiaaGreat
