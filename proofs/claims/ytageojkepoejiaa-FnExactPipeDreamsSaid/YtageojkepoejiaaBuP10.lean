/-
  Contract of l3Before: dreams compared cell by cell.
  Contracts of isDream and l3Crosses: whether cells are a dream.
  slices.SortFunc at impl.Cell: the kit's shelf, laid at this program's numbers.
  Worlds that a sort passes through: draws, new blocks, one row's cells put anew.
-/
import Derived.Test.YtageojkepoejiaaBuP8
import Derived.Deep.RegionHeld3
import Derived.Test.YtageojkepoejiaaFacts
import Derived.Shelf.SlSortCmp.NoneTotal
import Derived.Test.YtageojkepoejiaaBase
namespace Go.Proofs.Ytageojkepoejiaa
open Go.RowKit

/-- the lists agree as far as so -/
def SameTo (xs ys : List (Int × Int)) (k : Nat) : Prop := ∀ j, j < k → xs[j]? = ys[j]?
theorem lessD_skip : ∀ {xs ys : List (Int × Int)} {k : Nat}, SameTo xs ys k → k ≤ xs.length → k ≤ ys.length → lessD xs ys = lessD (xs.drop k) (ys.drop k)
  | xs, ys, 0, _, _, _ => by rw [List.drop_zero, List.drop_zero]
  | [], _, k + 1, _, h, _ => by simp at h
  | _ :: _, [], k + 1, _, _, h => by simp at h
  | x :: xs, y :: ys, k + 1, h, h1, h2 => by
    have e : x = y := by have := h 0 (by omega); simpa using this
    have h' : SameTo xs ys k := fun j hj => by have := h (j + 1) (by omega); simpa using this
    rw [lessD, if_pos e, List.drop_succ_cons, List.drop_succ_cons]
    exact lessD_skip h' (by simpa using h1) (by simpa using h2)
theorem lessD_at {xs ys : List (Int × Int)} {k : Nat} {x y : Int × Int} (h : SameTo xs ys k) (hx : xs[k]? = some x) (hy : ys[k]? = some y) (hne : x ≠ y) : lessD xs ys = cellLess x y := by
  obtain ⟨h1, e1⟩ := List.getElem?_eq_some_iff.1 hx
  obtain ⟨h2, e2⟩ := List.getElem?_eq_some_iff.1 hy
  rw [lessD_skip h (by omega) (by omega), List.drop_eq_getElem_cons h1, List.drop_eq_getElem_cons h2, lessD, e1, e2, if_neg hne]
theorem lessD_end {xs ys : List (Int × Int)} {n m : Nat} (hn : xs.length = n) (hm : ys.length = m) (h : SameTo xs ys (min n m)) : lessD xs ys = decide (n < m) := by
  rw [lessD_skip h (by omega) (by omega)]
  rcases Nat.lt_or_ge n m with hl | hl
  · rw [Nat.min_eq_left (by omega), List.drop_of_length_le (by omega), List.drop_eq_getElem_cons (by omega), lessD]
    simp [hl]
  · rw [Nat.min_eq_right hl, List.drop_of_length_le (l := ys) (by omega)]
    rcases Nat.lt_or_ge m n with h2 | h2
    · rw [List.drop_eq_getElem_cons (by omega), lessD]
      simp
      omega
    · rw [List.drop_of_length_le (by omega), lessD]
      simp
      omega
theorem SameTo.succ {xs ys : List (Int × Int)} {k : Nat} {x : Int × Int} (h : SameTo xs ys k) (hx : xs[k]? = some x) (hy : ys[k]? = some x) : SameTo xs ys (k + 1) := fun j hj => by
  rcases Nat.lt_or_ge j k with h1 | h1
  · exact h j h1
  · obtain rfl : j = k := by omega
    rw [hx, hy]

set_option maxRecDepth 100000 in
set_option maxHeartbeats 1600000 in
theorem l3Before_any (a b : Option Addr) (n c m d : Nat) (xs ys : List (Int × Int)) (w : World) (hr : RC w a xs) (hs : RC w b ys) (hn : xs.length = n) (hm : ys.length = m) (hb : n ≤ 1048576) (hb2 : m ≤ 1048576) :
    Calls Try.prog 91 #[.slice a n c, .slice b m d] w fun e w' => e = .returned (.bool (lessD xs ys)) ∧ Below w.heap.size w w' := by
  have Hn := Lib.hid hn; clear hn
  have Hm := Lib.hid hm; clear hm
  go_enter Try.func91, Try.ntmps91
  go_wp2
  go_loopw [5] (fun iv wr => Hid (∃ k : Nat, k ≤ n ∧ k ≤ m ∧ iv = .int .i64 k ∧ SameTo xs ys k) ∧ Drew w wr) (fun iv _ => n - (intOf iv).toNat)
  case atStart => exact ⟨⟨0, Nat.zero_le _, Nat.zero_le _, rfl, fun j hj => by omega⟩, Drew.refl _⟩
  case round =>
    obtain ⟨HV, hd⟩ := hrel
    obtain ⟨wo, rfl⟩ : ∃ wo : World, wo = wr := ⟨_, rfl⟩
    obtain ⟨k, hkn, hkm, rfl, hsame⟩ := HV.out
    clear HV
    have Hsame := Lib.hid hsame
    clear hsame
    by_cases hlt : k < n
    · have q1 : (k : Int) < (n : Int) := by omega
      by_cases hlm : k < m
      · have q2 : (k : Int) < (m : Int) := by omega
        obtain ⟨b1, off, rfl, hcell⟩ := (hr.below (hd.below _)).at (k := k) (by rw [Hn.out]; exact hlt)
        obtain ⟨b2, off2, rfl, hcell2⟩ := (hs.below (hd.below _)).at (k := k) (by rw [Hm.out]; exact hlm)
        obtain ⟨u, v, hx⟩ := pair_at Hn.out hlt
        obtain ⟨p, q, hy⟩ := pair_at Hm.out hlm
        obtain ⟨hc1, hc2⟩ := hcell _ _ hx
        obtain ⟨hc3, hc4⟩ := hcell2 _ _ hy
        simp only at hc1 hc2 hc3 hc4
        have Hx := Lib.hid hx
        have Hy := Lib.hid hy
        clear hcell hcell2 hx hy
        by_cases he : (u, v) = (p, q)
        · have e1 : (u == p) = true := by simp only [Prod.mk.injEq] at he; simp [he.1]
          have e2 : (v == q) = true := by simp only [Prod.mk.injEq] at he; simp [he.2]
          have Hnx := Lib.hid (Hsame.out.succ Hx.out (by rw [Hy.out, he]))
          clear he
          go_wp2
          go_quiet (fail)
          go_wp2
          go_roundw
          case rel => exact ⟨⟨k + 1, by omega, by omega, by go_num, Hnx.out⟩, hd.trans (Drew.drewN wo nq)⟩
          case measure => simp [intOf]; omega
        · have Hr := Lib.hid (lessD_at Hsame.out Hx.out Hy.out he)
          by_cases h1 : u = p
          · have h2 : v ≠ q := fun e => he (by rw [h1, e])
            have e1 : (u == p) = true := by simp [h1]
            have e2 : (v == q) = false := by simp [h2]
            clear he h1 h2
            go_wp2
            go_quiet (fail)
            have S_of : ∀ w2, Below (wo.drewN nq).heap.size (wo.drewN nq) w2 → w2.cell? ⟨b1, off + k * 2, none⟩ = some (.int .i64 u) ∧ w2.cell? ⟨b1, off + k * 2 + 1, none⟩ = some (.int .i64 v) ∧ w2.cell? ⟨b2, off2 + k * 2, none⟩ = some (.int .i64 p) ∧ w2.cell? ⟨b2, off2 + k * 2 + 1, none⟩ = some (.int .i64 q) := fun w2 hb => by
              have hb0 := (Drew.below (Drew.drewN wo nq) wo.heap.size).trans hb
              refine ⟨?_, ?_, ?_, ?_⟩
              · rw [hb0.cell (World.block_lt_of_cell? _ _ hc1)]; exact hc1
              · rw [hb0.cell (World.block_lt_of_cell? _ _ hc2)]; exact hc2
              · rw [hb0.cell (World.block_lt_of_cell? _ _ hc3)]; exact hc3
              · rw [hb0.cell (World.block_lt_of_cell? _ _ hc4)]; exact hc4
            have hBq := (hd.trans (Drew.drewN wo nq)).below w.heap.size
            have d1 : Below (wo.drewN nq).heap.size (wo.drewN nq) (wo.drewN nq).drew := Drew.below ⟨1, rfl⟩ _
            go_wp2
            go_region_held3 (fun w' => w'.cell? ⟨b1, off + k * 2, none⟩ = some (.int .i64 u) ∧ w'.cell? ⟨b1, off + k * 2 + 1, none⟩ = some (.int .i64 v) ∧ w'.cell? ⟨b2, off2 + k * 2, none⟩ = some (.int .i64 p) ∧ w'.cell? ⟨b2, off2 + k * 2 + 1, none⟩ = some (.int .i64 q)) ((first | exact S_of _ d1 | exact S_of _ d2))
              ((first | (go_at_call 90; refine (l3Less_any u v p q _).mono ?_; rintro e w3 ⟨rfl, hb3⟩; have d2 := Below.trans d1 (hb3.mono (Below.size d1)))))
            have hB3 := hBq.trans (d2.mono hBq.size)
            clear S_of d1 d2 hb3
            go_wp2
            go_ret
            exact ⟨ret_bool Hr.out.symm, hB3⟩
          · have e1 : (u == p) = false := by simp [h1]
            clear he h1
            go_wp2
            go_quiet (fail)
            have S_of : ∀ w2, Below (wo.drewN nq).heap.size (wo.drewN nq) w2 → w2.cell? ⟨b1, off + k * 2, none⟩ = some (.int .i64 u) ∧ w2.cell? ⟨b1, off + k * 2 + 1, none⟩ = some (.int .i64 v) ∧ w2.cell? ⟨b2, off2 + k * 2, none⟩ = some (.int .i64 p) ∧ w2.cell? ⟨b2, off2 + k * 2 + 1, none⟩ = some (.int .i64 q) := fun w2 hb => by
              have hb0 := (Drew.below (Drew.drewN wo nq) wo.heap.size).trans hb
              refine ⟨?_, ?_, ?_, ?_⟩
              · rw [hb0.cell (World.block_lt_of_cell? _ _ hc1)]; exact hc1
              · rw [hb0.cell (World.block_lt_of_cell? _ _ hc2)]; exact hc2
              · rw [hb0.cell (World.block_lt_of_cell? _ _ hc3)]; exact hc3
              · rw [hb0.cell (World.block_lt_of_cell? _ _ hc4)]; exact hc4
            have hBq := (hd.trans (Drew.drewN wo nq)).below w.heap.size
            have d1 : Below (wo.drewN nq).heap.size (wo.drewN nq) (wo.drewN nq).drew := Drew.below ⟨1, rfl⟩ _
            go_wp2
            go_region_held3 (fun w' => w'.cell? ⟨b1, off + k * 2, none⟩ = some (.int .i64 u) ∧ w'.cell? ⟨b1, off + k * 2 + 1, none⟩ = some (.int .i64 v) ∧ w'.cell? ⟨b2, off2 + k * 2, none⟩ = some (.int .i64 p) ∧ w'.cell? ⟨b2, off2 + k * 2 + 1, none⟩ = some (.int .i64 q)) ((first | exact S_of _ d1 | exact S_of _ d2))
              ((first | (go_at_call 90; refine (l3Less_any u v p q _).mono ?_; rintro e w3 ⟨rfl, hb3⟩; have d2 := Below.trans d1 (hb3.mono (Below.size d1)))))
            have hB3 := hBq.trans (d2.mono hBq.size)
            clear S_of d1 d2 hb3
            go_wp2
            go_ret
            exact ⟨ret_bool Hr.out.symm, hB3⟩
      · have q2 : ¬ (k : Int) < (m : Int) := by omega
        obtain rfl : k = m := by omega
        have Hr := Lib.hid (show lessD xs ys = decide (n < k) from lessD_end Hn.out Hm.out (by rw [Nat.min_eq_right (by omega)]; exact Hsame.out))
        go_wp2
        go_ret
        exact ⟨ret_bool Hr.out.symm, hd.below _⟩
    · have q1 : ¬ (k : Int) < (n : Int) := by omega
      obtain rfl : k = n := by omega
      have Hr := Lib.hid (show lessD xs ys = decide (k < m) from lessD_end Hn.out Hm.out (by rw [Nat.min_eq_left (by omega)]; exact Hsame.out))
      go_wp2
      go_ret
      exact ⟨ret_bool Hr.out.symm, hd.below _⟩
end Go.Proofs.Ytageojkepoejiaa

namespace Go.Proofs.Ytageojkepoejiaa
open Go.RowKit

theorem stair_bad {n : Int} {r c : Int} (h : ¬ (0 ≤ r ∧ r ≤ n - 2) ∨ ¬ (0 ≤ c ∧ c ≤ n - 2 - r)) : inStair n (r, c) = false := by
  unfold inStair
  rw [Bool.and_eq_false_iff]
  rcases h with h | h
  · exact .inl (decide_eq_false h)
  · exact .inr (decide_eq_false h)
theorem stair_ok {n : Int} {r c : Int} (h : 0 ≤ r ∧ r ≤ n - 2) (k : 0 ≤ c ∧ c ≤ n - 2 - r) : inStair n (r, c) = true := by
  unfold inStair
  rw [Bool.and_eq_true]
  exact ⟨decide_eq_true h, decide_eq_true k⟩
theorem stair_in {n : Int} {p : Int × Int} (hn : 1 ≤ n ∧ n ≤ 6) (h : inStair n p = true) : Low p.1 ∧ Low p.2 := by
  unfold inStair at h
  simp only [Bool.and_eq_true, decide_eq_true_eq] at h
  unfold Low
  omega
theorem dreamAt_stair {n : Int} {xs : List (Int × Int)} {k : Nat} {p : Int × Int} (h : xs[k]? = some p) (h1 : dreamAt n xs k = true) : inStair n p = true := by
  unfold dreamAt at h1
  rw [cellOf_at h, Bool.and_eq_true] at h1
  exact h1.1

set_option maxRecDepth 100000 in
set_option maxHeartbeats 3200000 in
theorem implDream_any (N : Int) (a : Option Addr) (n c : Nat) (xs : List (Int × Int)) (w : World) (hl : -9223372036854775808 ≤ N) (hu : N ≤ 9223372036854775807) (hr : RC w a xs) (hn : xs.length = n) (hb : n ≤ 1048576) :
    Calls Try.prog 49 #[.int .i64 N, .slice a n c] w fun e w' => e = .returned (.bool (isDream N xs)) ∧ Below w.heap.size w w' := by
  have Hn := Lib.hid hn; clear hn
  by_cases hN : 1 ≤ N ∧ N ≤ 6
  rotate_left
  · have Hres := Lib.hid (isDream_size (xs := xs) hN)
    by_cases hlow : N < 1
    · clear hN
      go_enter Try.func49, Try.ntmps49
      go_wp2
      go_ret
      exact ⟨ret_bool Hres.out.symm, Below.refl _ _⟩
    · have hhigh : 6 < N := by omega
      clear hN
      go_enter Try.func49, Try.ntmps49
      go_wp2
      go_ret
      exact ⟨ret_bool Hres.out.symm, Below.refl _ _⟩
  have HN := Lib.hid hN
  obtain ⟨hN1, hN2⟩ := hN
  have hB1 := Below.refl w.heap.size w
  go_enter Try.func49, Try.ntmps49
  go_wp2
  go_loopw [15] (fun i wr => ∃ k : Nat, k ≤ n ∧ i = .int .i64 k ∧ Hid (∀ j, j < k → dreamAt N xs j = true) ∧ Below w.heap.size w wr) (fun i _ => n - (intOf i).toNat)
  case atStart => exact ⟨0, Nat.zero_le _, rfl, by intro j hj; omega, hB1⟩
  case round =>
    clear hB1
    obtain ⟨k, hk, rfl, HA, hd⟩ := hrel
    obtain ⟨wo, rfl⟩ : ∃ wo : World, wo = wr := ⟨_, rfl⟩
    have hbs := hd.size
    by_cases hlt : k < n
    · obtain ⟨b, off, rfl, hcell⟩ := (hr.below hd).at (k := k) (by rw [Hn.out]; exact hlt)
      obtain ⟨r, c0, hx⟩ := pair_at Hn.out hlt
      obtain ⟨hc1, hc2⟩ := hcell k _ hx
      simp only at hc1 hc2
      have hlast : k ≠ 0 → ∃ r' c', xs[k-1]? = some (r', c') ∧ wo.cell? ⟨b, off + (k-1) * 2, none⟩ = some (.int .i64 r') ∧ wo.cell? ⟨b, off + (k-1) * 2 + 1, none⟩ = some (.int .i64 c') ∧ Low r' ∧ Low c' := by
        intro h0
        obtain ⟨r', c', ht⟩ := pair_at (k := k - 1) Hn.out (by omega)
        obtain ⟨e1, e2⟩ := hcell (k - 1) _ ht
        have := stair_in HN.out (dreamAt_stair ht (HA.out (k - 1) (by omega)))
        exact ⟨r', c', ht, e1, e2, this.1, this.2⟩
      clear hcell
      have Hx := Lib.hid hx; clear hx
      have q1 : (k : Int) < (n : Int) := by omega
      obtain ⟨W, hW⟩ : ∃ W, wo.alloc (.cells #[.int .i64 r, .int .i64 c0] 60) = W := ⟨_, rfl⟩
      have hBW : Below wo.heap.size wo W := by rw [← hW]; exact (Below.refl _ _).alloc (Nat.le_refl _) _
      have hdW := hd.trans (hBW.mono hbs)
      have hbW := hdW.size
      have g0 : W.heap[wo.heap.size]? = some (.cells #[.int .i64 r, .int .i64 c0] 60) := by rw [← hW]; exact heap_alloc_new wo _
      have p0 : W.cell? ⟨wo.heap.size, 0, none⟩ = some (.int .i64 r) := by rw [cell_of_row W _ 0 _ _ (0, 0) g0]; rfl
      have p1 : W.cell? ⟨wo.heap.size, 1, none⟩ = some (.int .i64 c0) := by rw [cell_of_row W _ 1 _ _ (0, 0) g0]; rfl
      have k0 := fun d os => cell_regrown p0 d os
      have k1 := fun d os => cell_regrown p1 d os
      clear g0
      by_cases h1 : r < 0
      · clear hlast
        go_wp2
        refine wp_region_quiet_below (by kernel_rfl) (by kernel_rfl) ?_
        repeat (go_big_quiet_step (fail))
        refine wpQuiet_nil ?_
        intro _ hw'
        obtain ⟨⟨dq, osq⟩, hw''⟩ := hw'
        subst hw''
        have hB2 := hdW.trans ((below_regrown W dq osq).mono hbW)
        go_wp2
        go_ret
        exact ⟨ret_bool (isDream_false (k := k) (by rw [Hn.out]; exact hlt) (dreamAt_out Hx.out (stair_bad (.inl (by omega))))).symm, hB2⟩
      have n1 : decide (r < 0) = false := by simp; omega
      by_cases h2 : N - 2 < r
      · clear hlast
        go_wp2
        refine wp_region_quiet_below (by kernel_rfl) (by kernel_rfl) ?_
        repeat (go_big_quiet_step (fail))
        refine wpQuiet_nil ?_
        intro _ hw'
        obtain ⟨⟨dq, osq⟩, hw''⟩ := hw'
        subst hw''
        have hB2 := hdW.trans ((below_regrown W dq osq).mono hbW)
        go_wp2
        go_ret
        exact ⟨ret_bool (isDream_false (k := k) (by rw [Hn.out]; exact hlt) (dreamAt_out Hx.out (stair_bad (.inl (by omega))))).symm, hB2⟩
      have n2 : decide (N - 2 < r) = false := by simp; omega
      by_cases h3 : c0 < 0
      · clear hlast
        go_wp2
        refine wp_region_quiet_below (by kernel_rfl) (by kernel_rfl) ?_
        repeat (go_big_quiet_step (fail))
        refine wpQuiet_nil ?_
        intro _ hw'
        obtain ⟨⟨dq, osq⟩, hw''⟩ := hw'
        subst hw''
        have hB2 := hdW.trans ((below_regrown W dq osq).mono hbW)
        go_wp2
        go_ret
        exact ⟨ret_bool (isDream_false (k := k) (by rw [Hn.out]; exact hlt) (dreamAt_out Hx.out (stair_bad (.inr (by omega))))).symm, hB2⟩
      have n3 : decide (c0 < 0) = false := by simp; omega
      by_cases h4 : N - 2 - r < c0
      · clear hlast
        go_wp2
        refine wp_region_quiet_below (by kernel_rfl) (by kernel_rfl) ?_
        repeat (go_big_quiet_step (fail))
        refine wpQuiet_nil ?_
        intro _ hw'
        obtain ⟨⟨dq, osq⟩, hw''⟩ := hw'
        subst hw''
        have hB2 := hdW.trans ((below_regrown W dq osq).mono hbW)
        go_wp2
        go_ret
        exact ⟨ret_bool (isDream_false (k := k) (by rw [Hn.out]; exact hlt) (dreamAt_out Hx.out (stair_bad (.inr (by omega))))).symm, hB2⟩
      have n4 : decide (N - 2 - r < c0) = false := by simp; omega
      obtain ⟨hr0, hr1⟩ : 0 ≤ r ∧ r ≤ N - 2 := by simp at n1 n2; omega
      obtain ⟨hcol0, hcol1⟩ : 0 ≤ c0 ∧ c0 ≤ N - 2 - r := by simp at n3 n4; omega
      have HS := Lib.hid (stair_ok ⟨hr0, hr1⟩ ⟨hcol0, hcol1⟩)
      by_cases hk0 : k = 0
      · clear hlast
        subst hk0
        simp only [Nat.zero_mul, Nat.add_zero] at hc1 hc2
        have g0 : decide ((0 : Int) < 0) = false := by decide
        go_wp2
        refine wp_region_quiet_below (by kernel_rfl) (by kernel_rfl) ?_
        repeat (go_big_quiet_step (fail))
        refine wpQuiet_nil ?_
        intro _ hw'
        obtain ⟨⟨dq, osq⟩, hw''⟩ := hw'
        subst hw''
        have hB2 := hdW.trans ((below_regrown W dq osq).mono hbW)
        go_wp2
        go_roundw
        case rel => exact ⟨1, by omega, rfl, dream_next HA.out (dreamAt_first Hx.out HS.out), hB2⟩
        case measure => simp [intOf]; omega
      · obtain ⟨r2, c2, ht, hc3, hc4, hl1, hl2⟩ := hlast hk0
        clear hlast
        have Ht := Lib.hid ht; clear ht
        have hc3 : W.cell? ⟨b, off + (k-1) * 2, none⟩ = some (.int .i64 r2) := by rw [hBW.cell (World.block_lt_of_cell? wo _ hc3)]; exact hc3
        have hc4 : W.cell? ⟨b, off + (k-1) * 2 + 1, none⟩ = some (.int .i64 c2) := by rw [hBW.cell (World.block_lt_of_cell? wo _ hc4)]; exact hc4
        have k2 := fun d os => cell_regrown hc3 d os
        have k3 := fun d os => cell_regrown hc4 d os
        have g0 : 0 < k := by omega
        have g1 : (0 : Int) ≤ (k : Int) - 1 := by omega
        have g2 : (k : Int) - 1 < (n : Int) := by omega
        cases hL : cellLess (r2, c2) (r, c0)
        · have HL := Lib.hid hL
          obtain ⟨oo, hoo⟩ : ∃ o, cellCmp (r2, c2) (r, c0) = o := ⟨_, rfl⟩
          have ho2 : decide (0 ≤ oo) = !(cellLess (r2, c2) (r, c0)) := by rw [← cellCmp_less, hoo]; by_cases h : oo < 0 <;> simp [h] <;> omega
          rw [hL] at ho2
          simp only [Bool.not_false] at ho2
          have cl : ∀ (d : Nat) (os : Array Obj), Calls Try.prog 54 #[.agg #[.int .i64 r2, .int .i64 c2], .agg #[.int .i64 r, .int .i64 c0]] (Go.Sort.grow (redrawn W d) os) fun e w'' => e = .returned (.int .i64 oo) ∧ ∃ p : Regrown, w'' = Go.Sort.grow (redrawn W p.d) p.os := fun d os => Calls.regrown_of (by rw [← hoo]; exact byCells_any r2 c2 r c0 _ hl1 hl2 (by unfold Low; omega) (by unfold Low; omega))
          have CL := Lib.hid cl; clear cl hL hoo
          have g3 : IntKind.i64.wrap ((k : Int) - 1) = (k : Int) - 1 := IntWalk.i64_in _ (by omega)
          have g4 : ((k : Int) - 1).toNat = k - 1 := by omega
          go_wp2
          refine wp_region_quiet_below (by kernel_rfl) (by kernel_rfl) ?_
          repeat (go_big_quiet_step (first | (go_at_call 54; exact CL.out _ _)))
          refine wpQuiet_nil ?_
          intro _ hw'
          obtain ⟨⟨dq, osq⟩, hw''⟩ := hw'
          subst hw''
          have hB2 := hdW.trans ((below_regrown W dq osq).mono hbW)
          clear g3 g4
          go_wp2
          go_ret
          exact ⟨ret_bool (isDream_false (k := k) (by rw [Hn.out]; exact hlt) (dreamAt_rise Hx.out Ht.out hk0 HL.out)).symm, hB2⟩
        · have HL := Lib.hid hL
          obtain ⟨oo, hoo⟩ : ∃ o, cellCmp (r2, c2) (r, c0) = o := ⟨_, rfl⟩
          have ho2 : decide (0 ≤ oo) = !(cellLess (r2, c2) (r, c0)) := by rw [← cellCmp_less, hoo]; by_cases h : oo < 0 <;> simp [h] <;> omega
          rw [hL] at ho2
          simp only [Bool.not_true] at ho2
          have cl : ∀ (d : Nat) (os : Array Obj), Calls Try.prog 54 #[.agg #[.int .i64 r2, .int .i64 c2], .agg #[.int .i64 r, .int .i64 c0]] (Go.Sort.grow (redrawn W d) os) fun e w'' => e = .returned (.int .i64 oo) ∧ ∃ p : Regrown, w'' = Go.Sort.grow (redrawn W p.d) p.os := fun d os => Calls.regrown_of (by rw [← hoo]; exact byCells_any r2 c2 r c0 _ hl1 hl2 (by unfold Low; omega) (by unfold Low; omega))
          have CL := Lib.hid cl; clear cl hL hoo
          have g3 : IntKind.i64.wrap ((k : Int) - 1) = (k : Int) - 1 := IntWalk.i64_in _ (by omega)
          have g4 : ((k : Int) - 1).toNat = k - 1 := by omega
          go_wp2
          refine wp_region_quiet_below (by kernel_rfl) (by kernel_rfl) ?_
          repeat (go_big_quiet_step (first | (go_at_call 54; exact CL.out _ _)))
          refine wpQuiet_nil ?_
          intro _ hw'
          obtain ⟨⟨dq, osq⟩, hw''⟩ := hw'
          subst hw''
          have hB2 := hdW.trans ((below_regrown W dq osq).mono hbW)
          clear g3 g4
          go_wp2
          go_roundw
          case rel => exact ⟨k + 1, by omega, by go_num, dream_next HA.out (dreamAt_next Hx.out Ht.out HS.out HL.out), hB2⟩
          case measure => simp [intOf]; omega
    · obtain rfl : k = n := by omega
      go_wp2
      go_ret
      exact ⟨ret_bool (isDream_true HN.out (by rw [Hn.out]; exact HA.out)).symm, hd⟩
end Go.Proofs.Ytageojkepoejiaa

namespace Go.Proofs.Ytageojkepoejiaa
open Go.RowKit Go.Shelf

def renSortC : Ren := ⟨fun k => if k = 6 then 53 else if k = 14 then 93 else if k = 15 then 88 else if k = 20 then 118 else if k = 21 then 119 else if k = 22 then 120 else if k = 23 then 121 else if k = 24 then 122 else if k = 25 then 123 else if k = 26 then 124 else if k = 27 then 125 else if k = 28 then 115 else if k = 29 then 116 else if k = 46 then 140 else if k = 47 then 136 else if k = 48 then 137 else if k = 49 then 141 else if k = 50 then 142 else if k = 57 then 158 else 0, fun k => if k = 22 then 36 else if k = 24 then 60 else if k = 25 then 68 else if k = 39 then 87 else if k = 45 then 100 else if k = 46 then 101 else if k = 50 then 105 else if k = 53 then 108 else if k = 55 then 110 else if k = 66 then 125 else if k = 70 then 129 else if k = 76 then 142 else if k = 77 then 143 else k, fun k => k⟩
theorem laysSortC : SlLaysF0.n6 Try.prog renSortC where
  mixed := by kernel_rfl
  f6 := ⟨Try.f53.name, by kernel_rfl, by kernel_rfl⟩
  f14 := ⟨Try.f93.name, by kernel_rfl, by kernel_rfl⟩
  f15 := by kernel_rfl
  f20 := ⟨Try.f118.name, by kernel_rfl, by kernel_rfl⟩
  f21 := ⟨Try.f119.name, by kernel_rfl, by kernel_rfl⟩
  f22 := ⟨Try.f120.name, by kernel_rfl, by kernel_rfl⟩
  f23 := ⟨Try.f121.name, by kernel_rfl, by kernel_rfl⟩
  f24 := ⟨Try.f122.name, by kernel_rfl, by kernel_rfl⟩
  f25 := ⟨Try.f123.name, by kernel_rfl, by kernel_rfl⟩
  f26 := ⟨Try.f124.name, by kernel_rfl, by kernel_rfl⟩
  f27 := ⟨Try.f125.name, by kernel_rfl, by kernel_rfl⟩
  f28 := by kernel_rfl
  f29 := by kernel_rfl
  f46 := ⟨Try.f140.name, by kernel_rfl, by kernel_rfl⟩
  f47 := by kernel_rfl
  f48 := by kernel_rfl
  f49 := ⟨Try.f141.name, by kernel_rfl, by kernel_rfl⟩
  f50 := ⟨Try.f142.name, by kernel_rfl, by kernel_rfl⟩
  f57 := ⟨Try.f158.name, by kernel_rfl, by kernel_rfl⟩
  t0 := by kernel_rfl
  a0 := fun w => by kernel_rfl
  z0 := fun w => by kernel_rfl
  v0 := fun w => by kernel_rfl
  t3 := by kernel_rfl
  a3 := fun w => by kernel_rfl
  z3 := fun w => by kernel_rfl
  v3 := fun w => by kernel_rfl
  t4 := by kernel_rfl
  a4 := fun w => by kernel_rfl
  z4 := fun w => by kernel_rfl
  v4 := fun w => by kernel_rfl
  t5 := by kernel_rfl
  a5 := fun w => by kernel_rfl
  z5 := fun w => by kernel_rfl
  v5 := fun w => by kernel_rfl
  t9 := by kernel_rfl
  a9 := fun w => by kernel_rfl
  z9 := fun w => by kernel_rfl
  v9 := fun w => by kernel_rfl
  t22 := by kernel_rfl
  a22 := fun w => by kernel_rfl
  z22 := fun w => by kernel_rfl
  v22 := fun w => by kernel_rfl
  t25 := by kernel_rfl
  a25 := fun w => by kernel_rfl
  z25 := fun w => by kernel_rfl
  v25 := fun w => by kernel_rfl
  t39 := by kernel_rfl
  a39 := fun w => by kernel_rfl
  z39 := fun w => by kernel_rfl
  v39 := fun w => by kernel_rfl
  t45 := by kernel_rfl
  a45 := fun w => by kernel_rfl
  z45 := fun w => by kernel_rfl
  v45 := fun w => by kernel_rfl
  t46 := by kernel_rfl
  a46 := fun w => by kernel_rfl
  z46 := fun w => by kernel_rfl
  v46 := fun w => by kernel_rfl
  t50 := by kernel_rfl
  a50 := fun w => by kernel_rfl
  z50 := fun w => by kernel_rfl
  v50 := fun w => by kernel_rfl
  t53 := by kernel_rfl
  a53 := fun w => by kernel_rfl
  z53 := fun w => by kernel_rfl
  v53 := fun w => by kernel_rfl
  t55 := by kernel_rfl
  a55 := fun w => by kernel_rfl
  z55 := fun w => by kernel_rfl
  v55 := fun w => by kernel_rfl
  t66 := by kernel_rfl
  a66 := fun w => by kernel_rfl
  z66 := fun w => by kernel_rfl
  v66 := fun w => by kernel_rfl
  t70 := by kernel_rfl
  a70 := fun w => by kernel_rfl
  z70 := fun w => by kernel_rfl
  v70 := fun w => by kernel_rfl
  t76 := by kernel_rfl
  a76 := fun w => by kernel_rfl
  z76 := fun w => by kernel_rfl
  v76 := fun w => by kernel_rfl
  t77 := by kernel_rfl
  a77 := fun w => by kernel_rfl
  z77 := fun w => by kernel_rfl
  v77 := fun w => by kernel_rfl
end Go.Proofs.Ytageojkepoejiaa

namespace Go.Proofs.Ytageojkepoejiaa
open Go.RowKit Go.Shelf Go.Sort

/-- nothing but draws and new blocks -/
def Laid (w w' : World) : Prop := ∃ q os, w' = grow (w.drewN q) os
theorem Laid.refl (w : World) : Laid w w := ⟨0, #[], by rw [grow_empty]; rfl⟩
theorem Laid.alloc {w w' : World} (h : Laid w w') (o : Obj) : Laid w (w'.alloc o) := by
  obtain ⟨q, os, rfl⟩ := h
  exact ⟨q, os ++ #[o], by rw [alloc_eq_grow, grow_grow]⟩
theorem Laid.drew {w w' : World} (h : Laid w w') (n : Nat) : Laid w (w'.drewN n) := by
  obtain ⟨q, os, rfl⟩ := h
  exact ⟨q + n, os, by show grow ((w.drewN q).drewN n) os = _; rw [World.drewN_drewN]⟩
theorem Laid.trans {a b c : World} (h : Laid a b) (k : Laid b c) : Laid a c := by
  obtain ⟨q, os, rfl⟩ := k
  obtain ⟨p, os', e⟩ := h.drew q
  exact ⟨p, os' ++ os, by rw [e, grow_grow]⟩

theorem heap_sortedV {w : World} {g n : Nat} {os : Array Obj} {cur : Array Value} {e : TypeId} {fr : Nat × Nat} (d : Array Value) (hb : w.heap[g]? = some (.cells cur e fr)) :
    (grow (putRow id (Go.Sort.ahead w n) g 0 d) os).heap[g]? = some (.cells (putCells id 0 d cur) e fr) := by
  have hg : g < w.heap.size := (Array.getElem?_eq_some_iff.1 hb).1
  rw [heap_grow_old _ _ (by simpa using hg)]
  simp [putRow, mapBlock, Go.Sort.ahead, Array.getElem?_modify, hb, onCells]
theorem grownBy_sortedV {w : World} {g n : Nat} {os : Array Obj} (d : Array Value) : w.grownBy (grow (putRow id (Go.Sort.ahead w n) g 0 d) os) (some g) := by
  refine ⟨rfl, rfl, rfl, by simp, fun k hk hne => ?_⟩
  rw [heap_grow_old _ _ (by simpa using hk)]
  have : g ≠ k := fun e => hne (by rw [e])
  simp [putRow, mapBlock, Go.Sort.ahead, Array.getElem?_modify, this]
theorem take_putCellsV (cur : Array Value) (ts : List Value) (h : ts.length ≤ cur.size) : (putCells id 0 ts.toArray cur).toList.take ts.length = ts := by
  apply List.ext_getElem?
  intro j
  by_cases hj : j < ts.length
  · rw [List.getElem?_take_of_lt hj, Array.getElem?_toList]
    simp [putCells, hj, show j < cur.size by omega]
  · rw [List.getElem?_take_eq_none (by omega), List.getElem?_eq_none (by omega)]

theorem Drew.laid {w w' : World} (h : Drew w w') : Laid w w' := by
  obtain ⟨m, rfl⟩ := h
  exact (Laid.refl w).drew m
end Go.Proofs.Ytageojkepoejiaa
