/-
  Contracts of slices.Equal at cells, and of slices.CompactFunc where no two neighbours are alike.
  Contracts of slices.Index, slices.Contains at cells.
  x
-/
import Derived.Test.YtageojkepoejiaaBuP14
import Derived.Test.YtageojkepoejiaaBuP9
import Derived.Test.YtageojkepoejiaaBuP10
namespace Go.Proofs.Ytageojkepoejiaa
open Go.RowKit

theorem ne_pair {u v p q : Int} (h : (u, v) ≠ (p, q)) : (u != p) = true ∨ (u != p) = false ∧ (v != q) = true := by
  by_cases h1 : u = p
  · right
    refine ⟨by simp [h1], ?_⟩
    simp only [bne_iff_ne]
    exact fun e => h (by rw [h1, e])
  · left
    simpa using h1
set_option maxRecDepth 100000 in
set_option maxHeartbeats 1600000 in
theorem equalC_any (a b : Option Addr) (n c m d : Nat) (xs ys : List (Int × Int)) (w : World) (hr : RC w a xs) (hs : RC w b ys) (hn : xs.length = n) (hm : ys.length = m) (hb : n ≤ 1048576) :
    Calls Try.prog 67 #[.slice a n c, .slice b m d] w fun e w' => e = .returned (.bool (decide (xs = ys))) ∧ Drew w w' := by
  have Hn := Lib.hid hn; clear hn
  have Hm := Lib.hid hm; clear hm
  by_cases hnm : n = m
  · subst hnm
    go_enter Try.func67, Try.ntmps67
    go_wp2
    go_loopw [13] (fun iv wr => Hid (∃ k : Nat, k ≤ n ∧ iv = .int .i64 k ∧ ∀ j, j < k → xs[j]? = ys[j]?) ∧ Drew w wr) (fun iv _ => n - (intOf iv).toNat)
    case atStart => exact ⟨⟨0, Nat.zero_le _, rfl, fun j hj => by omega⟩, Drew.refl _⟩
    case round =>
      obtain ⟨HV, hd⟩ := hrel
      obtain ⟨wo, rfl⟩ : ∃ wo : World, wo = wr := ⟨_, rfl⟩
      obtain ⟨k, hk, rfl, hA⟩ := HV.out
      clear HV
      have HA := Lib.hid hA
      clear hA
      by_cases hlt : k < n
      · have q1 : (k : Int) < (n : Int) := by omega
        obtain ⟨b1, off, rfl, hcell⟩ := (hr.below (hd.below _)).at (k := k) (by rw [Hn.out]; exact hlt)
        obtain ⟨b2, off2, rfl, hcell2⟩ := (hs.below (hd.below _)).at (k := k) (by rw [Hm.out]; exact hlt)
        obtain ⟨u, v, hx⟩ := pair_at Hn.out hlt
        obtain ⟨p, q, hy⟩ := pair_at Hm.out hlt
        obtain ⟨hc1, hc2⟩ := hcell _ _ hx
        obtain ⟨hc3, hc4⟩ := hcell2 _ _ hy
        simp only at hc1 hc2 hc3 hc4
        have Hx := Lib.hid hx
        have Hy := Lib.hid hy
        clear hcell hcell2 hx hy
        by_cases he : (u, v) = (p, q)
        · have e1 : (u == p) = true := by simp only [Prod.mk.injEq] at he; simp [he.1]
          have e2 : (v == q) = true := by simp only [Prod.mk.injEq] at he; simp [he.2]
          have HA2 := Lib.hid (show ∀ j, j < k + 1 → xs[j]? = ys[j]? from fun j hj => by
            rcases Nat.lt_or_ge j k with h | h
            · exact HA.out j h
            · obtain rfl : j = k := by omega
              rw [Hx.out, Hy.out, he])
          clear he
          go_wp2
          go_quiet (fail)
          go_wp2
          go_roundw
          case rel => exact ⟨⟨k + 1, by omega, by go_num, HA2.out⟩, hd.trans (Drew.drewN wo nq)⟩
          case measure => simp [intOf]; omega
        · have Hne := Lib.hid (nep_of_at Hx.out Hy.out he)
          by_cases h1 : u = p
          · have h2 : v ≠ q := fun e => he (by rw [h1, e])
            have e1 : (u == p) = true := by simp [h1]
            have e2 : (v == q) = false := by simp [h2]
            clear he h1 h2
            go_wp2
            go_quiet (fail)
            go_wp2
            go_ret
            exact ⟨ret_bool Hne.out.symm, hd.trans (Drew.drewN wo nq)⟩
          · have e1 : (u == p) = false := by simp [h1]
            clear he h1
            go_wp2
            go_quiet (fail)
            go_wp2
            go_ret
            exact ⟨ret_bool Hne.out.symm, hd.trans (Drew.drewN wo nq)⟩
      · obtain rfl : k = n := by omega
        have Heq := Lib.hid (eqp_of_all (Hn.out.trans Hm.out.symm) (fun j hj => HA.out j (by rw [Hn.out] at hj; exact hj)))
        go_wp2
        go_ret
        exact ⟨ret_bool Heq.out.symm, hd⟩
  · have hne : ((n : Int) != (m : Int)) = true := by simp; omega
    have Hq := Lib.hid (show decide (xs = ys) = false by rw [decide_eq_false_iff_not]; rintro rfl; exact hnm (by rw [← Hn.out, ← Hm.out]))
    go_enter Try.func67, Try.ntmps67
    go_wp2
    go_ret
    exact ⟨ret_bool Hq.out.symm, Drew.refl _⟩

set_option maxRecDepth 100000 in
set_option maxHeartbeats 1600000 in
/-- where no two neighbours are alike nothing is dropped -/
theorem compactC_none (a : Option Addr) (n c : Nat) (xss : List (List (Int × Int))) (w : World) (hr : RCC w a xss) (hn : xss.length = n) (hb : n ≤ 1048576) (hsh : ShortCC xss) (hne : ∀ (k : Nat) (x y : List (Int × Int)), xss[k]? = some x → xss[k + 1]? = some y → y ≠ x) :
    Calls Try.prog 96 #[.slice a n c, .func (.func 67) #[] #[]] w fun e w' => e = .returned (.slice a n c) ∧ Drew w w' := by
  have Hn := Lib.hid hn; clear hn
  have Hsh := Lib.hid hsh; clear hsh
  have Hne := Lib.hid hne; clear hne
  go_enter Try.func96, Try.ntmps96
  by_cases h2 : n < 2
  · have q0 : (n : Int) < 2 := by omega
    go_wp2
    go_ret
    exact ⟨rfl, Drew.refl _⟩
  have q0 : ¬ (n : Int) < 2 := by omega
  go_wp2
  go_loopw [5] (fun iv wr => Hid (∃ k : Nat, 1 ≤ k ∧ k ≤ n ∧ iv = .int .i64 k) ∧ Drew w wr) (fun iv _ => n - (intOf iv).toNat)
  case atStart => exact ⟨⟨1, Nat.le_refl _, by omega, rfl⟩, Drew.refl _⟩
  case round =>
    obtain ⟨HV, hd⟩ := hrel
    obtain ⟨wo, rfl⟩ : ∃ wo : World, wo = wr := ⟨_, rfl⟩
    obtain ⟨k, hk1, hk, rfl⟩ := HV.out
    clear HV
    by_cases hlt : k < n
    · obtain ⟨j, hj⟩ : ∃ j, k = j + 1 := ⟨k - 1, by omega⟩
      obtain ⟨x, hx⟩ := some_of (show j < xss.length by rw [Hn.out]; omega)
      obtain ⟨y, hy⟩ := some_of (show k < xss.length by rw [Hn.out]; exact hlt)
      obtain ⟨b, off, rfl, hcell⟩ := (hr.below (hd.below _)).at (k := j) (by rw [Hn.out]; omega)
      obtain ⟨a1, c1, hc1, hr1⟩ := hcell j x hx
      obtain ⟨a2, c2, hc2, hr2⟩ := hcell k y hy
      have hxl := Hsh.out x (List.mem_of_getElem? hx)
      have hyl := Hsh.out y (List.mem_of_getElem? hy)
      have Hyx := Lib.hid (show decide (y = x) = false by simpa using Hne.out j x y hx (by rw [← hj]; exact hy))
      obtain ⟨lx, hlx⟩ : ∃ l, x.length = l := ⟨_, rfl⟩
      obtain ⟨ly, hly⟩ : ∃ l, y.length = l := ⟨_, rfl⟩
      rw [hlx] at hc1 hxl
      rw [hly] at hc2 hyl
      have Hlx := Lib.hid hlx
      have Hly := Lib.hid hly
      have q1 : (k : Int) < (n : Int) := by omega
      have q2 : (j : Int) < (n : Int) := by omega
      have q3 : wrap64 ((k : Int) - 1) = (j : Int) := by unfold wrap64; omega
      have q4 : IntKind.i64.wrap ((k : Int) - 1) = (j : Int) := by rw [IntWalk.i64_in _ (by omega)]; omega
      clear hcell hx hy hlx hly hj
      go_wp2
      go_quiet ((go_at_call 67; exact quiet (is (equalC_any _ _ _ _ _ _ y x _ (hr2.below ((Drew.drewN _ _).below _)) (hr1.below ((Drew.drewN _ _).below _)) Hly.out Hlx.out (by omega)) Hyx.out)))
      go_wp2
      go_roundw
      case rel => exact ⟨⟨k + 1, by omega, by omega, by go_num⟩, hd.trans (Drew.drewN _ _)⟩
      case measure => simp [intOf]; omega
    · obtain rfl : k = n := by omega
      go_wp2
      go_ret
      exact ⟨rfl, hd⟩
end Go.Proofs.Ytageojkepoejiaa

namespace Go.Proofs.Ytageojkepoejiaa
open Go.RowKit

set_option maxRecDepth 100000 in
set_option maxHeartbeats 1600000 in
theorem indexC_any (a : Option Addr) (n c : Nat) (xs : List (Int × Int)) (p q : Int) (w : World) (hr : RC w a xs) (hn : xs.length = n) (hb : n ≤ 1048576) :
    Calls Try.prog 92 #[.slice a n c, .agg #[.int .i64 p, .int .i64 q]] w fun e w' => ∃ r : Int, e = .returned (.int .i64 r) ∧ Hid (decide (0 ≤ r) = hasC xs p q) ∧ Below w.heap.size w w' := by
  have Hn := Lib.hid hn; clear hn
  have hB0 : Below w.heap.size w (w.alloc (.cells #[.int .i64 p, .int .i64 q] 60)) := (Below.refl _ _).alloc (Nat.le_refl _) _
  have g0 : (w.alloc (.cells #[.int .i64 p, .int .i64 q] 60)).heap[w.heap.size]? = some (.cells #[.int .i64 p, .int .i64 q] 60) := heap_alloc_new w _
  have y0 : (w.alloc (.cells #[.int .i64 p, .int .i64 q] 60)).cell? ⟨w.heap.size, 0, none⟩ = some (.int .i64 p) := by rw [cell_of_row _ _ 0 _ _ (0, 0) g0]; rfl
  have y1 : (w.alloc (.cells #[.int .i64 p, .int .i64 q] 60)).cell? ⟨w.heap.size, 1, none⟩ = some (.int .i64 q) := by rw [cell_of_row _ _ 1 _ _ (0, 0) g0]; rfl
  clear g0
  go_enter Try.func92, Try.ntmps92
  go_wp2
  go_loopw [8] (fun iv wr => Hid (∃ k : Nat, k ≤ n ∧ iv = .int .i64 k ∧ ∀ j, j < k → xs[j]? ≠ some (p, q)) ∧ Drew (w.alloc (.cells #[.int .i64 p, .int .i64 q] 60)) wr) (fun iv _ => n - (intOf iv).toNat)
  case atStart => exact ⟨⟨0, Nat.zero_le _, rfl, fun j hj => by omega⟩, Drew.refl _⟩
  case round =>
    obtain ⟨HV, hd⟩ := hrel
    obtain ⟨wo, rfl⟩ : ∃ wo : World, wo = wr := ⟨_, rfl⟩
    obtain ⟨k, hk, rfl, hno⟩ := HV.out
    clear HV
    have hB := hB0.trans (hd.below w.heap.size)
    have z0 : wo.cell? ⟨w.heap.size, 0, none⟩ = some (.int .i64 p) := by rw [hd.cell]; exact y0
    have z1 : wo.cell? ⟨w.heap.size, 1, none⟩ = some (.int .i64 q) := by rw [hd.cell]; exact y1
    by_cases hlt : k < n
    · obtain ⟨b, off, rfl, hcell⟩ := (hr.below hB).at (k := k) (by rw [Hn.out]; exact hlt)
      obtain ⟨u, v, hx⟩ := pair_at Hn.out hlt
      obtain ⟨hc1, hc2⟩ := hcell _ _ hx
      simp only at hc1 hc2
      have q1 : (k : Int) < (n : Int) := by omega
      have Hx := Lib.hid hx
      have Hno := Lib.hid hno
      clear hcell hx hno y0 y1
      by_cases he : (u, v) = (p, q)
      · have hm : xs.contains (p, q) = true := List.contains_iff_mem.2 (List.mem_of_getElem? (by rw [Hx.out, he]))
        have Hm := Lib.hid hm
        have e1 : (p == u) = true := by simp only [Prod.mk.injEq] at he; simp [he.1]
        have e2 : (q == v) = true := by simp only [Prod.mk.injEq] at he; simp [he.2]
        clear he hm
        go_wp2
        go_quiet (fail)
        go_wp2
        go_ret
        exact ⟨_, rfl, (show decide ((0 : Int) ≤ (k : Int)) = xs.contains (p, q) by rw [Hm.out]; simp), hB.trans (Drew.below (Drew.drewN wo nq) _)⟩
      · have hno2 := Lib.hid (show ∀ j, j < k + 1 → xs[j]? ≠ some (p, q) from fun j hj => by
          rcases Nat.lt_or_ge j k with h | h
          · exact Hno.out j h
          · obtain rfl : j = k := by omega
            rw [Hx.out]
            exact fun e => he (Option.some.inj e))
        have hd2 := hd.trans (Drew.drewN wo 1)
        by_cases h1 : u = p
        · have h2 : v ≠ q := fun e => he (by rw [h1, e])
          have e1 : (p == u) = true := by simp [h1]
          have e2 : (q == v) = false := by simp only [beq_eq_false_iff_ne]; exact fun e => h2 e.symm
          clear he h1 h2 hd2
          go_wp2
          go_quiet (fail)
          go_wp2
          go_roundw
          case rel => exact ⟨⟨k + 1, by omega, by go_num, hno2.out⟩, hd.trans (Drew.drewN wo nq)⟩
          case measure => simp [intOf]; omega
        · have e1 : (p == u) = false := by simp only [beq_eq_false_iff_ne]; exact fun e => h1 e.symm
          clear he h1 hd2
          go_wp2
          go_quiet (fail)
          go_wp2
          go_roundw
          case rel => exact ⟨⟨k + 1, by omega, by go_num, hno2.out⟩, hd.trans (Drew.drewN wo nq)⟩
          case measure => simp [intOf]; omega
    · obtain rfl : k = n := by omega
      have Hm := Lib.hid (contains_no Hn.out hno)
      go_wp2
      go_ret
      exact ⟨_, rfl, (show decide ((0 : Int) ≤ -1) = xs.contains (p, q) by rw [Hm.out]; simp), hB⟩
set_option maxRecDepth 100000 in
set_option maxHeartbeats 1600000 in
theorem containsC_any (a : Option Addr) (n c : Nat) (xs : List (Int × Int)) (p q : Int) (w : World) (hr : RC w a xs) (hn : xs.length = n) (hb : n ≤ 1048576) :
    Calls Try.prog 51 #[.slice a n c, .agg #[.int .i64 p, .int .i64 q]] w fun e w' => e = .returned (.bool (hasC xs p q)) ∧ Below w.heap.size w w' := by
  have Hn := Lib.hid hn; clear hn
  have hB0 : Below w.heap.size w (w.alloc (.cells #[.int .i64 p, .int .i64 q] 60)) := (Below.refl _ _).alloc (Nat.le_refl _) _
  have hr0 := hr.below hB0
  go_enter Try.func51, Try.ntmps51
  go_wp2_with fail
  refine (indexC_any _ _ _ xs p q _ hr0 Hn.out hb).mono ?_
  rintro e w1 ⟨r, rfl, hr1, hb1⟩
  have hB1 := hB0.trans (hb1.mono hB0.size)
  have Hr := Lib.hid hr1.out
  clear hr1
  go_wp2
  go_ret
  exact ⟨ret_bool (by rw [← Hr.out]), hB1⟩
end Go.Proofs.Ytageojkepoejiaa

namespace Go.Proofs.Ytageojkepoejiaa
open Go.RowKit

set_option maxRecDepth 100000 in
set_option maxHeartbeats 1600000 in
theorem ladIs_any (G : Nat) (a : Option Addr) (n c : Nat) (xs : List (Int × Int)) (p q : Int) (w : World) (hG : w.cell? ⟨G, 0, none⟩ = some (.slice a n c)) (hr : RC w a xs) (hn : xs.length = n) (hb : n ≤ 1048576) :
    Calls Try.prog 50 #[.int .i64 p, .int .i64 q, .pointer (some ⟨G, 0, none⟩)] w fun e w' => e = .returned (.bool (hasC xs p q)) ∧ Below w.heap.size w w' := by
  have Hn := Lib.hid hn; clear hn
  go_enter Try.func50, Try.ntmps50
  go_wp2_with fail
  refine (containsC_any _ _ _ xs p q _ hr Hn.out hb).mono ?_
  rintro e w1 ⟨rfl, hb1⟩
  go_wp2
  go_ret
  exact ⟨rfl, hb1⟩
end Go.Proofs.Ytageojkepoejiaa
