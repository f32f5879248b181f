/-
  Contract of l1HasCell.
  Contracts of slices.Equal at cells, and of slices.CompactFunc where no two neighbours are alike.
  The closures of PipeDreams: whether a dream is in a list.
  Plain: ordered lists of dreams; one put in.
-/
import Derived.Test.YtomejjbkakpoiaaGreatBuY6
import Derived.Test.YtomejjbkakpoiaaGreatBuY4
namespace Go.Proofs.YtomejjbkakpoiaaGreat
open Go.RowKit

/-- whether the list has the cell -/
def hasC (xs : List (Int × Int)) (p q : Int) : Bool := xs.contains (p, q)
theorem contains_no {xs : List (Int × Int)} {x : Int × Int} {n : Nat} (hn : xs.length = n) (h : ∀ j, j < n → xs[j]? ≠ some x) : xs.contains x = false := by
  rw [Bool.eq_false_iff]
  intro hc
  obtain ⟨j, hj⟩ := List.getElem?_of_mem (List.contains_iff_mem.1 hc)
  exact h j (by have := (List.getElem?_eq_some_iff.1 hj).1; omega) hj
end Go.Proofs.YtomejjbkakpoiaaGreat

namespace Go.Proofs.YtomejjbkakpoiaaGreat
open Go.RowKit

theorem ne_pair {u v p q : Int} (h : (u, v) ≠ (p, q)) : (u != p) = true ∨ (u != p) = false ∧ (v != q) = true := by
  by_cases h1 : u = p
  · right
    refine ⟨by simp [h1], ?_⟩
    simp only [bne_iff_ne]
    exact fun e => h (by rw [h1, e])
  · left
    simpa using h1
set_option maxRecDepth 100000 in
set_option maxHeartbeats 1600000 in
theorem equalC_any (a b : Option Addr) (n c m d : Nat) (xs ys : List (Int × Int)) (w : World) (hr : RC w a xs) (hs : RC w b ys) (hn : xs.length = n) (hm : ys.length = m) (hb : n ≤ 1048576) :
    Calls Tryz.prog 37 #[.slice a n c, .slice b m d] w fun e w' => e = .returned (.bool (decide (xs = ys))) ∧ Drew w w' := by
  have Hn := Lib.hid hn; clear hn
  have Hm := Lib.hid hm; clear hm
  by_cases hnm : n = m
  · subst hnm
    go_enter Tryz.func37, Tryz.ntmps37
    go_wp2
    go_loopw [13] (fun iv wr => Hid (∃ k : Nat, k ≤ n ∧ iv = .int .i64 k ∧ ∀ j, j < k → xs[j]? = ys[j]?) ∧ Drew w wr) (fun iv _ => n - (intOf iv).toNat)
    case atStart => exact ⟨⟨0, Nat.zero_le _, rfl, fun j hj => by omega⟩, Drew.refl _⟩
    case round =>
      obtain ⟨HV, hd⟩ := hrel
      obtain ⟨wo, rfl⟩ : ∃ wo : World, wo = wr := ⟨_, rfl⟩
      obtain ⟨k, hk, rfl, hA⟩ := HV.out
      clear HV
      have HA := Lib.hid hA
      clear hA
      by_cases hlt : k < n
      · have q1 : (k : Int) < (n : Int) := by omega
        obtain ⟨b1, off, rfl, hcell⟩ := (hr.below (hd.below _)).at (k := k) (by rw [Hn.out]; exact hlt)
        obtain ⟨b2, off2, rfl, hcell2⟩ := (hs.below (hd.below _)).at (k := k) (by rw [Hm.out]; exact hlt)
        obtain ⟨u, v, hx⟩ := pair_at Hn.out hlt
        obtain ⟨p, q, hy⟩ := pair_at Hm.out hlt
        obtain ⟨hc1, hc2⟩ := hcell _ _ hx
        obtain ⟨hc3, hc4⟩ := hcell2 _ _ hy
        simp only at hc1 hc2 hc3 hc4
        have Hx := Lib.hid hx
        have Hy := Lib.hid hy
        clear hcell hcell2 hx hy
        by_cases he : (u, v) = (p, q)
        · have e1 : (u == p) = true := by simp only [Prod.mk.injEq] at he; simp [he.1]
          have e2 : (v == q) = true := by simp only [Prod.mk.injEq] at he; simp [he.2]
          have HA2 := Lib.hid (show ∀ j, j < k + 1 → xs[j]? = ys[j]? from fun j hj => by
            rcases Nat.lt_or_ge j k with h | h
            · exact HA.out j h
            · obtain rfl : j = k := by omega
              rw [Hx.out, Hy.out, he])
          clear he
          go_wp2
          go_quiet (fail)
          go_wp2
          go_roundw
          case rel => exact ⟨⟨k + 1, by omega, by go_num, HA2.out⟩, hd.trans (Drew.drewN wo nq)⟩
          case measure => simp [intOf]; omega
        · have Hne := Lib.hid (nep_of_at Hx.out Hy.out he)
          by_cases h1 : u = p
          · have h2 : v ≠ q := fun e => he (by rw [h1, e])
            have e1 : (u == p) = true := by simp [h1]
            have e2 : (v == q) = false := by simp [h2]
            clear he h1 h2
            go_wp2
            go_quiet (fail)
            go_wp2
            go_ret
            exact ⟨ret_bool Hne.out.symm, hd.trans (Drew.drewN wo nq)⟩
          · have e1 : (u == p) = false := by simp [h1]
            clear he h1
            go_wp2
            go_quiet (fail)
            go_wp2
            go_ret
            exact ⟨ret_bool Hne.out.symm, hd.trans (Drew.drewN wo nq)⟩
      · obtain rfl : k = n := by omega
        have Heq := Lib.hid (eqp_of_all (Hn.out.trans Hm.out.symm) (fun j hj => HA.out j (by rw [Hn.out] at hj; exact hj)))
        go_wp2
        go_ret
        exact ⟨ret_bool Heq.out.symm, hd⟩
  · have hne : ((n : Int) != (m : Int)) = true := by simp; omega
    have Hq := Lib.hid (show decide (xs = ys) = false by rw [decide_eq_false_iff_not]; rintro rfl; exact hnm (by rw [← Hn.out, ← Hm.out]))
    go_enter Tryz.func37, Tryz.ntmps37
    go_wp2
    go_ret
    exact ⟨ret_bool Hq.out.symm, Drew.refl _⟩

set_option maxRecDepth 100000 in
set_option maxHeartbeats 1600000 in
/-- where no two neighbours are alike nothing is dropped -/
theorem compactC_none (a : Option Addr) (n c : Nat) (xss : List (List (Int × Int))) (w : World) (hr : RCC w a xss) (hn : xss.length = n) (hb : n ≤ 1048576) (hsh : ShortCC xss) (hne : ∀ (k : Nat) (x y : List (Int × Int)), xss[k]? = some x → xss[k + 1]? = some y → y ≠ x) :
    Calls Tryz.prog 80 #[.slice a n c, .func (.func 37) #[] #[]] w fun e w' => e = .returned (.slice a n c) ∧ Drew w w' := by
  have Hn := Lib.hid hn; clear hn
  have Hsh := Lib.hid hsh; clear hsh
  have Hne := Lib.hid hne; clear hne
  go_enter Tryz.func80, Tryz.ntmps80
  by_cases h2 : n < 2
  · have q0 : (n : Int) < 2 := by omega
    go_wp2
    go_ret
    exact ⟨rfl, Drew.refl _⟩
  have q0 : ¬ (n : Int) < 2 := by omega
  go_wp2
  go_loopw [5] (fun iv wr => Hid (∃ k : Nat, 1 ≤ k ∧ k ≤ n ∧ iv = .int .i64 k) ∧ Drew w wr) (fun iv _ => n - (intOf iv).toNat)
  case atStart => exact ⟨⟨1, Nat.le_refl _, by omega, rfl⟩, Drew.refl _⟩
  case round =>
    obtain ⟨HV, hd⟩ := hrel
    obtain ⟨wo, rfl⟩ : ∃ wo : World, wo = wr := ⟨_, rfl⟩
    obtain ⟨k, hk1, hk, rfl⟩ := HV.out
    clear HV
    by_cases hlt : k < n
    · obtain ⟨j, hj⟩ : ∃ j, k = j + 1 := ⟨k - 1, by omega⟩
      obtain ⟨x, hx⟩ := some_of (show j < xss.length by rw [Hn.out]; omega)
      obtain ⟨y, hy⟩ := some_of (show k < xss.length by rw [Hn.out]; exact hlt)
      obtain ⟨b, off, rfl, hcell⟩ := (hr.below (hd.below _)).at (k := j) (by rw [Hn.out]; omega)
      obtain ⟨a1, c1, hc1, hr1⟩ := hcell j x hx
      obtain ⟨a2, c2, hc2, hr2⟩ := hcell k y hy
      have hxl := Hsh.out x (List.mem_of_getElem? hx)
      have hyl := Hsh.out y (List.mem_of_getElem? hy)
      have Hyx := Lib.hid (show decide (y = x) = false by simpa using Hne.out j x y hx (by rw [← hj]; exact hy))
      obtain ⟨lx, hlx⟩ : ∃ l, x.length = l := ⟨_, rfl⟩
      obtain ⟨ly, hly⟩ : ∃ l, y.length = l := ⟨_, rfl⟩
      rw [hlx] at hc1 hxl
      rw [hly] at hc2 hyl
      have Hlx := Lib.hid hlx
      have Hly := Lib.hid hly
      have q1 : (k : Int) < (n : Int) := by omega
      have q2 : (j : Int) < (n : Int) := by omega
      have q3 : wrap64 ((k : Int) - 1) = (j : Int) := by unfold wrap64; omega
      have q4 : IntKind.i64.wrap ((k : Int) - 1) = (j : Int) := by rw [IntWalk.i64_in _ (by omega)]; omega
      clear hcell hx hy hlx hly hj
      go_wp2
      go_quiet ((go_at_call 37; exact quiet (is (equalC_any _ _ _ _ _ _ y x _ (hr2.below ((Drew.drewN _ _).below _)) (hr1.below ((Drew.drewN _ _).below _)) Hly.out Hlx.out (by omega)) Hyx.out)))
      go_wp2
      go_roundw
      case rel => exact ⟨⟨k + 1, by omega, by omega, by go_num⟩, hd.trans (Drew.drewN _ _)⟩
      case measure => simp [intOf]; omega
    · obtain rfl : k = n := by omega
      go_wp2
      go_ret
      exact ⟨rfl, hd⟩
end Go.Proofs.YtomejjbkakpoiaaGreat

namespace Go.Proofs.YtomejjbkakpoiaaGreat
open Go.RowKit

/-- whether the list has the dream -/
def hasD (xss : List (List (Int × Int))) (d : List (Int × Int)) : Bool := xss.contains d
set_option maxRecDepth 100000 in
set_option maxHeartbeats 1600000 in
theorem pipeEq_any (D : Nat) (a b : Option Addr) (n c m e0 : Nat) (xs ys : List (Int × Int)) (w : World) (hD : w.cell? ⟨D, 0, none⟩ = some (.slice b m e0)) (hr : RC w a xs) (hs : RC w b ys) (hn : xs.length = n) (hm : ys.length = m) (hb : n ≤ 1048576) :
    Calls Tryz.prog 36 #[.slice a n c, .pointer (some ⟨D, 0, none⟩)] w fun e w' => e = .returned (.bool (decide (xs = ys))) ∧ Drew w w' := by
  have Hn := Lib.hid hn; clear hn
  have Hm := Lib.hid hm; clear hm
  obtain ⟨r, hr0⟩ : ∃ r, decide (xs = ys) = r := ⟨_, rfl⟩
  have Hr := Lib.hid hr0
  rw [hr0]
  clear hr0
  go_enter Tryz.func36, Tryz.ntmps36
  go_wp2_with fail
  refine (is (equalC_any _ _ _ _ _ _ xs ys _ hr hs Hn.out Hm.out hb) Hr.out).mono ?_
  rintro e w1 ⟨rfl, hd1⟩
  go_wp2
  go_ret
  exact ⟨rfl, hd1⟩

set_option maxRecDepth 100000 in
set_option maxHeartbeats 1600000 in
theorem pipeIndex_any (D : Nat) (a b : Option Addr) (n c m e0 : Nat) (xss : List (List (Int × Int))) (ys : List (Int × Int)) (w : World) (hD : w.cell? ⟨D, 0, none⟩ = some (.slice b m e0)) (hr : RCC w a xss) (hs : RC w b ys) (hn : xss.length = n) (hm : ys.length = m) (hb : n ≤ 1048576) (hsh : ShortCC xss) :
    Calls Tryz.prog 77 #[.slice a n c, .func (.func 36) #[] #[.pointer (some ⟨D, 0, none⟩)]] w fun e w' => ∃ r : Int, e = .returned (.int .i64 r) ∧ Hid (decide (0 ≤ r) = hasD xss ys) ∧ Drew w w' := by
  have Hn := Lib.hid hn; clear hn
  have Hm := Lib.hid hm; clear hm
  have Hsh := Lib.hid hsh; clear hsh
  go_enter Tryz.func77, Tryz.ntmps77
  go_wp2
  go_loopw [8] (fun iv wr => Hid (∃ k : Nat, k ≤ n ∧ iv = .int .i64 k ∧ ∀ j, j < k → xss[j]? ≠ some ys) ∧ Drew w wr) (fun iv _ => n - (intOf iv).toNat)
  case atStart => exact ⟨⟨0, Nat.zero_le _, rfl, fun j hj => by omega⟩, Drew.refl _⟩
  case round =>
    obtain ⟨HV, hd⟩ := hrel
    obtain ⟨wo, rfl⟩ : ∃ wo : World, wo = wr := ⟨_, rfl⟩
    obtain ⟨k, hk, rfl, hno⟩ := HV.out
    clear HV
    have Hno := Lib.hid hno
    clear hno
    by_cases hlt : k < n
    · obtain ⟨x, hx⟩ := some_of (show k < xss.length by rw [Hn.out]; exact hlt)
      obtain ⟨b1, off, rfl, hcell⟩ := (hr.below (hd.below _)).at (k := k) (by rw [Hn.out]; exact hlt)
      obtain ⟨a1, c1, hc1, hr1⟩ := hcell k x hx
      have hxl := Hsh.out x (List.mem_of_getElem? hx)
      have hDo : wo.cell? ⟨D, 0, none⟩ = some (.slice b m e0) := by rw [hd.cell]; exact hD
      have hso := hs.below (hd.below w.heap.size)
      obtain ⟨lx, hlx⟩ : ∃ l, x.length = l := ⟨_, rfl⟩
      rw [hlx] at hc1 hxl
      have Hlx := Lib.hid hlx
      have Hx := Lib.hid hx
      have q1 : (k : Int) < (n : Int) := by omega
      clear hcell hx hlx
      by_cases he : x = ys
      · have He := Lib.hid (show decide (x = ys) = true by simpa using he)
        have Hm2 := Lib.hid (show xss.contains ys = true from List.contains_iff_mem.2 (List.mem_of_getElem? (by rw [Hx.out, he])))
        clear he
        go_wp2_with fail
        refine (is (pipeEq_any D _ _ _ _ _ _ x ys _ hDo hr1 hso Hlx.out Hm.out hxl) He.out).mono ?_
        rintro e w1 ⟨rfl, hd1⟩
        go_wp2
        go_ret
        exact ⟨_, rfl, (show decide ((0 : Int) ≤ (k : Int)) = xss.contains ys by rw [Hm2.out]; simp), hd.trans hd1⟩
      · have He := Lib.hid (show decide (x = ys) = false by simpa using he)
        have Hno2 := Lib.hid (show ∀ j, j < k + 1 → xss[j]? ≠ some ys from fun j hj => by
          rcases Nat.lt_or_ge j k with h | h
          · exact Hno.out j h
          · obtain rfl : j = k := by omega
            rw [Hx.out]
            exact fun e => he (Option.some.inj e))
        clear he
        go_wp2_with fail
        refine (is (pipeEq_any D _ _ _ _ _ _ x ys _ hDo hr1 hso Hlx.out Hm.out hxl) He.out).mono ?_
        rintro e w1 ⟨rfl, hd1⟩
        go_wp2
        go_roundw
        case rel => exact ⟨⟨k + 1, by omega, by go_num, Hno2.out⟩, hd.trans hd1⟩
        case measure => simp [intOf]; omega
    · obtain rfl : k = n := by omega
      have Hm2 := Lib.hid (show xss.contains ys = false by
        rw [Bool.eq_false_iff]
        intro hc
        obtain ⟨j, hj⟩ := List.getElem?_of_mem (List.contains_iff_mem.1 hc)
        exact Hno.out j (by have := (List.getElem?_eq_some_iff.1 hj).1; rw [Hn.out] at this; exact this) hj)
      go_wp2
      go_ret
      exact ⟨_, rfl, (show decide ((0 : Int) ≤ -1) = xss.contains ys by rw [Hm2.out]; simp), hd⟩

set_option maxRecDepth 100000 in
set_option maxHeartbeats 1600000 in
theorem pipeContains_any (D : Nat) (a b : Option Addr) (n c m e0 : Nat) (xss : List (List (Int × Int))) (ys : List (Int × Int)) (w : World) (hD : w.cell? ⟨D, 0, none⟩ = some (.slice b m e0)) (hr : RCC w a xss) (hs : RC w b ys) (hn : xss.length = n) (hm : ys.length = m) (hb : n ≤ 1048576) (hsh : ShortCC xss) :
    Calls Tryz.prog 35 #[.slice a n c, .func (.func 36) #[] #[.pointer (some ⟨D, 0, none⟩)]] w fun e w' => e = .returned (.bool (hasD xss ys)) ∧ Drew w w' := by
  have Hn := Lib.hid hn; clear hn
  have Hm := Lib.hid hm; clear hm
  have Hsh := Lib.hid hsh; clear hsh
  go_enter Tryz.func35, Tryz.ntmps35
  go_wp2_with fail
  refine (pipeIndex_any D _ _ _ _ _ _ xss ys _ hD hr hs Hn.out Hm.out hb Hsh.out).mono ?_
  rintro e w1 ⟨r, rfl, hr1, hd1⟩
  have Hr := Lib.hid hr1.out
  clear hr1
  go_wp2
  go_ret
  exact ⟨ret_bool (by rw [← Hr.out]), hd1⟩

set_option maxRecDepth 100000 in
set_option maxHeartbeats 1600000 in
theorem pipeHas_any (A : Nat) (a b : Option Addr) (n c m e0 : Nat) (xss : List (List (Int × Int))) (ys : List (Int × Int)) (w : World) (hA : w.cell? ⟨A, 0, none⟩ = some (.slice a n c)) (hr : RCC w a xss) (hs : RC w b ys) (hn : xss.length = n) (hm : ys.length = m) (hb : n ≤ 1048576) (hsh : ShortCC xss) :
    Calls Tryz.prog 34 #[.slice b m e0, .pointer (some ⟨A, 0, none⟩)] w fun e w' => e = .returned (.bool (hasD xss ys)) ∧ Below w.heap.size w w' := by
  have Hn := Lib.hid hn; clear hn
  have Hm := Lib.hid hm; clear hm
  have Hsh := Lib.hid hsh; clear hsh
  have hB0 : Below w.heap.size w (w.alloc (.cells #[.slice b m e0] 33)) := (Below.refl _ _).alloc (Nat.le_refl _) _
  have hD : (w.alloc (.cells #[.slice b m e0] 33)).cell? ⟨w.heap.size, 0, none⟩ = some (.slice b m e0) := by rw [World.cell?_alloc_at _ _ _ _ (by simp)]; rfl
  have hA0 : (w.alloc (.cells #[.slice b m e0] 33)).cell? ⟨A, 0, none⟩ = some (.slice a n c) := by rw [hB0.cell (World.block_lt_of_cell? _ _ hA)]; exact hA
  have hr0 := hr.below hB0
  have hs0 := hs.below hB0
  go_enter Tryz.func34, Tryz.ntmps34
  go_wp2_with fail
  refine (pipeContains_any w.heap.size _ _ _ _ _ _ xss ys _ hD hr0 hs0 Hn.out Hm.out hb Hsh.out).mono ?_
  rintro e w1 ⟨rfl, hd1⟩
  have hB1 := hB0.trans (hd1.below _)
  go_wp2
  go_ret
  exact ⟨rfl, hB1⟩
end Go.Proofs.YtomejjbkakpoiaaGreat

namespace Go.Proofs.YtomejjbkakpoiaaGreat

/-- lists of moderate length, no two alike -/
structure GoodCC (xs : List (List (Int × Int))) : Prop where
  each : ∀ p ∈ xs, p.length ≤ 1048576
  apart : ∀ (i j : Nat) (p q : List (Int × Int)), xs[i]? = some p → xs[j]? = some q → p = q → i = j
/-- how many of the list's first ones lie ahead of x -/
def cutD (x : List (Int × Int)) : List (List (Int × Int)) → Nat
  | [] => 0
  | y :: l => if lessD y x = true then cutD x l + 1 else 0
/-- x put in at its place, unless it is there -/
def insD (x : List (Int × Int)) (l : List (List (Int × Int))) : List (List (Int × Int)) := if l[cutD x l]? = some x then l else l.take (cutD x l) ++ [x] ++ l.drop (cutD x l)
theorem cutD_le (x : List (Int × Int)) : ∀ l : List (List (Int × Int)), cutD x l ≤ l.length
  | [] => Nat.le_refl _
  | y :: l => by
    unfold cutD
    split
    · have := cutD_le x l; simp; omega
    · exact Nat.zero_le _
theorem cutD_lo {x : List (Int × Int)} : ∀ {l : List (List (Int × Int))} {k : Nat} {y : List (Int × Int)}, k < cutD x l → l[k]? = some y → lessD y x = true
  | [], _, _, h, _ => by simp [cutD] at h
  | z :: l, k, y, h, hy => by
    unfold cutD at h
    split at h
    · rename_i hz
      match k, hy with
      | 0, hy => simp at hy; rw [← hy]; exact hz
      | k + 1, hy => exact cutD_lo (l := l) (k := k) (by omega) (by simpa using hy)
    · omega
theorem cutD_hi {x : List (Int × Int)} : ∀ {l : List (List (Int × Int))} {y : List (Int × Int)}, l[cutD x l]? = some y → lessD y x = false
  | [], _, h => by simp at h
  | z :: l, y, h => by
    unfold cutD at h
    split at h
    · exact cutD_hi (l := l) (by simpa using h)
    · rename_i hz
      simp at h
      rw [← h]
      simpa using hz
/-- the place is known by its two sides -/
theorem cutD_at {x : List (Int × Int)} {l : List (List (Int × Int))} {k : Nat} (hk : k ≤ cutD x l) (h : k = l.length ∨ ∃ y, l[k]? = some y ∧ lessD y x = false) : cutD x l = k := by
  have := cutD_le x l
  rcases h with h | ⟨y, hy, hn⟩
  · omega
  · rcases Nat.lt_or_ge k (cutD x l) with hlt | hge
    · have := cutD_lo hlt hy
      rw [hn] at this
      cases this
    · omega
def AscD (l : List (List (Int × Int))) : Prop := l.Pairwise fun p q => lessD p q = true
theorem mem_insD {x y : List (Int × Int)} {l : List (List (Int × Int))} : y ∈ insD x l ↔ y = x ∨ y ∈ l := by
  unfold insD
  split
  · rename_i h
    exact ⟨.inr, fun h' => h'.elim (fun e => e ▸ List.mem_of_getElem? h) id⟩
  · have e : l = l.take (cutD x l) ++ l.drop (cutD x l) := (List.take_append_drop _ _).symm
    conv => rhs; rw [e]
    simp only [List.mem_append, List.mem_singleton]
    constructor
    · rintro ((h | h) | h)
      · exact .inr (.inl h)
      · exact .inl h
      · exact .inr (.inr h)
    · rintro (h | h | h)
      · exact .inl (.inr h)
      · exact .inl (.inl h)
      · exact .inr h
theorem asc_insD {x : List (Int × Int)} {l : List (List (Int × Int))} (h : AscD l) : AscD (insD x l) := by
  unfold insD
  split
  · exact h
  · rename_i hne
    have h0 := h
    unfold AscD at *
    rw [← List.take_append_drop (cutD x l) l, List.pairwise_append] at h
    obtain ⟨h1, h2, h3⟩ := h
    have lo : ∀ y ∈ l.take (cutD x l), lessD y x = true := by
      intro y hy
      obtain ⟨k, hk⟩ := List.getElem?_of_mem hy
      have hkl := (List.getElem?_eq_some_iff.1 hk).1
      rw [List.length_take] at hkl
      rw [List.getElem?_take_of_lt (by omega)] at hk
      exact cutD_lo (by omega) hk
    have hi : ∀ y ∈ l.drop (cutD x l), lessD x y = true := by
      intro y hy
      obtain ⟨k, hk⟩ := List.getElem?_of_mem hy
      rw [List.getElem?_drop] at hk
      have hlt : cutD x l < l.length := by have := (List.getElem?_eq_some_iff.1 hk).1; omega
      have hz : l[cutD x l]? = some l[cutD x l] := List.getElem?_eq_getElem hlt
      have hn := cutD_hi hz
      have hxz : lessD x l[cutD x l] = true := by
        cases hc : lessD x l[cutD x l] with
        | true => rfl
        | false => exact absurd (by rw [hz, lessD_total hn hc]) hne
      match k, hk with
      | 0, hk =>
        rw [Nat.add_zero, hz] at hk
        rw [← Option.some.inj hk]
        exact hxz
      | k + 1, hk =>
        obtain ⟨hkl, e⟩ := List.getElem?_eq_some_iff.1 hk
        have := List.pairwise_iff_getElem.1 h0 (cutD x l) (cutD x l + (k + 1)) hlt hkl (by omega)
        rw [e] at this
        exact lessD_trans hxz this
    rw [List.append_assoc, List.pairwise_append]
    refine ⟨h1, ?_, ?_⟩
    · rw [List.singleton_append, List.pairwise_cons]
      exact ⟨hi, h2⟩
    · intro y hy z hz
      rw [List.singleton_append, List.mem_cons] at hz
      rcases hz with rfl | hz
      · exact lo y hy
      · exact h3 y hy z hz
theorem ascD_ext : ∀ {a b : List (List (Int × Int))}, AscD a → AscD b → (∀ x, x ∈ a ↔ x ∈ b) → a = b
  | [], [], _, _, _ => rfl
  | [], y :: b, _, _, h => absurd ((h y).2 List.mem_cons_self) (by simp)
  | x :: a, [], _, _, h => absurd ((h x).1 List.mem_cons_self) (by simp)
  | x :: a, y :: b, ha, hb, h => by
    obtain ⟨ha1, ha2⟩ := List.pairwise_cons.1 ha
    obtain ⟨hb1, hb2⟩ := List.pairwise_cons.1 hb
    have hxy : x = y := by
      rcases List.mem_cons.1 ((h x).1 List.mem_cons_self) with e | e
      · exact e
      · rcases List.mem_cons.1 ((h y).2 List.mem_cons_self) with e' | e'
        · exact e'.symm
        · have := lessD_trans (hb1 x e) (ha1 y e')
          rw [lessD_irrefl] at this
          cases this
    subst hxy
    rw [ascD_ext ha2 hb2 fun z => ?_]
    constructor
    · intro hz
      rcases List.mem_cons.1 ((h z).1 (List.mem_cons_of_mem _ hz)) with e | e
      · subst e
        have := ha1 z hz
        rw [lessD_irrefl] at this
        cases this
      · exact e
    · intro hz
      rcases List.mem_cons.1 ((h z).2 (List.mem_cons_of_mem _ hz)) with e | e
      · subst e
        have := hb1 z hz
        rw [lessD_irrefl] at this
        cases this
      · exact e
/-- all of a list put in one behind the other -/
def ascD (L : List (List (Int × Int))) : List (List (Int × Int)) := L.foldl (fun l x => insD x l) []
theorem foldl_insD (L : List (List (Int × Int))) : ∀ l, AscD l → AscD (L.foldl (fun l x => insD x l) l) ∧ ∀ y, y ∈ L.foldl (fun l x => insD x l) l ↔ y ∈ L ∨ y ∈ l := by
  induction L with
  | nil => intro l h; exact ⟨h, fun y => by simp⟩
  | cons x L ih =>
    intro l h
    obtain ⟨h1, h2⟩ := ih _ (asc_insD (x := x) h)
    refine ⟨h1, fun y => ?_⟩
    rw [List.foldl_cons, h2, mem_insD, List.mem_cons]
    constructor
    · rintro (h | h | h)
      · exact .inl (.inr h)
      · exact .inl (.inl h)
      · exact .inr h
    · rintro ((h | h) | h)
      · exact .inr (.inl h)
      · exact .inl h
      · exact .inr (.inr h)
theorem ascD_asc (L : List (List (Int × Int))) : AscD (ascD L) := (foldl_insD L [] List.Pairwise.nil).1
theorem mem_ascD {L : List (List (Int × Int))} {y : List (Int × Int)} : y ∈ ascD L ↔ y ∈ L := by
  rw [ascD, (foldl_insD L [] List.Pairwise.nil).2]
  simp
theorem ascD_snoc (L : List (List (Int × Int))) (x : List (Int × Int)) : ascD (L ++ [x]) = insD x (ascD L) := by
  unfold ascD
  rw [List.foldl_append]
  rfl
/-- an ordered list of the same ones is that list -/
theorem ascD_perm {L l : List (List (Int × Int))} (hp : l.Perm L) (hs : l.Pairwise fun p q => lessD p q = true) : l = ascD L := ascD_ext hs (ascD_asc L) fun x => by rw [mem_ascD]; exact hp.mem_iff
theorem insD_length (x : List (Int × Int)) (l : List (List (Int × Int))) : (insD x l).length ≤ l.length + 1 := by
  unfold insD
  split
  · omega
  · have := cutD_le x l
    simp
    omega
end Go.Proofs.YtomejjbkakpoiaaGreat
