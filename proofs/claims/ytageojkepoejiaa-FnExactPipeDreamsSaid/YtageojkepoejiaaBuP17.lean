/-
  The closures of PipeDreams: whether a dream is in a list.
  A list without what is like its neighbour ahead: plain.
-/
import Derived.Test.YtageojkepoejiaaBuP15
import Derived.Test.YtageojkepoejiaaBuP9
namespace Go.Proofs.Ytageojkepoejiaa
open Go.RowKit

/-- whether the list has the dream -/
def hasD (xss : List (List (Int × Int))) (d : List (Int × Int)) : Bool := xss.contains d
set_option maxRecDepth 100000 in
set_option maxHeartbeats 1600000 in
theorem pipeEq_any (D : Nat) (a b : Option Addr) (n c m e0 : Nat) (xs ys : List (Int × Int)) (w : World) (hD : w.cell? ⟨D, 0, none⟩ = some (.slice b m e0)) (hr : RC w a xs) (hs : RC w b ys) (hn : xs.length = n) (hm : ys.length = m) (hb : n ≤ 1048576) :
    Calls Try.prog 66 #[.slice a n c, .pointer (some ⟨D, 0, none⟩)] w fun e w' => e = .returned (.bool (decide (xs = ys))) ∧ Drew w w' := by
  have Hn := Lib.hid hn; clear hn
  have Hm := Lib.hid hm; clear hm
  obtain ⟨r, hr0⟩ : ∃ r, decide (xs = ys) = r := ⟨_, rfl⟩
  have Hr := Lib.hid hr0
  rw [hr0]
  clear hr0
  go_enter Try.func66, Try.ntmps66
  go_wp2_with fail
  refine (is (equalC_any _ _ _ _ _ _ xs ys _ hr hs Hn.out Hm.out hb) Hr.out).mono ?_
  rintro e w1 ⟨rfl, hd1⟩
  go_wp2
  go_ret
  exact ⟨rfl, hd1⟩

set_option maxRecDepth 100000 in
set_option maxHeartbeats 1600000 in
theorem pipeIndex_any (D : Nat) (a b : Option Addr) (n c m e0 : Nat) (xss : List (List (Int × Int))) (ys : List (Int × Int)) (w : World) (hD : w.cell? ⟨D, 0, none⟩ = some (.slice b m e0)) (hr : RCC w a xss) (hs : RC w b ys) (hn : xss.length = n) (hm : ys.length = m) (hb : n ≤ 1048576) (hsh : ShortCC xss) :
    Calls Try.prog 99 #[.slice a n c, .func (.func 66) #[] #[.pointer (some ⟨D, 0, none⟩)]] w fun e w' => ∃ r : Int, e = .returned (.int .i64 r) ∧ Hid (decide (0 ≤ r) = hasD xss ys) ∧ Drew w w' := by
  have Hn := Lib.hid hn; clear hn
  have Hm := Lib.hid hm; clear hm
  have Hsh := Lib.hid hsh; clear hsh
  go_enter Try.func99, Try.ntmps99
  go_wp2
  go_loopw [8] (fun iv wr => Hid (∃ k : Nat, k ≤ n ∧ iv = .int .i64 k ∧ ∀ j, j < k → xss[j]? ≠ some ys) ∧ Drew w wr) (fun iv _ => n - (intOf iv).toNat)
  case atStart => exact ⟨⟨0, Nat.zero_le _, rfl, fun j hj => by omega⟩, Drew.refl _⟩
  case round =>
    obtain ⟨HV, hd⟩ := hrel
    obtain ⟨wo, rfl⟩ : ∃ wo : World, wo = wr := ⟨_, rfl⟩
    obtain ⟨k, hk, rfl, hno⟩ := HV.out
    clear HV
    have Hno := Lib.hid hno
    clear hno
    by_cases hlt : k < n
    · obtain ⟨x, hx⟩ := some_of (show k < xss.length by rw [Hn.out]; exact hlt)
      obtain ⟨b1, off, rfl, hcell⟩ := (hr.below (hd.below _)).at (k := k) (by rw [Hn.out]; exact hlt)
      obtain ⟨a1, c1, hc1, hr1⟩ := hcell k x hx
      have hxl := Hsh.out x (List.mem_of_getElem? hx)
      have hDo : wo.cell? ⟨D, 0, none⟩ = some (.slice b m e0) := by rw [hd.cell]; exact hD
      have hso := hs.below (hd.below w.heap.size)
      obtain ⟨lx, hlx⟩ : ∃ l, x.length = l := ⟨_, rfl⟩
      rw [hlx] at hc1 hxl
      have Hlx := Lib.hid hlx
      have Hx := Lib.hid hx
      have q1 : (k : Int) < (n : Int) := by omega
      clear hcell hx hlx
      by_cases he : x = ys
      · have He := Lib.hid (show decide (x = ys) = true by simpa using he)
        have Hm2 := Lib.hid (show xss.contains ys = true from List.contains_iff_mem.2 (List.mem_of_getElem? (by rw [Hx.out, he])))
        clear he
        go_wp2_with fail
        refine (is (pipeEq_any D _ _ _ _ _ _ x ys _ hDo hr1 hso Hlx.out Hm.out hxl) He.out).mono ?_
        rintro e w1 ⟨rfl, hd1⟩
        go_wp2
        go_ret
        exact ⟨_, rfl, (show decide ((0 : Int) ≤ (k : Int)) = xss.contains ys by rw [Hm2.out]; simp), hd.trans hd1⟩
      · have He := Lib.hid (show decide (x = ys) = false by simpa using he)
        have Hno2 := Lib.hid (show ∀ j, j < k + 1 → xss[j]? ≠ some ys from fun j hj => by
          rcases Nat.lt_or_ge j k with h | h
          · exact Hno.out j h
          · obtain rfl : j = k := by omega
            rw [Hx.out]
            exact fun e => he (Option.some.inj e))
        clear he
        go_wp2_with fail
        refine (is (pipeEq_any D _ _ _ _ _ _ x ys _ hDo hr1 hso Hlx.out Hm.out hxl) He.out).mono ?_
        rintro e w1 ⟨rfl, hd1⟩
        go_wp2
        go_roundw
        case rel => exact ⟨⟨k + 1, by omega, by go_num, Hno2.out⟩, hd.trans hd1⟩
        case measure => simp [intOf]; omega
    · obtain rfl : k = n := by omega
      have Hm2 := Lib.hid (show xss.contains ys = false by
        rw [Bool.eq_false_iff]
        intro hc
        obtain ⟨j, hj⟩ := List.getElem?_of_mem (List.contains_iff_mem.1 hc)
        exact Hno.out j (by have := (List.getElem?_eq_some_iff.1 hj).1; rw [Hn.out] at this; exact this) hj)
      go_wp2
      go_ret
      exact ⟨_, rfl, (show decide ((0 : Int) ≤ -1) = xss.contains ys by rw [Hm2.out]; simp), hd⟩

set_option maxRecDepth 100000 in
set_option maxHeartbeats 1600000 in
theorem pipeContains_any (D : Nat) (a b : Option Addr) (n c m e0 : Nat) (xss : List (List (Int × Int))) (ys : List (Int × Int)) (w : World) (hD : w.cell? ⟨D, 0, none⟩ = some (.slice b m e0)) (hr : RCC w a xss) (hs : RC w b ys) (hn : xss.length = n) (hm : ys.length = m) (hb : n ≤ 1048576) (hsh : ShortCC xss) :
    Calls Try.prog 65 #[.slice a n c, .func (.func 66) #[] #[.pointer (some ⟨D, 0, none⟩)]] w fun e w' => e = .returned (.bool (hasD xss ys)) ∧ Drew w w' := by
  have Hn := Lib.hid hn; clear hn
  have Hm := Lib.hid hm; clear hm
  have Hsh := Lib.hid hsh; clear hsh
  go_enter Try.func65, Try.ntmps65
  go_wp2_with fail
  refine (pipeIndex_any D _ _ _ _ _ _ xss ys _ hD hr hs Hn.out Hm.out hb Hsh.out).mono ?_
  rintro e w1 ⟨r, rfl, hr1, hd1⟩
  have Hr := Lib.hid hr1.out
  clear hr1
  go_wp2
  go_ret
  exact ⟨ret_bool (by rw [← Hr.out]), hd1⟩

set_option maxRecDepth 100000 in
set_option maxHeartbeats 1600000 in
theorem pipeHas_any (A : Nat) (a b : Option Addr) (n c m e0 : Nat) (xss : List (List (Int × Int))) (ys : List (Int × Int)) (w : World) (hA : w.cell? ⟨A, 0, none⟩ = some (.slice a n c)) (hr : RCC w a xss) (hs : RC w b ys) (hn : xss.length = n) (hm : ys.length = m) (hb : n ≤ 1048576) (hsh : ShortCC xss) :
    Calls Try.prog 64 #[.slice b m e0, .pointer (some ⟨A, 0, none⟩)] w fun e w' => e = .returned (.bool (hasD xss ys)) ∧ Below w.heap.size w w' := by
  have Hn := Lib.hid hn; clear hn
  have Hm := Lib.hid hm; clear hm
  have Hsh := Lib.hid hsh; clear hsh
  have hB0 : Below w.heap.size w (w.alloc (.cells #[.slice b m e0] 36)) := (Below.refl _ _).alloc (Nat.le_refl _) _
  have hD : (w.alloc (.cells #[.slice b m e0] 36)).cell? ⟨w.heap.size, 0, none⟩ = some (.slice b m e0) := by rw [World.cell?_alloc_at _ _ _ _ (by simp)]; rfl
  have hA0 : (w.alloc (.cells #[.slice b m e0] 36)).cell? ⟨A, 0, none⟩ = some (.slice a n c) := by rw [hB0.cell (World.block_lt_of_cell? _ _ hA)]; exact hA
  have hr0 := hr.below hB0
  have hs0 := hs.below hB0
  go_enter Try.func64, Try.ntmps64
  go_wp2_with fail
  refine (pipeContains_any w.heap.size _ _ _ _ _ _ xss ys _ hD hr0 hs0 Hn.out Hm.out hb Hsh.out).mono ?_
  rintro e w1 ⟨rfl, hd1⟩
  have hB1 := hB0.trans (hd1.below _)
  go_wp2
  go_ret
  exact ⟨rfl, hB1⟩
end Go.Proofs.Ytageojkepoejiaa

namespace Go.Proofs.Ytageojkepoejiaa

/-- place i is kept -/
def keepI (xss : List (List (Int × Int))) (i : Nat) : Bool := i == 0 || decide (xss.getD i [] ≠ xss.getD (i - 1) [])
/-- the places kept among the first m -/
def compI (xss : List (List (Int × Int))) (m : Nat) : List Nat := (List.range m).filter (keepI xss)
def compD (xss : List (List (Int × Int))) : List (List (Int × Int)) := (compI xss xss.length).map fun i => xss.getD i []
theorem compI_succ (xss : List (List (Int × Int))) (m : Nat) : compI xss (m + 1) = if keepI xss m = true then compI xss m ++ [m] else compI xss m := by
  unfold compI
  rw [List.range_succ, List.filter_append]
  cases h : keepI xss m
  · simp [h]
  · simp [h]
theorem compI_le (xss : List (List (Int × Int))) (m : Nat) : (compI xss m).length ≤ m := by
  unfold compI
  have := List.length_filter_le (keepI xss) (List.range m)
  simpa using this
theorem compI_lt {xss : List (List (Int × Int))} {m i : Nat} (h : i ∈ compI xss m) : i < m := by
  unfold compI at h
  exact List.mem_range.1 (List.mem_filter.1 h).1
/-- nothing dropped as yet -/
theorem compI_all {xss : List (List (Int × Int))} : ∀ {m : Nat}, (∀ i, i < m → keepI xss i = true) → compI xss m = List.range m
  | 0, _ => rfl
  | m + 1, h => by rw [compI_succ, if_pos (h m (by omega)), compI_all (fun i hi => h i (by omega)), List.range_succ]
theorem compI_less {xss : List (List (Int × Int))} {k : Nat} (hk : keepI xss k = false) : ∀ {m : Nat}, k < m → (compI xss m).length + 1 ≤ m
  | 0, h => by omega
  | m + 1, h => by
    rw [compI_succ]
    rcases Nat.lt_or_ge k m with h1 | h1
    · have := compI_less hk h1
      split
      · rw [List.length_append]; simp; omega
      · omega
    · obtain rfl : k = m := by omega
      rw [if_neg (by rw [hk]; simp)]
      have := compI_le xss k
      omega
/-- a list in weak order: what is left is in strict order, and holds the same -/
theorem compI_asc {xss : List (List (Int × Int))} (h : xss.Pairwise fun p q => lessD q p = false) : ∀ {m : Nat}, m ≤ xss.length →
    AscD ((compI xss m).map fun i => xss.getD i []) ∧ (∀ x, x ∈ (compI xss m).map (fun i => xss.getD i []) ↔ x ∈ xss.take m) ∧ (∀ x ∈ (compI xss m).map (fun i => xss.getD i []), 0 < m → x = xss.getD (m - 1) [] ∨ lessD x (xss.getD (m - 1) []) = true)
  | 0, _ => ⟨List.Pairwise.nil, fun x => by simp [compI], fun x hx => by simp [compI] at hx⟩
  | m + 1, hm => by
    obtain ⟨h1, h2, h3⟩ := compI_asc h (m := m) (by omega)
    have hget : ∀ i, (hi : i < xss.length) → xss.getD i [] = xss[i] := fun i hi => by rw [List.getD_eq_getElem?_getD, List.getElem?_eq_getElem hi]; rfl
    have htk : xss.take (m + 1) = xss.take m ++ [xss.getD m []] := by
      rw [List.take_add_one, List.getElem?_eq_getElem (by omega), hget m (by omega)]
      rfl
    rw [compI_succ, htk, Nat.add_sub_cancel]
    by_cases hm0 : m = 0
    · subst hm0
      rw [if_pos (show keepI xss 0 = true from rfl)]
      refine ⟨by simp [AscD, compI], fun x => by simp [compI], fun x hx _ => ?_⟩
      simp [compI] at hx
      exact .inl hx
    have hpw : lessD (xss.getD m []) (xss.getD (m - 1) []) = false := by
      have := List.pairwise_iff_getElem.1 h (m - 1) m (by omega) (by omega) (by omega)
      rw [hget _ (by omega), hget _ (by omega)]
      exact this
    have hlast : xss.getD (m - 1) [] ∈ xss.take m := by
      refine List.mem_of_getElem? (i := m - 1) ?_
      rw [List.getElem?_take_of_lt (by omega), List.getElem?_eq_getElem (by omega), hget _ (by omega)]
    cases hk : keepI xss m
    · rw [if_neg (by simp)]
      have heq : xss.getD m [] = xss.getD (m - 1) [] := by
        unfold keepI at hk
        simp only [Bool.or_eq_false_iff, decide_eq_false_iff_not, ne_eq, Decidable.not_not] at hk
        exact hk.2
      refine ⟨h1, fun x => ?_, fun x hx _ => ?_⟩
      · rw [h2 x, List.mem_append, List.mem_singleton, heq]
        exact ⟨.inl, fun hh => hh.elim id (fun e => e ▸ hlast)⟩
      · rw [heq]
        exact h3 x hx (by omega)
    · rw [if_pos rfl]
      have hne : xss.getD m [] ≠ xss.getD (m - 1) [] := by
        unfold keepI at hk
        rcases (by simpa using hk : m = 0 ∨ _) with e | e
        · exact absurd e hm0
        · exact e
      have hlt : lessD (xss.getD (m - 1) []) (xss.getD m []) = true := by
        cases h9 : lessD (xss.getD (m - 1) []) (xss.getD m [])
        · exact absurd (lessD_total hpw h9) hne
        · rfl
      have hall : ∀ x ∈ (compI xss m).map (fun i => xss.getD i []), lessD x (xss.getD m []) = true := fun x hx => by
        rcases h3 x hx (by omega) with e | e
        · rw [e]; exact hlt
        · exact lessD_trans e hlt
      rw [List.map_append]
      refine ⟨?_, fun x => ?_, fun x hx _ => ?_⟩
      · unfold AscD
        rw [List.pairwise_append]
        refine ⟨h1, by simp, fun x hx y hy => ?_⟩
        simp at hy
        rw [hy]
        exact hall x hx
      · rw [List.mem_append, List.mem_append, h2 x]
        simp
      · rcases List.mem_append.1 hx with hx | hx
        · exact .inr (hall x hx)
        · left
          simpa using hx
theorem compD_asc {xss L : List (List (Int × Int))} (h : xss.Pairwise fun p q => lessD q p = false) (hp : xss.Perm L) : compD xss = ascD L := by
  obtain ⟨h1, h2, _⟩ := compI_asc h (m := xss.length) (Nat.le_refl _)
  refine ascD_ext h1 (ascD_asc L) fun x => ?_
  rw [mem_ascD, ← hp.mem_iff]
  have := h2 x
  rw [List.take_of_length_le (Nat.le_refl _)] at this
  exact this
end Go.Proofs.Ytageojkepoejiaa
