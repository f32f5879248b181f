/-
  Contracts of IsShape, the program's and the reference's.
  The fillings of a shape, row by row, in the order of both searches. Plain.
  Contracts of the reference's LrCount and what it calls; small shapes.
  append of zeros to a slice of ints of the call's own: append(s, make([]int, k)...).
-/
import Derived.Test.YtpjkhkoecgjjbaaBuL5
import Derived.Test.YtpjkhkoecgjjbaaLrStrip
import Derived.Test.YtpjkhkoecgjjbaaBuL9
import Derived.Test.YtpjkhkoecgjjbaaBuL4
namespace Go.Proofs.Ytpjkhkoecgjjbaa
open Go.RowKit

def shapeAt (xs : List Int) (k : Nat) : Bool :=
  decide (1 ≤ xs.getD k 0) && decide (xs.getD k 0 ≤ 16) && (k == 0 || decide (xs.getD k 0 ≤ xs.getD (k-1) 0))
def isShape (xs : List Int) : Bool := decide (xs.length ≤ 16) && (List.range xs.length).all (shapeAt xs)

theorem shapeAt_zero {xs : List Int} {x : Int} (h : xs[0]? = some x) (h1 : ¬ x < 1) (h2 : ¬ 16 < x) : shapeAt xs 0 = true := by
  unfold shapeAt; rw [getD_of h]; simp; omega
theorem shapeAt_next {xs : List Int} {k : Nat} {x y : Int} (h : xs[k]? = some x) (hy : xs[k-1]? = some y) (h1 : ¬ x < 1) (h2 : ¬ 16 < x) (h4 : ¬ y < x) : shapeAt xs k = true := by
  unfold shapeAt; rw [getD_of h, getD_of hy]; simp; omega
theorem shapeAt_low {xs : List Int} {k : Nat} {x : Int} (h : xs[k]? = some x) (h1 : x < 1) : shapeAt xs k = false := by
  unfold shapeAt; rw [getD_of h]; simp; omega
theorem shapeAt_high {xs : List Int} {k : Nat} {x : Int} (h : xs[k]? = some x) (h1 : 16 < x) : shapeAt xs k = false := by
  unfold shapeAt; rw [getD_of h]; simp; omega
theorem shapeAt_rise {xs : List Int} {k : Nat} {x y : Int} (h : xs[k]? = some x) (hy : xs[k-1]? = some y) (h3 : k ≠ 0) (h4 : y < x) : shapeAt xs k = false := by
  unfold shapeAt; rw [getD_of h, getD_of hy]; simp; omega

theorem isShape_false {xs : List Int} {k : Nat} (hk : k < xs.length) (h : shapeAt xs k = false) : isShape xs = false := by
  simp only [isShape, Bool.and_eq_false_iff]
  right
  rw [List.all_eq_false]
  exact ⟨k, by simpa using hk, by simp [h]⟩


theorem isShape_true {xs : List Int} (h : ∀ j, j < xs.length → shapeAt xs j = true) : isShape xs = decide (xs.length ≤ 16) := by
  have : (List.range xs.length).all (shapeAt xs) = true := by
    rw [List.all_eq_true]; intro j hj; exact h j (by simpa using hj)
  simp [isShape, this]

set_option maxHeartbeats 400000 in
theorem implIsShape_any (a : Option Addr) (n c : Nat) (xs : List Int) (w : World) (hr : RI w a xs) (hn : xs.length = n) (hb : n ≤ 9223372036854775807) :
    Calls Try.prog 29 #[.slice a n c] w fun e w' => e = .returned (.bool (isShape xs)) ∧ Drew w w' := by
  have Hn := Lib.hid hn; clear hn
  go_enter Try.func29, Try.ntmps29
  go_wp2
  go_loop [7] (fun i => ∃ k : Nat, k ≤ n ∧ i = .int .i64 k ∧ Hid (∀ j, j < k → shapeAt xs j = true)) (fun i => n - (intOf i).toNat)
  case atStart => exact ⟨0, Nat.zero_le _, rfl, by intro j hj; omega⟩
  case round =>
    obtain ⟨k, hk, rfl, HA⟩ := hrel
    by_cases hlt : k < n
    · obtain ⟨b, off, rfl, hcell⟩ := hr.at (k := k) (by rw [Hn.out]; exact hlt)
      obtain ⟨x, hx⟩ : ∃ x, xs[k]? = some x := ⟨xs[k]'(by rw [Hn.out]; exact hlt), by simp⟩
      have hc := hcell k x hx
      have Hx := Lib.hid hx; clear hx
      have hlast : k ≠ 0 → ∃ y, xs[k-1]? = some y ∧ w.cell? ⟨b, off + (k - 1), none⟩ = some (.int .i64 y) := by
        intro h0
        have : k - 1 < xs.length := by rw [Hn.out]; omega
        exact ⟨xs[k-1], by simp, hcell _ _ (by simp)⟩
      clear hcell
      by_cases h1 : x < 1
      · clear hlast
        go_wp2
        go_ret
        exact ⟨ret_bool (isShape_false (k := k) (by rw [Hn.out]; exact hlt) (by first | exact shapeAt_low Hx.out h1 | exact shapeAt_high Hx.out h2)).symm, Drew.refl _⟩
      · by_cases h2 : 16 < x
        · clear hlast
          go_wp2
          go_ret
          exact ⟨ret_bool (isShape_false (k := k) (by rw [Hn.out]; exact hlt) (by first | exact shapeAt_low Hx.out h1 | exact shapeAt_high Hx.out h2)).symm, Drew.refl _⟩
        · by_cases h3 : k = 0
          · subst h3
            clear hlast
            rw [Nat.add_zero] at hc
            go_wp2
            go_round
            case rel => exact ⟨1, by omega, rfl, by intro j hj; obtain rfl : j = 0 := (by omega); exact shapeAt_zero Hx.out h1 h2⟩
            case measure => simp [intOf]; omega
          · obtain ⟨y, hy, hcy⟩ := hlast h3
            clear hlast
            have Hy := Lib.hid hy; clear hy
            have hk0 : (0 : Int) < (k : Int) := by omega
            by_cases h4 : y < x
            · go_wp2
              go_ret
              exact ⟨ret_bool (isShape_false (k := k) (by rw [Hn.out]; exact hlt) (shapeAt_rise Hx.out Hy.out h3 h4)).symm, Drew.refl _⟩
            · go_wp2
              go_round
              case rel => exact ⟨k + 1, by omega, by go_num, by
                intro j hj
                rcases Nat.lt_or_ge j k with h | h
                · exact HA.out j h
                · obtain rfl : j = k := by omega
                  exact shapeAt_next Hx.out Hy.out h1 h2 h4⟩
              case measure => simp [intOf]; omega
    · go_wp2
      go_ret
      exact ⟨ret_bool (by rw [isShape_true (by intro j hj; exact HA.out j (by rw [Hn.out] at hj; omega)), Hn.out]; simp; omega), Drew.refl _⟩
set_option maxHeartbeats 400000 in
theorem specIsShape_any (a : Option Addr) (n c : Nat) (xs : List Int) (w : World) (hr : RI w a xs) (hn : xs.length = n) (hb : n ≤ 9223372036854775807) :
    Calls Try.prog 15 #[.slice a n c] w fun e w' => e = .returned (.bool (isShape xs)) ∧ Drew w w' := by
  have Hn := Lib.hid hn; clear hn
  by_cases hbig : 16 < n
  · go_enter Try.func15, Try.ntmps15
    go_wp2
    go_ret
    exact ⟨ret_bool (by rw [isShape, Hn.out]; simp; omega), Drew.refl _⟩
  · go_enter Try.func15, Try.ntmps15
    go_wp2
    go_loopw [3] (fun i wr => ∃ k : Nat, k ≤ n ∧ i = .int .i64 k ∧ Hid (∀ j, j < k → shapeAt xs j = true) ∧ Drew w wr) (fun i _ => n - (intOf i).toNat)
    case atStart => exact ⟨0, Nat.zero_le _, rfl, by intro j hj; omega, Drew.refl _⟩
    case round =>
      obtain ⟨k, hk, rfl, HA, hd⟩ := hrel
      by_cases hlt : k < n
      · obtain ⟨b, off, rfl, hcell⟩ := (hr.drew hd).at (k := k) (by rw [Hn.out]; exact hlt)
        obtain ⟨x, hx⟩ : ∃ x, xs[k]? = some x := ⟨xs[k]'(by rw [Hn.out]; exact hlt), by simp⟩
        have hc := hcell k x hx
        have Hx := Lib.hid hx; clear hx
        have hlast : k ≠ 0 → ∃ y, xs[k-1]? = some y ∧ wr.cell? ⟨b, off + (k - 1), none⟩ = some (.int .i64 y) := by
          intro h0
          have : k - 1 < xs.length := by rw [Hn.out]; omega
          exact ⟨xs[k-1], by simp, hcell _ _ (by simp)⟩
        clear hcell
        have hltI : (k : Int) < (n : Int) := by omega
        by_cases h1 : x < 1 ∨ 16 < x
        · clear hlast
          go_wp2
          go_quiet ((go_at_call 17; exact quiet (l1In_no _ _ _ _ (by omega))))
          go_wp2
          go_ret
          exact ⟨ret_bool (isShape_false (k := k) (by rw [Hn.out]; exact hlt) (by rcases h1 with h | h <;> first | exact shapeAt_low Hx.out h | exact shapeAt_high Hx.out h)).symm, hd.trans (Drew.drewN _ _)⟩
        · by_cases h3 : k = 0
          · subst h3
            clear hlast
            rw [Nat.add_zero] at hc
            go_wp2
            go_quiet ((go_at_call 17; exact quiet (l1In_yes _ _ _ _ (by omega))))
            go_wp2
            go_roundw
            case rel => exact ⟨1, by omega, rfl, by intro j hj; obtain rfl : j = 0 := (by omega); exact shapeAt_zero Hx.out (by omega) (by omega), hd.trans (Drew.drewN _ _)⟩
            case measure => simp [intOf]; omega
          · obtain ⟨y, hy, hcy⟩ := hlast h3
            clear hlast
            have Hy := Lib.hid hy; clear hy
            have hk0 : 0 < k := by omega
            have q1 : (0 : Int) ≤ (k : Int) - 1 := by omega
            have q2 : (k : Int) - 1 < (n : Int) := by omega
            have q3 : IntKind.i64.wrap ((k : Int) - 1) = (k : Int) - 1 := IntWalk.i64_in _ (by omega)
            have q4 : ((k : Int) - 1).toNat = k - 1 := by omega
            by_cases h4 : y < x
            · have hin : 1 ≤ x ∧ x ≤ 16 := by omega
              go_wp2
              go_quiet ((go_at_call 17; exact quiet (l1In_yes _ _ _ _ hin)))
              clear q3 q4
              go_wp2
              go_ret
              exact ⟨ret_bool (isShape_false (k := k) (by rw [Hn.out]; exact hlt) (shapeAt_rise Hx.out Hy.out h3 h4)).symm, hd.trans (Drew.drewN _ _)⟩
            · have hin : 1 ≤ x ∧ x ≤ 16 := by omega
              go_wp2
              go_quiet ((go_at_call 17; exact quiet (l1In_yes _ _ _ _ hin)))
              clear q3 q4
              go_wp2
              go_roundw
              case rel => exact ⟨k + 1, by omega, by go_num, by
                intro j hj
                rcases Nat.lt_or_ge j k with h | h
                · exact HA.out j h
                · obtain rfl : j = k := by omega
                  exact shapeAt_next Hx.out Hy.out (by omega) (by omega) (by omega), hd.trans (Drew.drewN _ _)⟩
              case measure => simp [intOf]; omega
      · go_wp2
        go_ret
        exact ⟨ret_bool (by rw [isShape_true (by intro j hj; exact HA.out j (by rw [Hn.out] at hj; omega)), Hn.out]; simp; omega), hd⟩
theorem shape_bd {xs : List Int} (h : isShape xs = true) : xs.length ≤ 16 := by simp [isShape] at h; exact h.1
end Go.Proofs.Ytpjkhkoecgjjbaa

namespace Go.Proofs.Ytpjkhkoecgjjbaa
open Go.RowKit

def rowAt (t : List (List Int)) (i : Nat) : List Int := t.getD i []
def lastT (t : List (List Int)) : List Int := rowAt t (t.length - 1)
/-- the least number that may stand in the next place of the last row -/
def lowT (t : List (List Int)) : Int :=
  let l := if 0 < (lastT t).length then (lastT t).getD ((lastT t).length - 1) 0 else 0
  if 1 < t.length then max l ((rowAt t (t.length - 2)).getD (lastT t).length 0 + 1) else l
def fullT (shape : List Int) (t : List (List Int)) : Bool := t.length == 0 || decide (((lastT t).length : Int) = shape.getD (t.length - 1) 0)
def putT (t : List (List Int)) (x : Int) : List (List Int) := t.set (t.length - 1) (lastT t ++ [x])
def numsOf (lo n : Int) : List Int := (List.range (n - lo).toNat).map fun (i : Nat) => lo + (i : Int)
def tabs (shape : List Int) (n : Int) : Nat → List (List Int) → List (List (List Int))
  | 0, _ => []
  | f + 1, t => if fullT shape t = true then (if t.length = shape.length then [t] else tabs shape n f (t ++ [[]])) else (numsOf (lowT t) n).flatMap fun x => tabs shape n f (putT t x)
structure TOk (shape : List Int) (t : List (List Int)) : Prop where
  len : t.length ≤ shape.length
  full : ∀ i, i + 1 < t.length → ((rowAt t i).length : Int) = shape.getD i 0
  last : 0 < t.length → ((lastT t).length : Int) ≤ shape.getD (t.length - 1) 0
  low : ∀ row ∈ t, ∀ x ∈ row, 0 ≤ x ∧ x ≤ 7
/-- what is known of a shape -/
structure ShOk (shape : List Int) : Prop where
  few : shape.length ≤ 16
  pos : ∀ i, i < shape.length → 1 ≤ shape.getD i 0 ∧ shape.getD i 0 ≤ 16
  fall : ∀ i, i + 1 < shape.length → shape.getD (i + 1) 0 ≤ shape.getD i 0
theorem shOk_of {xs : List Int} (h : isShape xs = true) : ShOk xs := by
  unfold isShape at h
  simp only [Bool.and_eq_true, decide_eq_true_eq, List.all_eq_true, List.mem_range] at h
  refine ⟨h.1, fun i hi => ?_, fun i hi => ?_⟩
  · have h1 := h.2 i hi
    unfold shapeAt at h1
    simp only [Bool.and_eq_true, decide_eq_true_eq] at h1
    exact h1.1
  · have h1 := h.2 (i + 1) hi
    unfold shapeAt at h1
    simp only [Bool.and_eq_true, Bool.or_eq_true, decide_eq_true_eq] at h1
    rcases h1.2 with h2 | h2
    · simp at h2
    · exact h2
theorem TOk.nil (shape : List Int) : TOk shape [] := ⟨by simp, by simp, by simp, by simp⟩
theorem rowAt_some {t : List (List Int)} {i : Nat} (h : i < t.length) : t[i]? = some (rowAt t i) := by
  unfold rowAt
  rw [List.getD_eq_getElem?_getD, List.getElem?_eq_getElem h]
  rfl
theorem rowAt_mem {t : List (List Int)} {i : Nat} (h : i < t.length) : rowAt t i ∈ t := List.mem_of_getElem? (rowAt_some h)
theorem lastT_low {shape : List Int} {t : List (List Int)} (h : TOk shape t) : ∀ x ∈ lastT t, 0 ≤ x ∧ x ≤ 7 := fun x hx => by
  rcases Nat.eq_zero_or_pos t.length with h0 | h0
  · have : t = [] := List.eq_nil_of_length_eq_zero h0
    subst this
    simp [lastT, rowAt] at hx
  · exact h.low _ (rowAt_mem (i := t.length - 1) (by omega)) x hx
theorem getD_low {row : List Int} (h : ∀ x ∈ row, 0 ≤ x ∧ x ≤ 7) (i : Nat) : 0 ≤ row.getD i 0 ∧ row.getD i 0 ≤ 7 := by
  rw [List.getD_eq_getElem?_getD]
  cases hx : row[i]? with
  | none => simp
  | some x => exact h x (List.mem_of_getElem? hx)
theorem lowT_range {shape : List Int} {t : List (List Int)} (h : TOk shape t) : 0 ≤ lowT t ∧ lowT t ≤ 8 := by
  have h1 := getD_low (lastT_low h) ((lastT t).length - 1)
  unfold lowT
  simp only
  split
  · have h2 : 0 ≤ (rowAt t (t.length - 2)).getD (lastT t).length 0 ∧ (rowAt t (t.length - 2)).getD (lastT t).length 0 ≤ 7 := getD_low (h.low _ (rowAt_mem (by omega))) _
    split <;> omega
  · split <;> omega
theorem TOk.row {shape : List Int} {t : List (List Int)} (h : TOk shape t) (hs : ShOk shape) (hf : fullT shape t = true) (hl : t.length ≠ shape.length) : TOk shape (t ++ [[]]) := by
  have hlen := h.len
  unfold fullT at hf
  simp only [Bool.or_eq_true, beq_iff_eq, decide_eq_true_eq] at hf
  have hr : ∀ i, i < t.length → rowAt (t ++ [[]]) i = rowAt t i := fun i hi => by
    unfold rowAt
    rw [List.getD_eq_getElem?_getD, List.getD_eq_getElem?_getD, List.getElem?_append_left hi]
  refine ⟨by rw [List.length_append]; simp; omega, fun i hi => ?_, fun _ => ?_, fun row hrow x hx => ?_⟩
  · rw [List.length_append] at hi
    simp at hi
    rw [hr i (by omega)]
    rcases Nat.lt_or_ge (i + 1) t.length with h1 | h1
    · exact h.full i h1
    · obtain rfl : i = t.length - 1 := by omega
      rcases hf with h2 | h2
      · omega
      · exact h2
  · have e : lastT (t ++ [[]]) = [] := by
      unfold lastT rowAt
      rw [List.length_append, List.getD_eq_getElem?_getD]
      simp
    have e3 : (t ++ [[]]).length - 1 = t.length := by simp
    rw [e, e3]
    have := hs.pos t.length (by omega)
    show (0 : Int) ≤ _
    omega
  · rcases List.mem_append.1 hrow with h1 | h1
    · exact h.low row h1 x hx
    · rw [List.mem_singleton] at h1
      subst h1
      cases hx
theorem putT_length (t : List (List Int)) (x : Int) : (putT t x).length = t.length := by simp [putT]
theorem TOk.put {shape : List Int} {t : List (List Int)} {x : Int} (h : TOk shape t) (h0 : 0 < t.length) (hf : fullT shape t = false) (hx : 0 ≤ x ∧ x ≤ 7) : TOk shape (putT t x) := by
  unfold fullT at hf
  simp only [Bool.or_eq_false_iff, beq_eq_false_iff_ne, decide_eq_false_iff_not] at hf
  have hl := h.last h0
  have e1 : ∀ i, i + 1 < t.length → rowAt (putT t x) i = rowAt t i := fun i hi => by
    unfold rowAt putT
    rw [List.getD_eq_getElem?_getD, List.getD_eq_getElem?_getD, List.getElem?_set_ne (by omega)]
  have e2 : lastT (putT t x) = lastT t ++ [x] := by
    unfold lastT
    rw [putT_length]
    unfold rowAt putT
    rw [List.getD_eq_getElem?_getD, List.getElem?_set_self (by omega)]
    rfl
  refine ⟨by rw [putT_length]; exact h.len, fun i hi => ?_, fun _ => ?_, fun row hrow y hy => ?_⟩
  · rw [putT_length] at hi
    rw [e1 i hi]
    exact h.full i hi
  · rw [e2, putT_length, List.length_append]
    show (((lastT t).length + 1 : Nat) : Int) ≤ _
    omega
  · unfold putT at hrow
    rcases List.mem_or_eq_of_mem_set hrow with h1 | h1
    · exact h.low row h1 y hy
    · subst h1
      rcases List.mem_append.1 hy with h2 | h2
      · exact lastT_low h y h2
      · rw [List.mem_singleton] at h2
        subst h2
        exact hx
/-- how many steps are left at most -/
def leftT (shape : List Int) (t : List (List Int)) : Nat := (shape.length - t.length) * 17 + (16 - (lastT t).length)
theorem leftT_row {shape : List Int} {t : List (List Int)} (h : t.length < shape.length) (_hl : (lastT t).length ≤ 16) : leftT shape (t ++ [[]]) < leftT shape t := by
  have e : lastT (t ++ [[]]) = [] := by
    unfold lastT rowAt
    rw [List.length_append, List.getD_eq_getElem?_getD]
    simp
  unfold leftT
  rw [e, List.length_append]
  simp
  obtain ⟨k, hk⟩ : ∃ k, shape.length - t.length = k + 1 := ⟨shape.length - t.length - 1, by omega⟩
  rw [hk, show shape.length - (t.length + 1) = k by omega]
  omega
theorem leftT_put {shape : List Int} {t : List (List Int)} {x : Int} (h0 : 0 < t.length) (hl : (lastT t).length < 16) : leftT shape (putT t x) < leftT shape t := by
  have e2 : lastT (putT t x) = lastT t ++ [x] := by
    unfold lastT
    rw [putT_length]
    unfold rowAt putT
    rw [List.getD_eq_getElem?_getD, List.getElem?_set_self (by omega)]
    rfl
  unfold leftT
  rw [e2, putT_length, List.length_append]
  simp
  omega
end Go.Proofs.Ytpjkhkoecgjjbaa

namespace Go.Proofs.Ytpjkhkoecgjjbaa
open Go.RowKit

def smOk (xs : List Int) : Bool := isShape xs && decide (sumI xs ≤ 8)
theorem small_of_shape {xs : List Int} (h : isShape xs = true) : Small xs := by
  intro x hx
  obtain ⟨i, hi, rfl⟩ := List.mem_iff_getElem.1 hx
  have := (shOk_of h).pos i hi
  rw [List.getD_eq_getElem?_getD, List.getElem?_eq_getElem hi] at this
  simp at this
  omega

set_option maxHeartbeats 800000 in
theorem implSmall_any (a : Option Addr) (n c : Nat) (xs : List Int) (w : World) (hr : RI w a xs) (hn : xs.length = n) (hb : n ≤ 1048576) :
    Calls Try.prog 19 #[.slice a n c] w fun e w' => e = .returned (.bool (smOk xs)) ∧ Drew w w' := by
  have Hn := Lib.hid hn; clear hn
  cases hsh : isShape xs
  · have Hs := Lib.hid hsh; clear hsh
    go_enter Try.func19, Try.ntmps19
    go_wp2_with fail
    refine (is (implIsShape_any _ _ _ xs _ hr Hn.out (by omega)) Hs.out).mono ?_
    rintro e w1 ⟨rfl, hd⟩
    go_wp2
    go_ret
    exact ⟨ret_bool (by rw [smOk, Hs.out]; rfl), hd⟩
  · have Hsm := Lib.hid (small_of_shape hsh)
    have Hs := Lib.hid hsh; clear hsh
    obtain ⟨s, hs⟩ : ∃ s, sumI xs = s := ⟨_, rfl⟩
    have HS := Lib.hid hs; clear hs
    go_enter Try.func19, Try.ntmps19
    go_wp2_with fail
    refine (is (implIsShape_any _ _ _ xs _ hr Hn.out (by omega)) Hs.out).mono ?_
    rintro e w1 ⟨rfl, hd⟩
    go_wp2_with fail
    refine (isInt (sumImpl_any _ _ _ xs _ (hr.drew hd) Hn.out hb Hsm.out) HS.out).mono ?_
    rintro e w2 ⟨rfl, rfl⟩
    go_wp2
    go_ret
    exact ⟨ret_bool (by rw [smOk, Hs.out, HS.out]; rfl), hd⟩

/-- all shapes over one, with the numbers of their fillings -/
def lrOf (xs ys : List Int) : List (List Int × Int) := insAll (lrAll ys true zeros16 (pad16 xs)) []
def lrM (xs ys zs : List Int) : Int := if (smOk xs && smOk ys && isShape zs) = true then cntL zs (lrOf xs ys) else -1
theorem zeros16_getD (j : Nat) : zeros16.getD j 0 = 0 := zeros_getD 16 j
structure SmShape (xs : List Int) : Prop where
  few : xs.length ≤ 16
  each : ∀ x ∈ xs, 0 ≤ x ∧ x ≤ 8
  P0 : ∀ j, 0 ≤ (pad16 xs).getD j 0 ∧ (pad16 xs).getD j 0 ≤ 16
  PF : ∀ j, (pad16 xs).getD (j + 1) 0 ≤ (pad16 xs).getD j 0
  sum : 0 ≤ sumI xs ∧ sumI xs ≤ 8
  short : xs.length ≤ 8
theorem sum_ge_len : ∀ {xs : List Int}, (∀ x ∈ xs, 1 ≤ x) → (xs.length : Int) ≤ sumI xs ∧ ∀ x ∈ xs, x ≤ sumI xs
  | [], _ => ⟨by simp [sumI_nil], by simp⟩
  | x :: xs, h => by
    have h1 := h x (by simp)
    obtain ⟨h2, h3⟩ := sum_ge_len (xs := xs) fun y hy => h y (by simp [hy])
    rw [sumI_cons, List.length_cons]
    refine ⟨by omega, fun y hy => ?_⟩
    rcases List.mem_cons.1 hy with rfl | hy
    · omega
    · have := h3 y hy; omega
theorem smShape {xs : List Int} (h : smOk xs = true) : SmShape xs := by
  unfold smOk at h
  simp only [Bool.and_eq_true, decide_eq_true_eq] at h
  have hs := shOk_of h.1
  have hpos : ∀ x ∈ xs, 1 ≤ x ∧ x ≤ 16 := by
    intro x hx
    obtain ⟨i, hi, rfl⟩ := List.mem_iff_getElem.1 hx
    have := hs.pos i hi
    rw [List.getD_eq_getElem?_getD, List.getElem?_eq_getElem hi] at this
    simpa using this
  obtain ⟨h2, h3⟩ := sum_ge_len fun x hx => (hpos x hx).1
  have hz : ∀ j, xs.length ≤ j → xs.getD j 0 = 0 := fun j hj => by rw [List.getD_eq_getElem?_getD, List.getElem?_eq_none hj]; rfl
  refine ⟨hs.few, fun x hx => by have := hpos x hx; have := h3 x hx; omega, fun j => ?_, fun j => ?_, by omega, by omega⟩
  · rw [pad16_getD]
    rcases Nat.lt_or_ge j xs.length with hj | hj
    · have := hs.pos j hj; omega
    · rw [hz j hj]; omega
  · rw [pad16_getD, pad16_getD]
    rcases Nat.lt_or_ge (j + 1) xs.length with hj | hj
    · exact hs.fall j hj
    · rw [hz _ hj]
      rcases Nat.lt_or_ge j xs.length with hj2 | hj2
      · have := hs.pos j hj2; omega
      · rw [hz j hj2]; omega
theorem lr_big {ys : List Int} (h : SmShape ys) (first : Bool) (last P : List Int) : (lrAll ys first last P).length ≤ 4294967296 := by
  have h1 := lrAll_len ys first last P fun x hx => (h.each x hx).1
  have h2 : 16 ^ (sumI ys).toNat ≤ 16 ^ 8 := Nat.pow_le_pow_right (by omega) (by have := h.sum; omega)
  have h3 : (16 : Nat) ^ 8 = 4294967296 := by rfl
  omega
theorem smShL {xs : List Int} (h : SmShape xs) : ShL zeros16 (pad16 xs) :=
  ⟨pad16_length h.few, by simp [zeros16], fun j => by rw [zeros16_getD]; omega, h.P0, h.PF⟩
theorem lrOf_good {xs ys : List Int} (hx : smOk xs = true) (hy : smOk ys = true) : GoodL 4294967296 (lrOf xs ys) := by
  have h1 := GoodL.nil.all (D := lrAll ys true zeros16 (pad16 xs)) (lrAll_mem ys true zeros16 (pad16 xs) (pad16_length (smShape hx).few))
  have h2 := lr_big (smShape hy) true zeros16 (pad16 xs)
  exact ⟨h1.asc, by have := h1.len; unfold lrOf; omega, fun p hp => by have := h1.each p hp; omega⟩
theorem cntL_take {v : List Int} : ∀ {xs : List (List Int × Int)} {k : Nat}, (∀ j p, j < k → xs[j]? = some p → p.1 ≠ v) → cntL v xs = cntL v (xs.drop k)
  | [], k, _ => by simp
  | p :: xs, 0, _ => rfl
  | p :: xs, k + 1, h => by
    rw [cntL, if_neg (h 0 p (by omega) rfl), List.drop_succ_cons]
    exact cntL_take fun j q hj hq => h (j + 1) q (by omega) (by simpa using hq)
theorem cntL_at {v : List Int} {xs : List (List Int × Int)} {k : Nat} {p : List Int × Int} (h : ∀ j p, j < k → xs[j]? = some p → p.1 ≠ v) (hp : xs[k]? = some p) (he : p.1 = v) : cntL v xs = p.2 := by
  obtain ⟨hk, rfl⟩ := List.getElem?_eq_some_iff.1 hp
  rw [cntL_take h, List.drop_eq_getElem_cons hk, cntL, if_pos he]
theorem cntL_none {v : List Int} {xs : List (List Int × Int)} (h : ∀ j p, j < xs.length → xs[j]? = some p → p.1 ≠ v) : cntL v xs = 0 := by
  rw [cntL_take h, List.drop_of_length_le (Nat.le_refl _)]
  rfl

set_option maxHeartbeats 800000 in
theorem specSmall_any (a : Option Addr) (n c : Nat) (xs : List Int) (w : World) (hr : RI w a xs) (hn : xs.length = n) (hb : n ≤ 1048576) :
    Calls Try.prog 36 #[.slice a n c] w fun e w' => e = .returned (.bool (smOk xs)) ∧ Drew w w' := by
  have Hn := Lib.hid hn; clear hn
  cases hsh : isShape xs
  · have Hs := Lib.hid hsh; clear hsh
    go_enter Try.func36, Try.ntmps36
    go_wp2_with fail
    refine (is (specIsShape_any _ _ _ xs _ hr Hn.out (by omega)) Hs.out).mono ?_
    rintro e w1 ⟨rfl, hd⟩
    go_wp2
    go_ret
    exact ⟨ret_bool (by rw [smOk, Hs.out]; rfl), hd⟩
  · have Hsm := Lib.hid (small_of_shape hsh)
    have Hs := Lib.hid hsh; clear hsh
    obtain ⟨s, hs⟩ : ∃ s, sumI xs = s := ⟨_, rfl⟩
    have HS := Lib.hid hs; clear hs
    go_enter Try.func36, Try.ntmps36
    go_wp2_with fail
    refine (is (specIsShape_any _ _ _ xs _ hr Hn.out (by omega)) Hs.out).mono ?_
    rintro e w1 ⟨rfl, hd⟩
    go_wp2_with fail
    refine (isInt (l1Sum_any _ _ _ xs _ (hr.drew hd) Hn.out hb Hsm.out) HS.out).mono ?_
    rintro e w2 ⟨rfl, rfl⟩
    go_wp2
    go_ret
    exact ⟨ret_bool (by rw [smOk, Hs.out, HS.out]; rfl), hd⟩

set_option maxHeartbeats 3200000 in
theorem l4Product_any (a : Option Addr) (n c : Nat) (xs : List Int) (b : Option Addr) (m d : Nat) (ys : List Int) (w : World) (hr : RI w a xs) (hn : xs.length = n) (hnc : n ≤ c) (hr2 : RI w b ys) (hm : ys.length = m) (hx : smOk xs = true) (hy : smOk ys = true) :
    Calls Try.prog 37 #[.slice a n c, .slice b m d, .int .i64 16, .int .i64 16] w fun e w' => ∃ a' n' c', e = .returned (.slice a' n' c') ∧ Hid (RP w' a' (lrOf xs ys) ∧ (lrOf xs ys).length = n') ∧ Below w.heap.size w w' := by
  have hsx := smShape hx
  have hsy := smShape hy
  have hmk := mk16
  obtain ⟨cz, hcz⟩ : ∃ cz, madeCells #[.int .i64 0] 16 = cz := ⟨_, rfl⟩
  have hmz := fun w => made16 w
  rw [hcz] at hmz
  simp only [hcz] at hmk
  have hb1 : Below w.heap.size w (w.alloc (.cells cz 3)) := (Below.refl _ _).alloc (Nat.le_refl _) _
  have HC := Lib.hid ((lr_both ys ((ys.length - 0) * 18 + 18)).2 0 0 [] xs zeros16 a b (some ⟨w.heap.size, 0, none⟩) none n c m d 16 0 0 (w.alloc (.cells cz 3)) (by omega)
    ⟨hr.below hb1, hn, by have := hsx.few; omega, hr2.below hb1, hm, by have := hsy.few; omega, hsy.each, OS.ri (hmz w), Nat.le_refl _, .inl rfl, rfl, GoodL.nil, by have := lr_big hsy true zeros16 (pad16 xs); simpa using this⟩ (smShL hsx) (Nat.zero_le _) hnc)
  have HB1 := Lib.hid hb1
  have hs1 := hb1.size
  clear hsx hsy hcz hmz hr hn hr2 hm hx hy hb1
  go_enter Try.func37, Try.ntmps37
  go_wp2_with fail
  refine HC.out.mono ?_
  rintro e w1 ⟨a1, n1, c1, rfl, h1, hb2⟩
  have H1 := Lib.hid h1.out
  have HB2 := Lib.hid (HB1.out.trans (hb2.mono hs1))
  clear h1 hb2
  go_wp2
  go_ret
  exact ⟨_, _, _, rfl, H1, HB2.out⟩

set_option maxRecDepth 100000 in
set_option maxHeartbeats 1600000 in
theorem l4CountIn_any (a : Option Addr) (n c : Nat) (xs : List (List Int × Int)) (b : Option Addr) (m d : Nat) (v : List Int) (w : World) (hr : RP w a xs) (hn : xs.length = n) (hb : n ≤ 4294967296) (hsh : ∀ p ∈ xs, p.1.length ≤ 16) (hrv : RI w b v) (hm : v.length = m) (_hmb : m ≤ 1048576) :
    Calls Try.prog 27 #[.slice a n c, .slice b m d] w fun e w' => e = .returned (.int .i64 (cntL v xs)) ∧ Drew w w' := by
  have Hn := Lib.hid hn; clear hn
  have Hm := Lib.hid hm; clear hm
  have Hsh := Lib.hid hsh; clear hsh
  go_enter Try.func27, Try.ntmps27
  go_wp2
  go_loopw [5] (fun iv wr => Hid (∃ i : Nat, i ≤ n ∧ iv = .int .i64 i ∧ ∀ j p, j < i → xs[j]? = some p → p.1 ≠ v) ∧ Drew w wr) (fun iv _ => n - (intOf iv).toNat)
  case atStart => exact ⟨⟨0, Nat.zero_le _, rfl, fun j p hj => by omega⟩, Drew.refl _⟩
  case round =>
    obtain ⟨HV, hd⟩ := hrel
    obtain ⟨wo, rfl⟩ : ∃ wo : World, wo = wr := ⟨_, rfl⟩
    obtain ⟨i, hi, rfl, hA⟩ := HV.out
    have HA := Lib.hid hA
    clear HV hA
    by_cases hlt : i < n
    · have hltI : (i : Int) < (n : Int) := by omega
      obtain ⟨s, y, hx⟩ := part_at Hn.out hlt
      obtain ⟨bb, off, rfl, hcell⟩ := (hr.below (hd.below _)).at (k := i) (by rw [Hn.out]; exact hlt)
      obtain ⟨a2, c2, p1, p2, hri, _⟩ := hcell i _ hx
      simp only at p1 p2 hri
      have hsl : s.length ≤ 16 := Hsh.out (s, y) (List.mem_of_getElem? hx)
      obtain ⟨sl, hl⟩ : ∃ sl, s.length = sl := ⟨_, rfl⟩
      rw [hl] at p1 hsl
      have Hl := Lib.hid hl
      have Hx := Lib.hid hx
      clear hcell hx hl
      by_cases he : s = v
      · have Hs := Lib.hid (show decide (s = v) = true by simp [he])
        have HR := Lib.hid (show cntL v xs = y from cntL_at (k := i) HA.out Hx.out he)
        clear he
        go_wp2_with fail
        refine (is (l1Same_any _ _ _ _ _ _ s v _ hri (hrv.drew hd) Hl.out Hm.out (by omega)) Hs.out).mono ?_
        rintro e w1 ⟨rfl, hd1⟩
        have p3 : w1.cell? ⟨bb, off + i * 2 + 1, none⟩ = some (.int .i64 y) := by rw [hd1.cell]; exact p2
        clear p1 p2
        go_wp2
        go_ret
        exact ⟨ret_int HR.out.symm, hd.trans hd1⟩
      · have Hs := Lib.hid (show decide (s = v) = false by simp [he])
        have He := Lib.hid he
        clear he
        go_wp2_with fail
        refine (is (l1Same_any _ _ _ _ _ _ s v _ hri (hrv.drew hd) Hl.out Hm.out (by omega)) Hs.out).mono ?_
        rintro e w1 ⟨rfl, hd1⟩
        clear p1 p2
        go_wp2
        go_roundw
        case rel => exact ⟨⟨i + 1, by omega, by go_num, fun j p hj hp => by
          rcases Nat.lt_or_ge j i with h | h
          · exact HA.out j p h hp
          · obtain rfl : j = i := by omega
            rw [Hx.out] at hp
            rw [← Option.some.inj hp]
            exact He.out⟩, hd.trans hd1⟩
        case measure => simp [intOf]; omega
    · obtain rfl : i = n := by omega
      have hltI : ¬ (i : Int) < (i : Int) := by omega
      have HR := Lib.hid (show cntL v xs = 0 from cntL_none fun j p hj => HA.out j p (by rw [← Hn.out]; exact hj))
      go_wp2
      go_ret
      exact ⟨ret_int HR.out.symm, hd⟩

def ProdPost (w : World) (xs ys : List Int) (e : Ending) (w' : World) : Prop :=
  ∃ a' n' c' r, e = .returned (.tuple #[.slice a' n' c', .bool r]) ∧ Hid (r = (smOk xs && smOk ys)) ∧ Hid (r = true → RP w' a' (lrOf xs ys) ∧ (lrOf xs ys).length = n') ∧ Below w.heap.size w w'
set_option maxHeartbeats 1600000 in
theorem specProd_any (a : Option Addr) (n c : Nat) (xs : List Int) (b : Option Addr) (m d : Nat) (ys : List Int) (w : World) (hr : RI w a xs) (hn : xs.length = n) (hb : n ≤ 1048576) (hnc : n ≤ c) (hr2 : RI w b ys) (hm : ys.length = m) (hmb : m ≤ 1048576) :
    Calls Try.prog 26 #[.slice a n c, .slice b m d] w (ProdPost w xs ys) := by
  have Hn := Lib.hid hn; clear hn
  have Hm := Lib.hid hm; clear hm
  cases hx : smOk xs
  · have Hx := Lib.hid hx; clear hx
    go_enter Try.func26, Try.ntmps26
    go_wp2_with fail
    refine (is (specSmall_any _ _ _ xs _ hr Hn.out hb) Hx.out).mono ?_
    rintro e w1 ⟨rfl, hd⟩
    go_wp2
    go_ret2
    exact ⟨none, 0, 0, false, rfl, Lib.hid (by rw [Hx.out]; rfl), Lib.hid (fun h => by cases h), hd.below _⟩
  · cases hy : smOk ys
    · have Hx := Lib.hid hx; clear hx
      have Hy := Lib.hid hy; clear hy
      go_enter Try.func26, Try.ntmps26
      go_wp2_with fail
      refine (is (specSmall_any _ _ _ xs _ hr Hn.out hb) Hx.out).mono ?_
      rintro e w1 ⟨rfl, hd⟩
      go_wp2_with fail
      refine (is (specSmall_any _ _ _ ys _ (hr2.drew hd) Hm.out hmb) Hy.out).mono ?_
      rintro e w2 ⟨rfl, hd2⟩
      go_wp2
      go_ret2
      exact ⟨none, 0, 0, false, rfl, Lib.hid (by rw [Hx.out, Hy.out]; rfl), Lib.hid (fun h => by cases h), (hd.trans hd2).below _⟩
    · have Hx := Lib.hid hx; clear hx
      have Hy := Lib.hid hy; clear hy
      go_enter Try.func26, Try.ntmps26
      go_wp2_with fail
      refine (is (specSmall_any _ _ _ xs _ hr Hn.out hb) Hx.out).mono ?_
      rintro e w1 ⟨rfl, hd⟩
      go_wp2_with fail
      refine (is (specSmall_any _ _ _ ys _ (hr2.drew hd) Hm.out hmb) Hy.out).mono ?_
      rintro e w2 ⟨rfl, hd2⟩
      go_wp2_with fail
      refine (l4Product_any _ _ _ xs _ _ _ ys _ (hr.drew (hd.trans hd2)) Hn.out hnc (hr2.drew (hd.trans hd2)) Hm.out Hx.out Hy.out).mono ?_
      rintro e w3 ⟨a3, n3, c3, rfl, h3, hb3⟩
      have H3 := Lib.hid h3.out
      have HB3 := Lib.hid (((hd.trans hd2).below w.heap.size).trans (hb3.mono ((hd.trans hd2).below w.heap.size).size))
      clear h3 hb3
      go_wp2
      go_ret2
      exact ⟨a3, n3, c3, true, rfl, Lib.hid (by rw [Hx.out, Hy.out]; rfl), Lib.hid (fun _ => H3.out), HB3.out⟩
set_option maxHeartbeats 1600000 in
theorem specLr_any (a : Option Addr) (n c : Nat) (xs : List Int) (b : Option Addr) (m d : Nat) (ys : List Int) (a2 : Option Addr) (l f : Nat) (zs : List Int) (w : World) (hr : RI w a xs) (hn : xs.length = n) (hb : n ≤ 1048576) (hnc : n ≤ c) (hr2 : RI w b ys) (hm : ys.length = m) (hmb : m ≤ 1048576) (_hmd : m ≤ d) (hr3 : RI w a2 zs) (hl : zs.length = l) (hlb : l ≤ 1048576) :
    Calls Try.prog 13 #[.slice a n c, .slice b m d, .slice a2 l f] w fun e w' => e = .returned (.int .i64 (lrM xs ys zs)) ∧ Below w.heap.size w w' := by
  have Hn := Lib.hid hn; clear hn
  have Hm := Lib.hid hm; clear hm
  have Hl := Lib.hid hl; clear hl
  cases hxy : smOk xs && smOk ys
  · have Hxy := Lib.hid (show lrM xs ys zs = -1 by unfold lrM; rw [hxy]; rfl)
    have HX := Lib.hid hxy; clear hxy
    go_enter Try.func13, Try.ntmps13
    go_wp2_with fail
    refine (specProd_any _ _ _ xs _ _ _ ys _ hr Hn.out hb hnc hr2 Hm.out hmb).mono ?_
    rintro e w1 ⟨a1, n1, c1, r1, rfl, h1, _, hb1⟩
    obtain rfl : r1 = false := by rw [h1.out]; exact HX.out
    clear h1
    go_wp2
    go_ret
    exact ⟨ret_int Hxy.out.symm, hb1⟩
  · have HG := Lib.hid (by simp only [Bool.and_eq_true] at hxy; exact lrOf_good hxy.1 hxy.2 : GoodL 4294967296 (lrOf xs ys))
    cases hz : isShape zs
    · have Hxy := Lib.hid (show lrM xs ys zs = -1 by unfold lrM; rw [hxy, hz]; rfl)
      have HX := Lib.hid hxy; clear hxy
      have HZ := Lib.hid hz; clear hz
      go_enter Try.func13, Try.ntmps13
      go_wp2_with fail
      refine (specProd_any _ _ _ xs _ _ _ ys _ hr Hn.out hb hnc hr2 Hm.out hmb).mono ?_
      rintro e w1 ⟨a1, n1, c1, r1, rfl, h1, _, hb1⟩
      obtain rfl : r1 = true := by rw [h1.out]; exact HX.out
      clear h1
      go_wp2_with fail
      refine (is (specIsShape_any _ _ _ zs _ (hr3.below hb1) Hl.out (by omega)) HZ.out).mono ?_
      rintro e w2 ⟨rfl, hd⟩
      go_wp2
      go_ret
      exact ⟨ret_int Hxy.out.symm, hb1.trans (hd.below _)⟩
    · have Hxy := Lib.hid (show lrM xs ys zs = cntL zs (lrOf xs ys) by unfold lrM; rw [hxy, hz]; rfl)
      have HX := Lib.hid hxy; clear hxy
      have HZ := Lib.hid hz; clear hz
      go_enter Try.func13, Try.ntmps13
      go_wp2_with fail
      refine (specProd_any _ _ _ xs _ _ _ ys _ hr Hn.out hb hnc hr2 Hm.out hmb).mono ?_
      rintro e w1 ⟨a1, n1, c1, r1, rfl, h1, h2, hb1⟩
      obtain rfl : r1 = true := by rw [h1.out]; exact HX.out
      have HR := Lib.hid (h2.out rfl).1
      have HRn := Lib.hid (h2.out rfl).2
      have hn1 : n1 ≤ 4294967296 := by rw [← HRn.out]; exact HG.out.len
      clear h1 h2
      go_wp2_with fail
      refine (is (specIsShape_any _ _ _ zs _ (hr3.below hb1) Hl.out (by omega)) HZ.out).mono ?_
      rintro e w2 ⟨rfl, hd⟩
      have HC := Lib.hid (l4CountIn_any a1 n1 c1 (lrOf xs ys) a2 l f zs w2 (HR.out.below (hd.below _)) HRn.out hn1 (fun p hp => (HG.out.each p hp).2.2) ((hr3.below hb1).below (hd.below _)) Hl.out hlb)
      obtain ⟨q, hq⟩ : ∃ q, cntL zs (lrOf xs ys) = q := ⟨_, rfl⟩
      rw [hq] at HC Hxy
      clear hq HR HRn
      go_wp2_with fail
      refine HC.out.mono ?_
      rintro e w3 ⟨rfl, hd3⟩
      go_wp2
      go_ret
      exact ⟨ret_int Hxy.out.symm, hb1.trans ((hd.trans hd3).below _)⟩
end Go.Proofs.Ytpjkhkoecgjjbaa

namespace Go.Proofs.Ytpjkhkoecgjjbaa
open Go.RowKit

theorem undIntZ : Try.prog.underlying 3 = some (.int .i64) := by kernel_rfl
def zs (k : Nat) : List Value := List.replicate k (Value.int .i64 0)
theorem zerosZ (k : Nat) : Builtin.zeroCells (Value.cells (.int .i64 0)) k = (zs k).toArray := by
  apply Array.ext'
  apply List.ext_getElem?
  intro j
  simp only [Builtin.zeroCells, zs, Value.cells]
  simp [List.getElem?_replicate]
  by_cases h : j < k <;> simp [h, Nat.mod_one]
theorem zs_ints (k : Nat) : ints (List.replicate k 0) = zs k := by simp [ints, zs]
theorem zs_one (k : Nat) : ∀ u ∈ zs k, u.oneCell' = true := fun u hu => by rw [List.eq_of_mem_replicate hu]; rfl
section
variable {w : World} {ty : TypeId} {k : Nat} (hk : 0 < k) (hk2 : k ≤ 1000)
include hk hk2
theorem run_appZ_room {g n c : Nat} {cur : Array Value} (hg : w.heap[g]? = some (.cells cur 3 (0, 0))) (hroom : n + k ≤ c) (hcs : cur.size = c) :
    (Builtin.append_ #[22, 3] ty #[.slice (some ⟨g, 0, none⟩) n c, .int .i64 (k : Int)]).run Try.prog w = .ok (.slice (some ⟨g, 0, none⟩) (n + k) c) (w.setRow g (cur.toList.take n ++ zs k ++ cur.toList.drop (n + k)).toArray) := by
  obtain ⟨i0, hi, hz, hz1, hz2⟩ := info_parts Try.info3
  have hwrap : IntKind.i64.wrap (k : Int) = (k : Int) := IntWalk.i64_in _ (by omega)
  have hneg : ¬ (k : Int) < 0 := by omega
  have h48 : ¬ (281474976710656 : Int) < (k : Int) * 8 := by omega
  have hk0 : ¬ k = 0 := by omega
  have hst := run_storeCells_at Try.prog g n 3 (zs k) 0 cur w hg (by simp [zs]; omega) (zs_one k)
  have hl : (zs k).length = k := by simp [zs]
  simp only [Nat.add_zero, hl] at hst
  simp [Builtin.append_, run_underlying undIntZ, run_underlying Try.underlying22, sizeOf, typeInfo, zeroValue, hi, hz, hz1, hz2, hroom, Addr.add_lit, hst, hwrap, hneg, h48, hk0, zerosZ, asInt, asIntOf]
theorem run_appZ_grow {g n c : Nat} {xs : List Value} (hxl : xs.length = n) (holds : ∀ j v, xs[j]? = some v → w.cell? ((⟨g, 0, none⟩ : Addr).add j) = some v) (hroom : ¬ n + k ≤ c) (hn : n ≤ 1000) (_hc : c ≤ 1000) :
    (Builtin.append_ #[22, 3] ty #[.slice (some ⟨g, 0, none⟩) n c, .int .i64 (k : Int)]).run Try.prog w = .ok (.slice (some ⟨w.heap.size, 0, none⟩) (n + k) (grownCap w (n + k) c 3))
      (w.drew.alloc (.cells (xs.toArray ++ (zs k).toArray ++ Builtin.zeroCells (Value.cells (.int .i64 0)) (grownCap w (n + k) c 3 - (n + k))) 3)) := by
  obtain ⟨i0, hi, hz, hz1, hz2⟩ := info_parts Try.info3
  have hwrap : IntKind.i64.wrap (k : Int) = (k : Int) := IntWalk.i64_in _ (by omega)
  have hneg : ¬ (k : Int) < 0 := by omega
  have h48 : ¬ (281474976710656 : Int) < (k : Int) * 8 := by omega
  have hk0 : ¬ k = 0 := by omega
  have hfo := run_firstCells_some (P := Try.prog) w.drew 1 n ⟨g, 0, none⟩ n c xs (by omega) (by simpa using holds)
  have h63' : ¬ (9223372036854775807 < ((n : Int) + (k : Int))) := by omega
  have h48' : ¬ (281474976710656 < Builtin.nextslicecap (n + k) c * 8) := by have := growslice_fits (need := n + k) (old := c) (bytes := 8) (by omega) (by omega); omega
  simp [Builtin.append_, run_underlying undIntZ, run_underlying Try.underlying22, sizeOf, typeInfo, zeroValue, hi, hz, hz1, hz2, hroom, hwrap, hneg, h48, hk0, zerosZ, asInt, asIntOf, h63', h48', Question.forced, hfo, newRow, grownCap]
end
theorem run_appZ {w : World} {ty : TypeId} {B S : Nat} {a : Option Addr} {n c : Nat} {xs : List Int} (hown : OwI w B S a n c xs) (k : Nat) (hn0 : 0 < n) (hk : 0 < k) (hn : n + k ≤ 1000) (hbase : B ≤ w.heap.size) :
    ∃ a' c' w', (Builtin.append_ #[22, 3] ty #[.slice a n c, .int .i64 (k : Int)]).run Try.prog w = .ok (.slice a' (n + k) c') w' ∧ OwI w' B w'.heap.size a' (n + k) c' (xs ++ List.replicate k 0) ∧ w.grownBy w' (Value.slice a n c).ownBlock := by
  have hown1 := hown.1.own
  have hxl : (ints xs).length = n := by rw [hown1.1, Nat.mul_one]
  have hlz : (zs k).length = k := by simp [zs]
  have hlen : (ints xs ++ zs k).length = (n + k) * 1 := by simp [hxl, hlz]
  have e0 : ints (xs ++ List.replicate k 0) = ints xs ++ zs k := by rw [← zs_ints]; simp [ints]
  rcases hown1.2 with ⟨h0, _⟩ | ⟨g, cap, cur, hv, hbg, hg, hnc, hcm, hcs, htake⟩
  · simp only [Value.slice.injEq] at h0
    omega
  · simp only [Value.slice.injEq] at hv
    obtain ⟨rfl, _, rfl⟩ := hv
    rw [Nat.mul_one] at hcs htake
    by_cases hroom : n + k ≤ c
    · refine ⟨_, _, _, run_appZ_room hk (by omega) hg hroom hcs, OwI.mk ?_, ⟨rfl, rfl, rfl, by simp, fun j _ hj => setRow_other w g j _ (fun e => hj (by simp [Value.ownBlock, e]))⟩⟩
      rw [e0]
      refine ⟨hlen, .inr ⟨g, c, _, rfl, hbg, setRow_heap w g cur _ 3 _ hg, hroom, hcm, ?_, ?_⟩⟩
      · simp only [List.size_toArray, List.length_append, List.length_take, List.length_drop, Array.length_toList, hlz]
        omega
      · rw [htake, ← hlen]
        exact List.take_left
    · have holds : ∀ j u, (ints xs)[j]? = some u → w.cell? ((⟨g, 0, none⟩ : Addr).add j) = some u := hown1.cells (g := g) rfl
      have hge := grownCap_ge w (n + k) c 3
      have hcm2 : grownCap w (n + k) c 3 ≤ maxLen := grownCap_le_maxLen w (n + k) c 3 (by unfold maxLen; omega)
      refine ⟨_, _, _, run_appZ_grow hk (by omega) hxl holds hroom (by omega) (by omega), OwI.mk ?_, ⟨rfl, rfl, rfl, by simp, fun j hj _ => heap_alloc_old w.drew _ (by simpa using hj)⟩⟩
      rw [e0]
      refine ⟨hlen, .inr ⟨w.heap.size, _, _, rfl, hbase, heap_alloc_new w.drew _, hge, hcm2, ?_, ?_⟩⟩
      · simp only [Array.size_append, List.size_toArray, size_zeroCells, hxl, hlz]
        simp [Value.cells]
        omega
      · simp only [Array.toList_append, List.append_assoc]
        rw [← List.append_assoc, ← hlen]
        exact List.take_left
theorem wpList_appZ {w : World} {ops : Array Oper} {rest : List Oper} {o : Oper} {ac : Act} {Q : Exit → Act → World → Prop} (hgd : o.guard = none) (s x : Operand)
    (ho : o.op = .call { callee := .builtin .append, args := #[s, x], argTypes := #[22, 3] })
    {B S : Nat} {a : Option Addr} {n c : Nat} {xs : List Int} (hown : OwI w B S a n c xs) (hs : ac.eval s = .slice a n c) {k : Nat} (hx : ac.eval x = .int .i64 (k : Int)) (hn0 : 0 < n) (hk : 0 < k) (hn : n + k ≤ 1000) (hbase : B ≤ w.heap.size)
    (h : ∀ a' c' w', OwI w' B w'.heap.size a' (n + k) c' (xs ++ List.replicate k 0) → w.grownBy w' (Value.slice a n c).ownBlock → wpList Try.prog ops Q rest (ac.put o.dst (.slice a' (n + k) c')) w') :
    wpList Try.prog ops Q (o :: rest) ac w :=
  wpList_plain hgd fun _ hK => by
    obtain ⟨a', c', w', hr, h2, h3⟩ := run_appZ (ty := o.type) hown k hn0 hk hn hbase
    unfold Oper.wp execOp
    simp only [ho, resolve, invoke, builtin, Sem.run_bind, Sem.run_pure, Result.andThen_ok, List.map_toArray, List.map_cons, List.map_nil, hs, hx, hr]
    exact hK _ _ (h a' c' w' h2 h3)
end Go.Proofs.Ytpjkhkoecgjjbaa
