/-
  Contracts of l4Bare, shortened and shapeOfRows: a list without the zeros at its end.
  Sums; contract of l1Sum.
  Fillings over one shape, number by number and row by row, in the order of both searches. Plain.
  Ascending lists of shapes with counts; one shape counted. Plain.
  Shapes with zeros behind them; what is known when the reference fills on. Plain, and predicates.
-/
import Derived.Test.YtpjkhkoecgjjbaaBuL6
import Derived.Test.YtpjkhkoecgjjbaaBuL1
import Derived.Test.YtpjkhkoecgjjbaaBuL5
import Derived.Test.YtpjkhkoecgjjbaaBuL2
namespace Go.Proofs.Ytpjkhkoecgjjbaa
open Go.RowKit

/-- how many numbers are left before the zeros at the end of the first k -/
def bareLen (xs : List Int) : Nat → Nat
  | 0 => 0
  | k + 1 => if xs.getD k 0 = 0 then bareLen xs k else k + 1
def bare (xs : List Int) : List Int := xs.take (bareLen xs xs.length)
theorem bareLen_le (xs : List Int) (k : Nat) : bareLen xs k ≤ k := by
  induction k with
  | zero => exact Nat.le_refl _
  | succ k ih => unfold bareLen; split <;> omega
theorem bare_length (xs : List Int) : (bare xs).length ≤ xs.length := by
  unfold bare; rw [List.length_take]; omega
theorem OwI.taken {w : World} {B S : Nat} {a : Option Addr} {n c : Nat} {xs : List Int} (h : OwI w B S a n c xs) {k : Nat} (hk : k ≤ n) : OwI w B S a k c (xs.take k) := by
  refine ⟨OS.of ⟨?_, ?_⟩, fun j hj => h.2 j (by cases a with | none => simp [Value.ownBlock] at hj | some p => exact hj)⟩
  · have := h.len; simp [ints]; omega
  · rcases h.1.own.2 with ⟨h1, h2⟩ | ⟨g, cap, cur, hv, hg, hb, h3, h4, h5, h6⟩
    · simp only [Value.slice.injEq] at h1
      obtain ⟨rfl, rfl, rfl⟩ := h1
      obtain rfl : k = 0 := by omega
      exact .inl ⟨rfl, rfl⟩
    · simp only [Value.slice.injEq] at hv
      obtain ⟨rfl, _, rfl⟩ := hv
      refine .inr ⟨g, c, cur, rfl, hg, hb, by omega, h4, h5, ?_⟩
      simp only [Nat.mul_one] at h6 ⊢
      simp only [ints] at h6 ⊢
      rw [List.map_take]
      rw [← h6, List.take_take, Nat.min_eq_left hk]

set_option maxRecDepth 100000 in
set_option maxHeartbeats 800000 in
theorem shortened_any (a : Option Addr) (n c : Nat) (xs : List Int) (w : World) (hr : RI w a xs) (hn : xs.length = n) (hb : n ≤ 1048576) (hcap : n ≤ c) :
    Calls Try.prog 53 #[.slice a n c] w fun e w' => e = .returned (.slice a (bareLen xs n) c) ∧ w = w' := by
  have Hn := Lib.hid hn; clear hn
  go_enter Try.func53, Try.ntmps53
  go_wp2
  go_loop [3] (fun i => ∃ k : Nat, k ≤ n ∧ i = .int .i64 k ∧ Hid (bareLen xs n = bareLen xs k)) (fun i => (intOf i).toNat)
  case atStart => exact ⟨n, Nat.le_refl _, rfl, by exact rfl⟩
  case round =>
    obtain ⟨k, hk, rfl, HA⟩ := hrel
    rcases k with _ | k
    · have hk0 : ¬ (0 : Int) < ((0 : Nat) : Int) := by omega
      go_wp2
      go_ret
      exact ⟨by rw [HA.out]; rfl, rfl⟩
    · obtain ⟨b, off, rfl, hcell⟩ := hr.at (k := k) (by rw [Hn.out]; omega)
      obtain ⟨x, hx⟩ := some_at (k := k) Hn.out (by omega)
      have hc := hcell k x hx
      clear hcell
      have hst : bareLen xs (k + 1) = if x = 0 then bareLen xs k else k + 1 := by rw [bareLen, getD_of hx]
      clear hx
      have q0 : (0 : Int) < ((k + 1 : Nat) : Int) := by omega
      have q1 : IntKind.i64.wrap (((k + 1 : Nat) : Int) - 1) = (k : Int) := by rw [IntWalk.i64_in _ (by omega)]; omega
      have q2 : (k : Int) < (n : Int) := by omega
      have hkc : k + 1 ≤ c := by omega
      by_cases h0 : x = 0
      · rw [if_pos h0] at hst
        have Hst := Lib.hid hst; clear hst
        have h0b : (x == 0) = true := by simp [h0]
        go_wp2
        go_round
        case rel => exact ⟨k, by omega, by go_num, by rw [HA.out]; exact Hst.out⟩
        case measure => simp [intOf]
      · rw [if_neg h0] at hst
        have Hst := Lib.hid hst; clear hst
        have h0b : (x == 0) = false := by simp [h0]
        go_wp2
        go_ret
        exact ⟨by rw [HA.out, Hst.out]; rfl, rfl⟩

theorem RI.taken {w : World} {a : Option Addr} {xs : List Int} (h : RI w a xs) (k : Nat) : RI w a (xs.take k) := by
  rcases h with rfl | ⟨b, off, ha, hc⟩
  · exact .inl (by simp)
  · exact .inr ⟨b, off, ha, fun j y hy => hc j y (by
      rw [List.getElem?_take] at hy; split at hy
      · exact hy
      · cases hy)⟩
theorem shapeOfRows_any (B S : Nat) (a : Option Addr) (n c : Nat) (xs : List Int) (w : World) (ho : OwI w B S a n c xs) (hb : n ≤ 1048576) :
    Calls Try.prog 44 #[.slice a n c] w fun e w' => ∃ n', e = .returned (.slice a n' c) ∧ OwI w' B S a n' c (bare xs) ∧ w = w' := by
  have hl := ho.len
  have hres : OwI w B S a (bareLen xs n) c (bare xs) := by
    have := ho.taken (bareLen_le xs n)
    unfold bare; rw [hl]; exact this
  have hlt := ho.1.lt
  go_enter Try.func44, Try.ntmps44
  go_wp2_with fail
  refine (shortened_any _ _ _ xs _ ho.rd hl hb hlt).mono ?_
  rintro e w1 ⟨rfl, rfl⟩
  go_wp2
  go_ret
  exact ⟨_, rfl, hres, rfl⟩

set_option maxRecDepth 100000 in
set_option maxHeartbeats 800000 in
theorem l4Bare_any (a : Option Addr) (n c : Nat) (xs : List Int) (w : World) (hr : RI w a xs) (hn : xs.length = n) (hb : n ≤ 1048576) (hcap : n ≤ c) :
    Calls Try.prog 51 #[.slice a n c] w fun e w' => ∃ a' n' c', e = .returned (.slice a' n' c') ∧ OwI w' w.heap.size w'.heap.size a' n' c' (bare xs) ∧ Below w.heap.size w w' := by
  have Hn := Lib.hid hn; clear hn
  go_enter Try.func51, Try.ntmps51
  go_wp2
  go_loop [3] (fun i => ∃ k : Nat, k ≤ n ∧ i = .int .i64 k ∧ Hid (bareLen xs n = bareLen xs k)) (fun i => (intOf i).toNat)
  case atStart => exact ⟨n, Nat.le_refl _, rfl, by exact rfl⟩
  case round =>
    obtain ⟨k, hk, rfl, HA⟩ := hrel
    have hrt := hr.taken k
    have hlt : (xs.take k).length = k := by rw [List.length_take, Hn.out]; omega
    rcases k with _ | k
    · have hk0 : ¬ (0 : Int) < ((0 : Nat) : Int) := by omega
      go_wp2_with fail
      refine (l1Ints_any _ _ _ (xs.take 0) _ hrt hlt (by omega)).mono ?_
      rintro e w1 ⟨a', c', rfl, ho, hb1⟩
      go_wp2
      go_ret
      exact ⟨_, _, _, rfl, by rw [bare, Hn.out, HA.out]; exact ho, hb1⟩
    · obtain ⟨b, off, rfl, hcell⟩ := hr.at (k := k) (by rw [Hn.out]; omega)
      obtain ⟨x, hx⟩ := some_at (k := k) Hn.out (by omega)
      have hc := hcell k x hx
      clear hcell
      have hst : bareLen xs (k + 1) = if x = 0 then bareLen xs k else k + 1 := by rw [bareLen, getD_of hx]
      clear hx
      have q0 : (0 : Int) < ((k + 1 : Nat) : Int) := by omega
      have q1 : IntKind.i64.wrap (((k + 1 : Nat) : Int) - 1) = (k : Int) := by rw [IntWalk.i64_in _ (by omega)]; omega
      have q2 : (k : Int) < (n : Int) := by omega
      have hkc : k + 1 ≤ c := by omega
      by_cases h0 : x = 0
      · rw [if_pos h0] at hst
        have Hst := Lib.hid hst; clear hst
        have h0b : (x == 0) = true := by simp [h0]
        go_wp2
        go_round
        case rel => exact ⟨k, by omega, by go_num, by rw [HA.out]; exact Hst.out⟩
        case measure => simp [intOf]
      · rw [if_neg h0] at hst
        have Hst := Lib.hid hst; clear hst
        have Hlt := Lib.hid hlt; clear hlt
        have h0b : (x == 0) = false := by simp [h0]
        go_wp2_with fail
        refine (l1Ints_any _ _ _ (xs.take (k + 1)) _ hrt Hlt.out (by omega)).mono ?_
        rintro e w1 ⟨a', c', rfl, ho, hb1⟩
        go_wp2
        go_ret
        exact ⟨_, _, _, rfl, by rw [bare, Hn.out, HA.out, Hst.out]; exact ho, hb1⟩
end Go.Proofs.Ytpjkhkoecgjjbaa

namespace Go.Proofs.Ytpjkhkoecgjjbaa
open Go.RowKit

def sumI (xs : List Int) : Int := xs.foldr (· + ·) 0
theorem sumI_nil : sumI [] = 0 := rfl
theorem sumI_cons (x : Int) (xs : List Int) : sumI (x :: xs) = x + sumI xs := rfl
theorem sumI_append (xs ys : List Int) : sumI (xs ++ ys) = sumI xs + sumI ys := by
  induction xs with
  | nil => simp [sumI_nil]
  | cons x xs ih => rw [List.cons_append, sumI_cons, sumI_cons, ih]; omega
theorem sumI_take {xs : List Int} {k : Nat} {x : Int} (h : xs[k]? = some x) : sumI (xs.take (k + 1)) = sumI (xs.take k) + x := by
  obtain ⟨hk, rfl⟩ := List.getElem?_eq_some_iff.1 h
  rw [List.take_succ_eq_append_getElem hk, sumI_append, sumI_cons, sumI_nil]; omega
/-- numbers so small that no sum of them wraps -/
def Small (xs : List Int) : Prop := ∀ x ∈ xs, -1048576 ≤ x ∧ x ≤ 1048576
theorem sumI_bd {xs : List Int} (h : Small xs) : -(1048576 * (xs.length : Int)) ≤ sumI xs ∧ sumI xs ≤ 1048576 * (xs.length : Int) := by
  induction xs with
  | nil => simp [sumI_nil]
  | cons x xs ih =>
    have h1 := h x (by simp)
    have h2 := ih (fun y hy => h y (by simp [hy]))
    rw [sumI_cons, List.length_cons]
    omega
theorem Small.take {xs : List Int} (h : Small xs) (k : Nat) : Small (xs.take k) := fun x hx => h x (List.mem_of_mem_take hx)
theorem Small.at {xs : List Int} (h : Small xs) {k : Nat} {x : Int} (hx : xs[k]? = some x) : -1048576 ≤ x ∧ x ≤ 1048576 := h x (List.mem_of_getElem? hx)

set_option maxHeartbeats 400000 in
theorem l1Sum_any (a : Option Addr) (n c : Nat) (xs : List Int) (w : World) (hr : RI w a xs) (hn : xs.length = n) (hb : n ≤ 1048576) (hs : Small xs) :
    Calls Try.prog 16 #[.slice a n c] w fun e w' => e = .returned (.int .i64 (sumI xs)) ∧ w = w' := by
  have Hn := Lib.hid hn; clear hn
  have HS := Lib.hid hs; clear hs
  go_enter Try.func16, Try.ntmps16
  go_wp2
  go_loop [3, 4] (fun s i => ∃ k : Nat, k ≤ n ∧ i = .int .i64 k ∧ s = .int .i64 (sumI (xs.take k))) (fun _ i => n - (intOf i).toNat)
  case atStart => exact ⟨0, Nat.zero_le _, rfl, rfl⟩
  case round =>
    obtain ⟨k, hk, rfl, rfl⟩ := hrel
    by_cases hlt : k < n
    · obtain ⟨b, off, rfl, hcell⟩ := hr.at (k := k) (by rw [Hn.out]; exact hlt)
      obtain ⟨x, hx⟩ := some_at Hn.out hlt
      have hc := hcell k x hx
      have hxb := HS.out.at hx
      have hsb := sumI_bd (HS.out.take k)
      have hst := Lib.hid (sumI_take hx)
      have hlk : (xs.take k).length = k := by rw [List.length_take, Hn.out]; omega
      rw [hlk] at hsb
      clear hcell hx hlk
      obtain ⟨s, hsv⟩ : ∃ s, sumI (xs.take k) = s := ⟨_, rfl⟩
      rw [hsv] at hsb ⊢
      have Hv := Lib.hid hsv; clear hsv
      go_wp2
      go_round
      case rel => exact ⟨k + 1, by omega, by go_num, by rw [hst.out, Hv.out]⟩
      case measure => simp [intOf]; omega
    · obtain rfl : k = n := by omega
      go_wp2
      go_ret
      exact ⟨ret_int (by rw [List.take_of_length_le (by rw [Hn.out]; omega)]), rfl⟩
end Go.Proofs.Ytpjkhkoecgjjbaa

namespace Go.Proofs.Ytpjkhkoecgjjbaa
open Go.RowKit

/-- how many of a number may be put into row r at most -/
def lrTop (first : Bool) (last P put : List Int) (r : Nat) (left : Int) : Int :=
  min (min left (16 - P.getD r 0)) (min (if first = true then left else sumI (last.take r) - sumI (put.take r)) (if r = 0 then left else P.getD (r - 1) 0 - put.getD (r - 1) 0 - P.getD r 0))
/-- k rows are left -/
def lrStrip (next : List Int → List Int → List (List Int)) (first : Bool) (last : List Int) : Nat → List Int → List Int → Int → List (List Int)
  | 0, P, put, left => if 0 < left then [] else next P put
  | k + 1, P, put, left => (List.range (lrTop first last P put (15 - k) left + 1).toNat).flatMap fun (n : Nat) => lrStrip next first last k (P.set (15 - k) (P.getD (15 - k) 0 + (n : Int))) (put.set (15 - k) (n : Int)) (left - (n : Int))
def zeros16 : List Int := List.replicate 16 0
def lrAll : List Int → Bool → List Int → List Int → List (List Int)
  | [], _, _, P => [P]
  | c :: rest, first, last, P => lrStrip (fun P put => lrAll rest false put P) first last 16 P zeros16 c
/-- what holds when k rows are left -/
structure LrOk (first : Bool) (last : List Int) (k : Nat) (P put : List Int) (left : Int) : Prop where
  k16 : k ≤ 16
  lP : P.length = 16
  lput : put.length = 16
  llast : last.length = 16
  left0 : 0 ≤ left
  left8 : left ≤ 8
  rest0 : ∀ j, 16 - k ≤ j → put.getD j 0 = 0
  put0 : ∀ j, 0 ≤ put.getD j 0 ∧ put.getD j 0 ≤ 8
  last0 : ∀ j, 0 ≤ last.getD j 0 ∧ last.getD j 0 ≤ 8
  P0 : ∀ j, 0 ≤ P.getD j 0 ∧ P.getD j 0 ≤ 16
  old0 : ∀ j, 0 ≤ P.getD j 0 - put.getD j 0
  oldF : ∀ j, P.getD (j + 1) 0 - put.getD (j + 1) 0 ≤ P.getD j 0 - put.getD j 0
  PF : ∀ j, P.getD (j + 1) 0 ≤ P.getD j 0
  und : first = false → sumI (put.take (16 - k)) ≤ sumI (last.take (16 - k))
theorem getD_set {xs : List Int} {i : Nat} (j : Nat) (x : Int) (h : i < xs.length) : (xs.set i x).getD j 0 = if j = i then x else xs.getD j 0 := by
  rw [List.getD_eq_getElem?_getD, List.getElem?_set, List.getD_eq_getElem?_getD]
  by_cases h1 : i = j
  · subst h1
    rw [if_pos rfl, if_pos h, if_pos rfl]
    rfl
  · rw [if_neg h1, if_neg (fun e => h1 e.symm)]
theorem sumI_take_getD (xs : List Int) (k : Nat) : sumI (xs.take (k + 1)) = sumI (xs.take k) + xs.getD k 0 := by
  rcases Nat.lt_or_ge k xs.length with h | h
  · obtain ⟨x, hx⟩ := some_at (xs := xs) rfl h
    rw [sumI_take hx, getD_of hx]
  · rw [List.take_of_length_le (by omega), List.take_of_length_le h, List.getD_eq_getElem?_getD, List.getElem?_eq_none h]
    simp
theorem take_set_lt {xs : List Int} {i k : Nat} (x : Int) (h : k ≤ i) : (xs.set i x).take k = xs.take k := by
  rw [List.take_set_of_le h]
theorem LrOk.top {first : Bool} {last P put : List Int} {k : Nat} {left : Int} : lrTop first last P put (15 - k) left ≤ left ∧ lrTop first last P put (15 - k) left ≤ 16 - P.getD (15 - k) 0 := by
  unfold lrTop
  omega
theorem LrOk.next {first : Bool} {last P put : List Int} {k : Nat} {left : Int} {n : Nat} (h : LrOk first last (k + 1) P put left) (hn : (n : Int) ≤ lrTop first last P put (15 - k) left) :
    LrOk first last k (P.set (15 - k) (P.getD (15 - k) 0 + (n : Int))) (put.set (15 - k) (n : Int)) (left - (n : Int)) := by
  have hk := h.k16
  have hr : 16 - (k + 1) = 15 - k := by omega
  have hr2 : 16 - k = 15 - k + 1 := by omega
  obtain ⟨r, hre⟩ : ∃ r, 15 - k = r := ⟨_, rfl⟩
  have hput := h.rest0 r (by omega)
  have hP0 := h.P0
  have hput0 := h.put0
  have hold := h.old0
  have holdF := h.oldF
  have hPF := h.PF
  have hleft := h.left0
  have hleft8 := h.left8
  have hlP := h.lP
  have hlput := h.lput
  have hund := h.und
  rw [hr, hre] at hund
  rw [hre] at hn ⊢
  have e1 : ∀ j, (P.set r (P.getD r 0 + (n : Int))).getD j 0 = if j = r then P.getD r 0 + (n : Int) else P.getD j 0 := fun j => getD_set j _ (by omega)
  have e2 : ∀ j, (put.set r (n : Int)).getD j 0 = if j = r then (n : Int) else put.getD j 0 := fun j => getD_set j _ (by omega)
  have hn1 : (n : Int) ≤ left ∧ (n : Int) ≤ 16 - P.getD r 0 := by unfold lrTop at hn; omega
  have hn2 : 0 < r → (n : Int) ≤ P.getD (r - 1) 0 - put.getD (r - 1) 0 - P.getD r 0 := fun h0 => by unfold lrTop at hn; rw [if_neg (show ¬ r = 0 by omega)] at hn; omega
  have hn3 : first = false → (n : Int) ≤ sumI (last.take r) - sumI (put.take r) := fun h0 => by unfold lrTop at hn; rw [h0] at hn; simp only [Bool.false_eq_true, if_false] at hn; omega
  refine ⟨by omega, by rw [List.length_set]; exact hlP, by rw [List.length_set]; exact hlput, h.llast, by omega, by omega, fun j hj => ?_, fun j => ?_, h.last0, fun j => ?_, fun j => ?_, fun j => ?_, fun j => ?_, fun hf => ?_⟩
  · rw [e2, if_neg (by omega)]; exact h.rest0 j (by omega)
  · rw [e2]; have := hput0 j; split <;> omega
  · rw [e1]; have := hP0 j; have := hP0 r; split <;> omega
  · rw [e1, e2]; have := hold j; have := hP0 r; split <;> omega
  · rw [e1, e1, e2, e2]
    have := holdF j
    have := hold r
    by_cases h1 : j = r
    · subst h1; rw [if_neg (by omega), if_neg (by omega), if_pos rfl, if_pos rfl]; omega
    · rw [if_neg h1, if_neg h1]
      by_cases h2 : j + 1 = r
      · subst h2; rw [if_pos rfl, if_pos rfl]; omega
      · rw [if_neg h2, if_neg h2]; omega
  · rw [e1, e1]
    have := hPF j
    by_cases h1 : j = r
    · subst h1; rw [if_neg (by omega), if_pos rfl]; omega
    · rw [if_neg h1]
      by_cases h2 : j + 1 = r
      · subst h2
        rw [if_pos rfl]
        have := hn2 (by omega)
        have := hput0 j
        simp only [Nat.add_sub_cancel] at *
        omega
      · rw [if_neg h2]; omega
  · rw [hr2, hre, sumI_take_getD, sumI_take_getD, take_set_lt _ (Nat.le_refl r), e2, if_pos rfl]
    have := hn3 hf
    have := (h.last0 r).1
    omega
theorem LrOk.start {first : Bool} {last P : List Int} {c : Int} (hP : P.length = 16) (hl : last.length = 16) (hc0 : 0 ≤ c) (hc8 : c ≤ 8) (hl0 : ∀ j, 0 ≤ last.getD j 0 ∧ last.getD j 0 ≤ 8) (hP0 : ∀ j, 0 ≤ P.getD j 0 ∧ P.getD j 0 ≤ 16) (hPF : ∀ j, P.getD (j + 1) 0 ≤ P.getD j 0) : LrOk first last 16 P zeros16 c := by
  have hz : ∀ j, zeros16.getD j 0 = 0 := fun j => by
    unfold zeros16
    rw [List.getD_eq_getElem?_getD, List.getElem?_replicate]
    split <;> rfl
  refine ⟨Nat.le_refl _, hP, by simp [zeros16], hl, hc0, hc8, fun j _ => hz j, fun j => by rw [hz]; omega, hl0, hP0, fun j => by rw [hz]; have := hP0 j; omega, fun j => by rw [hz, hz]; have := hPF j; omega, hPF, fun _ => by simp⟩
theorem set_getD_self {xs : List Int} {i : Nat} {x : Int} (h : i < xs.length) (hx : xs.getD i 0 = x) : xs.set i x = xs := by
  obtain ⟨y, hy⟩ := some_at (xs := xs) rfl h
  rw [getD_of hy] at hx
  subst hx
  apply List.ext_getElem?
  intro j
  rw [List.getElem?_set]
  by_cases h1 : i = j
  · subst h1; rw [if_pos rfl, if_pos h, hy]
  · rw [if_neg h1]
/-- with nothing left the rows that are left stay -/
theorem lrStrip_zero {next : List Int → List Int → List (List Int)} {first : Bool} {last : List Int} : ∀ {k : Nat} {P put : List Int} {left : Int}, LrOk first last k P put left → left = 0 → lrStrip next first last k P put left = next P put
  | 0, P, put, left, _, h0 => by rw [lrStrip, if_neg (by omega)]
  | k + 1, P, put, left, h, h0 => by
    have ht : lrTop first last P put (15 - k) left = 0 := by
      have hk := h.k16
      obtain ⟨r, hre⟩ : ∃ r, 15 - k = r := ⟨_, rfl⟩
      have hr : 16 - (k + 1) = 15 - k := by omega
      have h1 := (h.P0 r).2
      have h2 := h.rest0 r (by omega)
      have h3 := h.und
      rw [hr, hre] at h3
      rw [hre]
      have h4 : 0 < r → P.getD r 0 - put.getD r 0 ≤ P.getD (r - 1) 0 - put.getD (r - 1) 0 := fun h0 => by have := h.oldF (r - 1); rw [show r - 1 + 1 = r by omega] at this; exact this
      unfold lrTop
      cases first
      · have := h3 rfl
        simp only [Bool.false_eq_true, if_false]
        by_cases h5 : r = 0
        · rw [if_pos h5]; omega
        · rw [if_neg h5]; have := h4 (by omega); omega
      · simp only [if_true]
        by_cases h5 : r = 0
        · rw [if_pos h5]; omega
        · rw [if_neg h5]; have := h4 (by omega); omega
    have hn := h.next (n := 0) (by rw [ht]; omega)
    have hk := h.k16
    have hlP := h.lP
    have hlput := h.lput
    have e1 : P.set (15 - k) (P.getD (15 - k) 0 + ((0 : Nat) : Int)) = P := set_getD_self (by omega) (by omega)
    have e2 : put.set (15 - k) ((0 : Nat) : Int) = put := set_getD_self (by omega) (by have := h.rest0 (15 - k) (by omega); simpa using this)
    rw [e1, e2] at hn
    rw [lrStrip, ht]
    show (List.range 1).flatMap _ = _
    rw [show List.range 1 = [0] from rfl, List.flatMap_cons, List.flatMap_nil, List.append_nil, e1, e2]
    exact lrStrip_zero hn (by omega)
/-- the first of the numbers that may come into a row -/
def lrPre (next : List Int → List Int → List (List Int)) (first : Bool) (last : List Int) (k : Nat) (P put : List Int) (left : Int) (i : Nat) : List (List Int) :=
  (List.range i).flatMap fun (n : Nat) => lrStrip next first last k (P.set (15 - k) (P.getD (15 - k) 0 + (n : Int))) (put.set (15 - k) (n : Int)) (left - (n : Int))
theorem lrPre_zero (next : List Int → List Int → List (List Int)) (first : Bool) (last : List Int) (k : Nat) (P put : List Int) (left : Int) : lrPre next first last k P put left 0 = [] := rfl
theorem lrPre_succ (next : List Int → List Int → List (List Int)) (first : Bool) (last : List Int) (k : Nat) (P put : List Int) (left : Int) (i : Nat) :
    lrPre next first last k P put left (i + 1) = lrPre next first last k P put left i ++ lrStrip next first last k (P.set (15 - k) (P.getD (15 - k) 0 + (i : Int))) (put.set (15 - k) (i : Int)) (left - (i : Int)) := by
  unfold lrPre
  rw [List.range_succ, List.flatMap_append]
  simp
theorem lrPre_all {next : List Int → List Int → List (List Int)} {first : Bool} {last : List Int} {k : Nat} {P put : List Int} {left : Int} {i : Nat} (h : (i : Int) = lrTop first last P put (15 - k) left + 1 ∨ (i = 0 ∧ lrTop first last P put (15 - k) left + 1 ≤ 0)) : lrPre next first last k P put left i = lrStrip next first last (k + 1) P put left := by
  rw [lrStrip, lrPre, show (lrTop first last P put (15 - k) left + 1).toNat = i by omega]
theorem flat_len {K k : Nat} : ∀ (L t : Nat) (g : Nat → List (List Int)), t ≤ L + 1 → (∀ n, n < t → (g n).length ≤ k ^ (L - n) * K) → ((List.range t).flatMap g).length ≤ (k + 1) ^ L * K
  | L, 0, _, _, _ => by simp
  | 0, t + 1, g, ht, hg => by
    obtain rfl : t = 0 := by omega
    have := hg 0 (by omega)
    rw [show List.range (0 + 1) = [0] from rfl]
    simpa using this
  | L + 1, t + 1, g, ht, hg => by
    rw [List.range_succ_eq_map, List.flatMap_cons, List.flatMap_map, List.length_append]
    have h0 := hg 0 (by omega)
    have h1 := flat_len (K := K) (k := k) L t (fun n => g (n + 1)) (by omega) fun n hn => by have := hg (n + 1) (by omega); rwa [show L + 1 - (n + 1) = L - n by omega] at this
    have h2 : k ^ (L + 1) * K + (k + 1) ^ L * K ≤ (k + 1) ^ (L + 1) * K := by
      rw [← Nat.add_mul]
      apply Nat.mul_le_mul_right
      have h3 : k ^ L ≤ (k + 1) ^ L := Nat.pow_le_pow_left (by omega) L
      have h4 : k ^ L * k ≤ (k + 1) ^ L * k := Nat.mul_le_mul_right k h3
      rw [Nat.pow_succ, Nat.pow_succ, Nat.mul_add, Nat.mul_one]
      omega
    have h3 : k ^ (L + 1 - 0) * K = k ^ (L + 1) * K := rfl
    have h5 : ((List.range t).flatMap fun n => g (n + 1)).length = ((List.range t).flatMap fun a => g (Nat.succ a)).length := rfl
    omega
theorem lrStrip_len {next : List Int → List Int → List (List Int)} {K : Nat} (hK : ∀ P put, (next P put).length ≤ K) {first : Bool} {last : List Int} : ∀ (k : Nat) (P put : List Int) (left : Int), 0 ≤ left → (lrStrip next first last k P put left).length ≤ k ^ left.toNat * K
  | 0, P, put, left, h => by
    rw [lrStrip]
    split
    · simp
    · rw [show left.toNat = 0 by omega]
      simpa using hK P put
  | k + 1, P, put, left, h => by
    rw [lrStrip]
    have ht := (LrOk.top (first := first) (last := last) (P := P) (put := put) (k := k) (left := left)).1
    refine flat_len left.toNat _ _ (by omega) fun n hn => ?_
    have := lrStrip_len hK (first := first) (last := last) k (P.set (15 - k) (P.getD (15 - k) 0 + (n : Int))) (put.set (15 - k) (n : Int)) (left - (n : Int)) (by omega)
    rwa [show (left - (n : Int)).toNat = left.toNat - n by omega] at this
theorem sumI_nonneg : ∀ {b : List Int}, (∀ x ∈ b, 0 ≤ x) → 0 ≤ sumI b
  | [], _ => Int.le_refl _
  | x :: b, h => by
    rw [sumI_cons]
    have := h x (by simp)
    have := sumI_nonneg (b := b) fun y hy => h y (by simp [hy])
    omega
theorem lrAll_len : ∀ (b : List Int) (first : Bool) (last P : List Int), (∀ x ∈ b, 0 ≤ x) → (lrAll b first last P).length ≤ 16 ^ (sumI b).toNat
  | [], _, _, _, _ => by simp [lrAll, sumI_nil]
  | c :: rest, first, last, P, h => by
    rw [lrAll]
    have hc := h c (by simp)
    have hr : 0 ≤ sumI rest := sumI_nonneg fun x hx => h x (by simp [hx])
    have h1 := lrStrip_len (K := 16 ^ (sumI rest).toNat) (fun P put => lrAll_len rest false put P fun x hx => h x (by simp [hx])) (first := first) (last := last) 16 P zeros16 c hc
    rw [sumI_cons, show (c + sumI rest).toNat = c.toNat + (sumI rest).toNat by omega, Nat.pow_add]
    exact h1
end Go.Proofs.Ytpjkhkoecgjjbaa

namespace Go.Proofs.Ytpjkhkoecgjjbaa
open Go.RowKit

def insAt (v : List Int) (xs : List (List Int × Int)) : Nat := (xs.takeWhile fun p => less p.1 v).length
theorem insAt_take (v : List Int) (xs : List (List Int × Int)) : xs.takeWhile (fun p => less p.1 v) = xs.take (insAt v xs) := by
  unfold insAt
  induction xs with
  | nil => rfl
  | cons p xs ih =>
    rw [List.takeWhile_cons]
    split
    · rw [List.length_cons, List.take_succ_cons, ← ih]
    · rfl
theorem insAt_drop (v : List Int) (xs : List (List Int × Int)) : xs.dropWhile (fun p => less p.1 v) = xs.drop (insAt v xs) := by
  unfold insAt
  induction xs with
  | nil => rfl
  | cons p xs ih =>
    rw [List.takeWhile_cons, List.dropWhile_cons]
    split
    · rw [List.length_cons, List.drop_succ_cons, ← ih]
    · rfl
theorem insAt_less {v : List Int} {xs : List (List Int × Int)} : ∀ {i : Nat} {p : List Int × Int}, i < insAt v xs → xs[i]? = some p → less p.1 v = true := by
  unfold insAt
  induction xs with
  | nil => intro i p hi; simp at hi
  | cons q xs ih =>
    intro i p hi hp
    rw [List.takeWhile_cons] at hi
    split at hi
    · rename_i h
      cases i with
      | zero => obtain rfl : q = p := (by simpa using hp); exact h
      | succ i => exact ih (by simpa using hi) (by simpa using hp)
    · simp at hi
theorem insAt_stop {v : List Int} {xs : List (List Int × Int)} {p : List Int × Int} (hp : xs[insAt v xs]? = some p) : less p.1 v = false := by
  unfold insAt at hp
  induction xs with
  | nil => simp at hp
  | cons q xs ih =>
    rw [List.takeWhile_cons] at hp
    split at hp
    · exact ih (by simpa using hp)
    · rename_i h
      obtain rfl : q = p := by simpa using hp
      simpa using h
theorem insAt_le (v : List Int) (xs : List (List Int × Int)) : insAt v xs ≤ xs.length := by
  have := congrArg List.length (insAt_take v xs)
  rw [List.length_take] at this
  show (xs.takeWhile fun p => less p.1 v).length ≤ _
  omega
/-- the shape's count, if it is there -/
def cntAt (v : List Int) (xs : List (List Int × Int)) : Option Int :=
  match xs[insAt v xs]? with
  | some p => if p.1 = v then some p.2 else none
  | none => none
/-- the shape counted once more -/
def insL (v : List Int) (xs : List (List Int × Int)) : List (List Int × Int) :=
  match cntAt v xs with
  | some y => xs.set (insAt v xs) (v, y + 1)
  | none => xs.take (insAt v xs) ++ (v, 1) :: xs.drop (insAt v xs)
theorem cntAt_some {v : List Int} {xs : List (List Int × Int)} {y : Int} (h : cntAt v xs = some y) : xs[insAt v xs]? = some (v, y) := by
  unfold cntAt at h
  cases hx : xs[insAt v xs]? with
  | none => rw [hx] at h; cases h
  | some p =>
    rw [hx] at h
    simp only at h
    split at h
    · rename_i e
      obtain rfl := Option.some.inj h
      rw [← e]
    · cases h
theorem cntAt_none {v : List Int} {xs : List (List Int × Int)} (h : cntAt v xs = none) {p : List Int × Int} (hp : xs[insAt v xs]? = some p) : p.1 ≠ v := by
  unfold cntAt at h
  rw [hp] at h
  simp only at h
  split at h
  · cases h
  · assumption
def AscL (xs : List (List Int × Int)) : Prop := xs.Pairwise fun p q => less p.1 q.1 = true
structure GoodL (N : Nat) (xs : List (List Int × Int)) : Prop where
  asc : AscL xs
  len : xs.length ≤ N
  each : ∀ p ∈ xs, 1 ≤ p.2 ∧ p.2 ≤ (N : Int) ∧ p.1.length ≤ 16
theorem GoodL.nil : GoodL 0 [] := ⟨List.Pairwise.nil, Nat.le_refl _, by simp⟩
theorem asc_at {xs : List (List Int × Int)} (h : AscL xs) {i j : Nat} {p q : List Int × Int} (hij : i < j) (hp : xs[i]? = some p) (hq : xs[j]? = some q) : less p.1 q.1 = true := by
  obtain ⟨hi, rfl⟩ := List.getElem?_eq_some_iff.1 hp
  obtain ⟨hj, rfl⟩ := List.getElem?_eq_some_iff.1 hq
  exact List.pairwise_iff_getElem.1 h i j hi hj hij
/-- behind the place nothing is less -/
theorem insAt_ge {v : List Int} {xs : List (List Int × Int)} (h : AscL xs) {j : Nat} {p : List Int × Int} (hj : insAt v xs ≤ j) (hp : xs[j]? = some p) : less p.1 v = false := by
  obtain ⟨q, hq⟩ : ∃ q, xs[insAt v xs]? = some q := ⟨xs[insAt v xs]'(by have := lt_of_some hp; omega), by simp⟩
  have hs := insAt_stop hq
  rcases Nat.eq_or_lt_of_le hj with e | hlt
  · rw [← e, hq] at hp
    obtain rfl := Option.some.inj hp
    exact hs
  · have h1 := asc_at h hlt hq hp
    cases h2 : less p.1 v
    · rfl
    · rw [less_trans h1 h2] at hs; cases hs
/-- the place is known by its two sides -/
theorem insAt_is {v : List Int} {xs : List (List Int × Int)} {k : Nat} (hk : k ≤ insAt v xs) (h : k = xs.length ∨ ∃ p, xs[k]? = some p ∧ less p.1 v = false) : insAt v xs = k := by
  have := insAt_le v xs
  rcases h with h | ⟨p, hp, hn⟩
  · omega
  · rcases Nat.lt_or_ge k (insAt v xs) with hlt | hge
    · rw [insAt_less hlt hp] at hn; cases hn
    · omega
theorem insL_length (v : List Int) (xs : List (List Int × Int)) : (insL v xs).length ≤ xs.length + 1 := by
  unfold insL
  split
  · rw [List.length_set]; omega
  · have := insAt_le v xs
    rw [List.length_append, List.length_cons, List.length_take, List.length_drop]; omega
theorem insL_mem {v : List Int} {xs : List (List Int × Int)} {p : List Int × Int} (h : p ∈ insL v xs) : p ∈ xs ∨ (p.1 = v ∧ (p.2 = 1 ∨ ∃ q ∈ xs, p.2 = q.2 + 1)) := by
  unfold insL at h
  split at h
  · rename_i y hy
    rcases List.mem_or_eq_of_mem_set h with h | rfl
    · exact .inl h
    · exact .inr ⟨rfl, .inr ⟨_, List.mem_of_getElem? (cntAt_some hy), rfl⟩⟩
  · rcases List.mem_append.1 h with h | h
    · exact .inl (List.mem_of_mem_take h)
    · rcases List.mem_cons.1 h with rfl | h
      · exact .inr ⟨rfl, .inl rfl⟩
      · exact .inl (List.mem_of_mem_drop h)
theorem insL_asc {v : List Int} {xs : List (List Int × Int)} (h : AscL xs) : AscL (insL v xs) := by
  unfold insL
  split
  · rename_i y hy
    have hp := cntAt_some hy
    refine List.pairwise_iff_getElem.2 fun i j hi hj hij => ?_
    rw [List.length_set] at hi hj
    have e : ∀ (k : Nat) (hk : k < xs.length) (hk' : k < (xs.set (insAt v xs) (v, y + 1)).length), ((xs.set (insAt v xs) (v, y + 1))[k]'hk').1 = (xs[k]'hk).1 := fun k hk hk' => by
      rw [List.getElem_set]
      split
      · rename_i e
        subst e
        rw [List.getElem?_eq_getElem hk] at hp
        rw [Option.some.inj hp]
      · rfl
    rw [e i hi, e j hj]
    exact List.pairwise_iff_getElem.1 h i j hi hj hij
  · rename_i hn
    have h1 : AscL (xs.take (insAt v xs)) := List.Pairwise.sublist (List.take_sublist _ _) h
    have h2 : AscL (xs.drop (insAt v xs)) := List.Pairwise.sublist (List.drop_sublist _ _) h
    have lo : ∀ p ∈ xs.take (insAt v xs), less p.1 v = true := fun p hp => by
      obtain ⟨i, hi⟩ := List.getElem?_of_mem hp
      rw [List.getElem?_take] at hi
      split at hi
      · exact insAt_less ‹_› hi
      · cases hi
    have hi : ∀ p ∈ xs.drop (insAt v xs), less v p.1 = true := fun p hp => by
      obtain ⟨i, hi⟩ := List.getElem?_of_mem hp
      rw [List.getElem?_drop] at hi
      have g1 := insAt_ge (v := v) h (by omega) hi
      cases g2 : less v p.1
      · exfalso
        have e := less_total g1 g2
        rcases Nat.eq_zero_or_pos i with h0 | h0
        · subst h0
          exact cntAt_none hn (by simpa using hi) e
        · obtain ⟨q, hq⟩ : ∃ q, xs[insAt v xs]? = some q := ⟨xs[insAt v xs]'(by have := lt_of_some hi; omega), by simp⟩
          have g3 := asc_at h (by omega) hq hi
          rw [e, insAt_stop hq] at g3
          cases g3
      · rfl
    refine List.pairwise_append.2 ⟨h1, List.pairwise_cons.2 ⟨hi, h2⟩, fun p hp q hq => ?_⟩
    rcases List.mem_cons.1 hq with rfl | hq
    · exact lo p hp
    · exact less_trans (lo p hp) (hi q hq)
theorem GoodL.ins {N : Nat} {xs : List (List Int × Int)} {v : List Int} (h : GoodL N xs) (hv : v.length ≤ 16) : GoodL (N + 1) (insL v xs) := by
  refine ⟨insL_asc h.asc, by have := insL_length v xs; have := h.len; omega, fun p hp => ?_⟩
  rcases insL_mem hp with h1 | ⟨e1, h1⟩
  · have := h.each p h1
    exact ⟨this.1, by have := this.2.1; omega, this.2.2⟩
  · rcases h1 with e2 | ⟨q, hq, e2⟩
    · rw [e1, e2]; exact ⟨Int.le_refl _, by omega, hv⟩
    · have := h.each q hq
      rw [e1, e2]; exact ⟨by omega, by omega, hv⟩
/-- all shapes of a list counted -/
def insAll (D : List (List Int)) (xs : List (List Int × Int)) : List (List Int × Int) := D.foldl (fun l P => insL (bare P) l) xs
theorem insAll_nil (xs : List (List Int × Int)) : insAll [] xs = xs := rfl
theorem insAll_one (P : List Int) (xs : List (List Int × Int)) : insAll [P] xs = insL (bare P) xs := rfl
theorem insAll_append (D E : List (List Int)) (xs : List (List Int × Int)) : insAll (D ++ E) xs = insAll E (insAll D xs) := List.foldl_append
/-- the count of a shape, 0 if it is not there -/
def cntL (v : List Int) : List (List Int × Int) → Int
  | [] => 0
  | p :: xs => if p.1 = v then p.2 else cntL v xs
end Go.Proofs.Ytpjkhkoecgjjbaa

namespace Go.Proofs.Ytpjkhkoecgjjbaa
open Go.RowKit

def pad16 (s : List Int) : List Int := s ++ List.replicate (16 - s.length) 0
theorem zeros_getD (k j : Nat) : (List.replicate k (0 : Int)).getD j 0 = 0 := by
  rw [List.getD_eq_getElem?_getD, List.getElem?_replicate]
  split <;> rfl
theorem pad16_getD (s : List Int) (j : Nat) : (pad16 s).getD j 0 = s.getD j 0 := by
  unfold pad16
  rcases Nat.lt_or_ge j s.length with h | h
  · rw [List.getD_eq_getElem?_getD, List.getElem?_append_left h, List.getD_eq_getElem?_getD]
  · rw [List.getD_eq_getElem?_getD, List.getElem?_append_right h, ← List.getD_eq_getElem?_getD, zeros_getD, List.getD_eq_getElem?_getD, List.getElem?_eq_none h]
    rfl
theorem pad16_length {s : List Int} (h : s.length ≤ 16) : (pad16 s).length = 16 := by
  unfold pad16
  rw [List.length_append, List.length_replicate]
  omega
theorem pad16_set {s : List Int} {i : Nat} (x : Int) (h : i < s.length) : pad16 (s.set i x) = (pad16 s).set i x := by
  unfold pad16
  rw [List.length_set, List.set_append_left _ _ h]
theorem pad16_push {s : List Int} (h : s.length < 16) : pad16 (s ++ [0]) = pad16 s := by
  unfold pad16
  rw [List.length_append, List.append_assoc, show 16 - s.length = 1 + (16 - (s.length + 1)) by omega, ← List.replicate_append_replicate]
  rfl
theorem bareLen_app (s : List Int) (k : Nat) : bareLen (s ++ List.replicate k 0) (s.length + k) = bareLen s s.length := by
  induction k with
  | zero => simp
  | succ k ih =>
    rw [show s.length + (k + 1) = s.length + k + 1 by omega, bareLen]
    have h1 : (s ++ List.replicate (k + 1) (0 : Int)).getD (s.length + k) 0 = 0 := by
      rw [List.getD_eq_getElem?_getD, List.getElem?_append_right (by omega), ← List.getD_eq_getElem?_getD, zeros_getD]
    rw [if_pos h1]
    rw [← ih]
    have : ∀ m, m ≤ s.length + k → bareLen (s ++ List.replicate (k + 1) 0) m = bareLen (s ++ List.replicate k 0) m := by
      intro m
      induction m with
      | zero => intro _; rfl
      | succ m ihm =>
        intro hm
        rw [bareLen, bareLen, ihm (by omega)]
        have e : (s ++ List.replicate (k + 1) (0 : Int)).getD m 0 = (s ++ List.replicate k (0 : Int)).getD m 0 := by
          rcases Nat.lt_or_ge m s.length with h | h
          · rw [List.getD_eq_getElem?_getD, List.getElem?_append_left h, List.getD_eq_getElem?_getD, List.getElem?_append_left h]
          · rw [List.getD_eq_getElem?_getD, List.getElem?_append_right h, ← List.getD_eq_getElem?_getD, zeros_getD, List.getD_eq_getElem?_getD, List.getElem?_append_right h, ← List.getD_eq_getElem?_getD, zeros_getD]
        rw [e]
    exact this _ (Nat.le_refl _)
theorem bare_pad (s : List Int) : bare (pad16 s) = bare s := by
  unfold bare pad16
  rw [List.length_append, List.length_replicate, bareLen_app, List.take_append_of_le_length (bareLen_le _ _)]
theorem bare_short {P : List Int} (h : P.length ≤ 16) : (bare P).length ≤ 16 := Nat.le_trans (bare_length P) h
/-! all that is found has sixteen rows -/
theorem lrStrip_mem {next : List Int → List Int → List (List Int)} {first : Bool} {last : List Int} (hn : ∀ P put, P.length = 16 → ∀ Q ∈ next P put, Q.length = 16) : ∀ (k : Nat) (P put : List Int) (left : Int), P.length = 16 → ∀ Q ∈ lrStrip next first last k P put left, Q.length = 16
  | 0, P, put, left, h, Q, hQ => by
    rw [lrStrip] at hQ
    split at hQ
    · cases hQ
    · exact hn P put h Q hQ
  | k + 1, P, put, left, h, Q, hQ => by
    rw [lrStrip] at hQ
    obtain ⟨n, _, h2⟩ := List.mem_flatMap.1 hQ
    exact lrStrip_mem hn k _ _ _ (by rw [List.length_set]; exact h) Q h2
theorem lrAll_mem : ∀ (b : List Int) (first : Bool) (last P : List Int), P.length = 16 → ∀ Q ∈ lrAll b first last P, Q.length = 16
  | [], _, _, P, h, Q, hQ => by
    rw [lrAll, List.mem_singleton] at hQ
    rw [hQ]; exact h
  | c :: rest, first, last, P, h, Q, hQ => by
    rw [lrAll] at hQ
    exact lrStrip_mem (fun P put hP => lrAll_mem rest false put P hP) 16 P zeros16 c h Q hQ
theorem GoodL.all : ∀ {D : List (List Int)} {N : Nat} {L : List (List Int × Int)}, GoodL N L → (∀ P ∈ D, P.length = 16) → GoodL (N + D.length) (insAll D L)
  | [], _, _, h, _ => h
  | P :: D, N, L, h, hD => by
    have h1 := h.ins (v := bare P) (bare_short (Nat.le_of_eq (hD P (by simp))))
    have h2 := GoodL.all (D := D) h1 fun Q hQ => hD Q (by simp [hQ])
    rw [List.length_cons, show N + (D.length + 1) = N + 1 + D.length by omega]
    exact h2
theorem lrPre_le {next : List Int → List Int → List (List Int)} {first : Bool} {last : List Int} {k : Nat} {P put : List Int} {left : Int} {i : Nat} (h : (i : Int) ≤ lrTop first last P put (15 - k) left + 1) : (lrPre next first last k P put left i).length ≤ (lrStrip next first last (k + 1) P put left).length := by
  rw [lrStrip, lrPre]
  have e : (lrTop first last P put (15 - k) left + 1).toNat = i + ((lrTop first last P put (15 - k) left + 1).toNat - i) := by omega
  rw [e, List.range_add, List.flatMap_append, List.length_append]
  omega
/-- the next of the numbers -/
def restD (mu : List Int) (i : Nat) (P put : List Int) : List (List Int) := lrAll (mu.drop (i + 1)) false put P
theorem restD_mem (mu : List Int) (i : Nat) : ∀ P put, P.length = 16 → ∀ Q ∈ restD mu i P put, Q.length = 16 := fun P _put h => lrAll_mem _ _ _ P h
theorem lrAll_at {mu : List Int} {i : Nat} {c : Int} (h : mu[i]? = some c) (first : Bool) (last P : List Int) : lrAll (mu.drop i) first last P = lrStrip (restD mu i) first last 16 P zeros16 c := by
  obtain ⟨hi, rfl⟩ := List.getElem?_eq_some_iff.1 h
  rw [List.drop_eq_getElem_cons hi, lrAll]
  rfl
theorem lrAll_end {mu : List Int} {i : Nat} (h : mu.length ≤ i) (first : Bool) (last P : List Int) : lrAll (mu.drop i) first last P = [P] := by
  rw [List.drop_of_length_le h, lrAll]
/-- what holds between two numbers -/
structure ShL (last P : List Int) : Prop where
  lP : P.length = 16
  llast : last.length = 16
  last0 : ∀ j, 0 ≤ last.getD j 0 ∧ last.getD j 0 ≤ 8
  P0 : ∀ j, 0 ≤ P.getD j 0 ∧ P.getD j 0 ≤ 16
  PF : ∀ j, P.getD (j + 1) 0 ≤ P.getD j 0
theorem LrOk.shL {first : Bool} {last P put : List Int} {k : Nat} {left : Int} (h : LrOk first last k P put left) : ShL put P := ⟨h.lP, h.lput, h.put0, h.P0, h.PF⟩
theorem ShL.ok {last P : List Int} (h : ShL last P) (first : Bool) {c : Int} (h0 : 0 ≤ c) (h8 : c ≤ 8) : LrOk first last 16 P zeros16 c := LrOk.start h.lP h.llast h0 h8 h.last0 h.P0 h.PF
theorem small_of_getD {xs : List Int} (h : ∀ j, 0 ≤ xs.getD j 0 ∧ xs.getD j 0 ≤ 8) : Small xs := by
  intro x hx
  obtain ⟨i, hi⟩ := List.getElem?_of_mem hx
  have := h i
  rw [getD_of hi] at this
  omega
theorem sum16_bd {xs : List Int} (hl : xs.length = 16) (h : ∀ j, 0 ≤ xs.getD j 0 ∧ xs.getD j 0 ≤ 8) (r : Nat) : -16777216 ≤ sumI (xs.take r) ∧ sumI (xs.take r) ≤ 16777216 := by
  have h1 := sumI_bd ((small_of_getD h).take r)
  have h2 : (xs.take r).length ≤ 16 := by rw [List.length_take]; omega
  omega

def LrPost (w : World) (D : List (List Int)) (L : List (List Int × Int)) (e : Ending) (w' : World) : Prop :=
  ∃ a' n' c', e = .returned (.slice a' n' c') ∧ Hid (RP w' a' (insAll D L) ∧ (insAll D L).length = n') ∧ Below w.heap.size w w'
/-- what the reference's calls share: the lists that they read -/
structure LrMem (mu : List Int) (N : Nat) (L : List (List Int × Int)) (D : List (List Int)) (ash : Option Addr) (ls : Nat) (s : List Int) (amu : Option Addr) (nmu : Nat) (alast : Option Addr) (clast : Nat) (last : List Int) (al : Option Addr) (nl : Nat) (w : World) : Prop where
  rs : RI w ash s
  sl : s.length = ls
  ls16 : ls ≤ 16
  rmu : RI w amu mu
  mul : mu.length = nmu
  nmu16 : nmu ≤ 16
  mu0 : ∀ x ∈ mu, 0 ≤ x ∧ x ≤ 8
  rlast : RI w alast last
  pcl : 16 ≤ clast
  rL : RP w al L
  pnl : L.length = nl
  good : GoodL N L
  big : N + D.length ≤ 4294967296
theorem LrMem.nl {mu : List Int} {N : Nat} {L : List (List Int × Int)} {D : List (List Int)} {ash amu alast al : Option Addr} {ls nmu clast nl : Nat} {s last : List Int} {w : World} (h : LrMem mu N L D ash ls s amu nmu alast clast last al nl w) : nl ≤ 4294967296 := by
  have := h.good.len
  have := h.pnl
  have := h.big
  omega
def StripIh (mu : List Int) (M : Nat) : Prop := ∀ (i k r : Nat) (N : Nat) (L : List (List Int × Int)) (s put last : List Int) (left : Int) (ash amu aput alast al : Option Addr) (ls csh nmu cmu cput clast nl cl : Nat) (w : World),
  (mu.length - i) * 18 + k < M → LrMem mu N L (lrStrip (restD mu i) (i == 0) last k (pad16 s) put left) ash ls s amu nmu alast clast last al nl w → RI w aput put → 16 ≤ cput → LrOk (i == 0) last k (pad16 s) put left → r + k = 16 → r ≤ ls → i < nmu → ls ≤ csh →
  Calls Try.prog 52 #[.slice ash ls csh, .slice amu nmu cmu, .int .i64 16, .int .i64 16, .int .i64 i, .int .i64 r, .int .i64 left, .slice aput 16 cput, .slice alast 16 clast, .slice al nl cl] w (LrPost w (lrStrip (restD mu i) (i == 0) last k (pad16 s) put left) L)
def LatIh (mu : List Int) (M : Nat) : Prop := ∀ (i : Nat) (N : Nat) (L : List (List Int × Int)) (s last : List Int) (ash amu alast al : Option Addr) (ls csh nmu cmu clast nl cl : Nat) (w : World),
  (mu.length - i) * 18 + 17 < M → LrMem mu N L (lrAll (mu.drop i) (i == 0) last (pad16 s)) ash ls s amu nmu alast clast last al nl w → ShL last (pad16 s) → i ≤ nmu → ls ≤ csh →
  Calls Try.prog 42 #[.slice ash ls csh, .slice amu nmu cmu, .int .i64 16, .int .i64 16, .int .i64 i, .slice alast 16 clast, .slice al nl cl] w (LrPost w (lrAll (mu.drop i) (i == 0) last (pad16 s)) L)
end Go.Proofs.Ytpjkhkoecgjjbaa
