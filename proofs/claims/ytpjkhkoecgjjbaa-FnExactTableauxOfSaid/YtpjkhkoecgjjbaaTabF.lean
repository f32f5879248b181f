/-
  The fillings of a shape without a measure. Plain.
-/
import Derived.Test.YtpjkhkoecgjjbaaTabM
namespace Go.Proofs.Ytpjkhkoecgjjbaa
open Go.RowKit

theorem lastT_len {shape : List Int} {t : List (List Int)} (hs : ShOk shape) (h : TOk shape t) : (lastT t).length ≤ 16 := by
  rcases Nat.eq_zero_or_pos t.length with h0 | h0
  · have : t = [] := List.eq_nil_of_length_eq_zero h0
    subst this
    simp [lastT, rowAt]
  · have h1 := h.last h0
    have h2 := (hs.pos (t.length - 1) (by have := h.len; omega)).2
    omega
theorem notFull {shape : List Int} {t : List (List Int)} (h : TOk shape t) (hf : fullT shape t = false) : 0 < t.length ∧ ((lastT t).length : Int) < shape.getD (t.length - 1) 0 := by
  unfold fullT at hf
  simp only [Bool.or_eq_false_iff, beq_eq_false_iff_ne, decide_eq_false_iff_not] at hf
  have := h.last (by omega)
  omega
theorem notFull_len {shape : List Int} {t : List (List Int)} (hs : ShOk shape) (h : TOk shape t) (hf : fullT shape t = false) : (lastT t).length < 16 := by
  obtain ⟨h0, h1⟩ := notFull h hf
  have h2 := (hs.pos (t.length - 1) (by have := h.len; omega)).2
  omega
theorem numsOf_mem {lo n x : Int} (h : x ∈ numsOf lo n) : lo ≤ x ∧ x < n := by
  unfold numsOf at h
  obtain ⟨i, hi, rfl⟩ := List.mem_map.1 h
  rw [List.mem_range] at hi
  omega
theorem flatMap_eq {α β : Type} {f g : α → List β} : ∀ {l : List α}, (∀ a ∈ l, f a = g a) → l.flatMap f = l.flatMap g
  | [], _ => rfl
  | a :: l, h => by rw [List.flatMap_cons, List.flatMap_cons, h a List.mem_cons_self, flatMap_eq fun b hb => h b (List.mem_cons_of_mem _ hb)]
theorem tabs_fuel {shape : List Int} {n : Int} (hs : ShOk shape) (hn : n ≤ 7) : ∀ (f g : Nat) (t : List (List Int)), TOk shape t → leftT shape t < f → leftT shape t < g → tabs shape n f t = tabs shape n g t
  | 0, _, _, _, h, _ => by omega
  | _ + 1, 0, _, _, _, h => by omega
  | f + 1, g + 1, t, ht, h1, h2 => by
    rw [tabs, tabs]
    by_cases hf : fullT shape t = true
    · rw [if_pos hf, if_pos hf]
      by_cases hl : t.length = shape.length
      · rw [if_pos hl, if_pos hl]
      · rw [if_neg hl, if_neg hl]
        have := leftT_row (shape := shape) (t := t) (by have := ht.len; omega) (lastT_len hs ht)
        exact tabs_fuel hs hn f g _ (ht.row hs hf hl) (by omega) (by omega)
    · rw [if_neg hf, if_neg hf]
      rw [Bool.not_eq_true] at hf
      refine flatMap_eq fun x hx => ?_
      have hx2 := numsOf_mem hx
      have h0 := (lowT_range ht).1
      have := leftT_put (shape := shape) (t := t) (x := x) (notFull ht hf).1 (notFull_len hs ht hf)
      exact tabs_fuel hs hn f g _ (ht.put (notFull ht hf).1 hf (by omega)) (by omega) (by omega)
def tabsOf (shape : List Int) (n : Int) (t : List (List Int)) : List (List (List Int)) := tabs shape n (leftT shape t + 1) t
theorem tabsOf_done {shape : List Int} {n : Int} {t : List (List Int)} (hf : fullT shape t = true) (hl : t.length = shape.length) : tabsOf shape n t = [t] := by
  unfold tabsOf
  rw [tabs, if_pos hf, if_pos hl]
theorem tabsOf_row {shape : List Int} {n : Int} {t : List (List Int)} (hs : ShOk shape) (hn : n ≤ 7) (ht : TOk shape t) (hf : fullT shape t = true) (hl : t.length ≠ shape.length) : tabsOf shape n t = tabsOf shape n (t ++ [[]]) := by
  unfold tabsOf
  rw [tabs, if_pos hf, if_neg hl]
  have := leftT_row (shape := shape) (t := t) (by have := ht.len; omega) (lastT_len hs ht)
  exact tabs_fuel hs hn _ _ _ (ht.row hs hf hl) this (Nat.lt_succ_self _)
theorem tabsOf_put {shape : List Int} {n : Int} {t : List (List Int)} (hs : ShOk shape) (hn : n ≤ 7) (ht : TOk shape t) (hf : fullT shape t = false) : tabsOf shape n t = (numsOf (lowT t) n).flatMap fun x => tabsOf shape n (putT t x) := by
  unfold tabsOf
  rw [tabs, if_neg (by rw [hf]; simp)]
  refine flatMap_eq fun x hx => ?_
  have hx2 := numsOf_mem hx
  have h0 := (lowT_range ht).1
  have := leftT_put (shape := shape) (t := t) (x := x) (notFull ht hf).1 (notFull_len hs ht hf)
  exact tabs_fuel hs hn _ _ _ (ht.put (notFull ht hf).1 hf (by omega)) this (Nat.lt_succ_self _)
/-- the first of the numbers that may come next -/
def preT (shape : List Int) (n : Int) (t : List (List Int)) (i : Nat) : List (List (List Int)) := ((numsOf (lowT t) n).take i).flatMap fun x => tabsOf shape n (putT t x)
theorem preT_zero (shape : List Int) (n : Int) (t : List (List Int)) : preT shape n t 0 = [] := by simp [preT]
theorem preT_succ {shape : List Int} {n : Int} {t : List (List Int)} {i : Nat} (h : lowT t + i < n) : preT shape n t (i + 1) = preT shape n t i ++ tabsOf shape n (putT t (lowT t + i)) := by
  have hx : (numsOf (lowT t) n)[i]? = some (lowT t + (i : Int)) := by
    unfold numsOf
    rw [List.getElem?_map, List.getElem?_range (by omega)]
    rfl
  unfold preT
  rw [List.take_add_one, hx, List.flatMap_append]
  simp
theorem preT_all {shape : List Int} {n : Int} {t : List (List Int)} {i : Nat} (hs : ShOk shape) (hn : n ≤ 7) (ht : TOk shape t) (hf : fullT shape t = false) (h : n ≤ lowT t + i) : preT shape n t i = tabsOf shape n t := by
  rw [tabsOf_put hs hn ht hf]
  unfold preT
  rw [List.take_of_length_le]
  unfold numsOf
  simp
  omega
theorem preT_le {shape : List Int} {n : Int} {t : List (List Int)} (hs : ShOk shape) (hn : n ≤ 7) (ht : TOk shape t) (hf : fullT shape t = false) (i : Nat) : (preT shape n t i).length ≤ (tabsOf shape n t).length := by
  rw [tabsOf_put hs hn ht hf]
  unfold preT
  have h := List.take_append_drop i (numsOf (lowT t) n)
  conv => rhs; rw [← h, List.flatMap_append, List.length_append]
  omega
/-- what a search leaves that stops when there are more than 400 -/
def Cut (L : List (List (List Int))) (D : List (List (List Int))) (L' : List (List (List Int))) : Prop :=
  L'.length ≤ 401 ∧ (L.length + D.length ≤ 400 → L' = L ++ D) ∧ (400 < L.length + D.length → L'.length = 401)
end Go.Proofs.Ytpjkhkoecgjjbaa
