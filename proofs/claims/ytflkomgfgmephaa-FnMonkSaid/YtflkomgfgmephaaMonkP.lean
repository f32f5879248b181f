/-
  Monk's rule, at permutations of at most 5. Plain.
-/
import Derived.Test.YtflkomgfgmephaaTransP
import Derived.Test.YtflkomgfgmephaaMonkLaw
import Derived.Test.YtflkomgfgmephaaClsI
namespace Go.Proofs.Ytflkomgfgmephaa
open Go.RowKit

/-- the sum of the first variables -/
def varS : Nat → Mons
  | 0 => []
  | k + 1 => plusM (varS k) 1 (varM k)
def varSG : Nat → Mons
  | 0 => []
  | k + 1 => gath (plusM (varSG k) 1 (varM k))
theorem varSG_same : ∀ k, Same (varSG k) (varS k)
  | 0 => Same.refl _
  | k + 1 => (gath_same _).trans ((varSG_same k).plus (Same.refl _))
theorem varS_bd : ∀ k, k ≤ 7 → Bd 1 (varS k)
  | 0, _ => fun p hp => by cases hp
  | k + 1, h => (varS_bd k (by omega)).plus (varM_bd (by omega))
def clsG (l : List (List Int × Int)) : Mons := l.foldl (fun f p => gath (plusM f p.2 (SMg p.1))) []
theorem clsG_to (l : List (List Int × Int)) : ∀ k, k ≤ l.length → Same ((l.take k).foldl (fun f p => gath (plusM f p.2 (SMg p.1))) []) (clsTo l k)
  | 0, _ => by rw [List.take_zero]; exact Same.refl _
  | k + 1, h => by
    obtain ⟨p, hp⟩ := some_of (show k < l.length by omega)
    rw [take_at hp, List.foldl_append]
    show Same (gath (plusM _ p.2 (SMg p.1))) (plusM (clsTo l k) (partOf l k).2 (schOf (partOf l k).1))
    rw [partOf_at hp]
    exact (gath_same _).trans ((clsG_to l k (by omega)).plus (SMg_same p.1))
theorem clsG_same (l : List (List Int × Int)) : Same (clsG l) (clsM l) := by
  have := clsG_to l l.length (Nat.le_refl _)
  rw [List.take_of_length_le (Nat.le_refl _)] at this
  exact this
def mkChk (u : List Int) (t : Nat) : Bool := monkIn u t && classesOk (monkT u t) && smallL (clsG (monkT u t)) && smallL (gath (timesM (SMg u) (varSG (t + 1)))) && decide (gath (clsG (monkT u t)) = gath (timesM (SMg u) (varSG (t + 1)))) && smallL (SMg u)
set_option maxRecDepth 100000 in
theorem mkChk_all : ([1, 2, 3, 4].all fun n => (perms n).all fun u => (List.range n).all (mkChk u)) = true := by kernel_rfl
def mkPart (j : Nat) : Bool := (((perms 5).drop (12 * j)).take 12).all fun u => (List.range 5).all (mkChk u)
set_option maxRecDepth 100000 in
theorem mkPart0 : mkPart 0 = true := by kernel_rfl
set_option maxRecDepth 100000 in
theorem mkPart1 : mkPart 1 = true := by kernel_rfl
set_option maxRecDepth 100000 in
theorem mkPart2 : mkPart 2 = true := by kernel_rfl
set_option maxRecDepth 100000 in
theorem mkPart3 : mkPart 3 = true := by kernel_rfl
set_option maxRecDepth 100000 in
theorem mkPart4 : mkPart 4 = true := by kernel_rfl
set_option maxRecDepth 100000 in
theorem mkPart5 : mkPart 5 = true := by kernel_rfl
set_option maxRecDepth 100000 in
theorem mkPart6 : mkPart 6 = true := by kernel_rfl
set_option maxRecDepth 100000 in
theorem mkPart7 : mkPart 7 = true := by kernel_rfl
set_option maxRecDepth 100000 in
theorem mkPart8 : mkPart 8 = true := by kernel_rfl
set_option maxRecDepth 100000 in
theorem mkPart9 : mkPart 9 = true := by kernel_rfl
theorem all_parts {α : Type} (p : α → Bool) (m : Nat) : ∀ (k : Nat) (l : List α), l.length ≤ m * k → (∀ j, j < k → ((l.drop (m * j)).take m).all p = true) → l.all p = true
  | 0, l, hl, _ => by
    have : l = [] := List.length_eq_zero_iff.1 (by simpa using hl)
    subst this
    rfl
  | k + 1, l, hl, h => by
    have e : l = l.take m ++ l.drop m := (List.take_append_drop m l).symm
    rw [e, List.all_append, Bool.and_eq_true]
    refine ⟨by have := h 0 (by omega); simpa using this, all_parts p m k (l.drop m) (by rw [List.length_drop]; rw [Nat.mul_succ] at hl; omega) fun j hj => ?_⟩
    have := h (j + 1) (by omega)
    rw [List.drop_drop, show m + m * j = m * (j + 1) by rw [Nat.mul_succ]; omega]
    exact this
theorem perms5_len : (perms 5).length = 120 := by kernel_rfl
theorem mkChk_five : (perms 5).all (fun u => (List.range 5).all (mkChk u)) = true := all_parts _ 12 10 _ (by rw [perms5_len]; decide) fun j hj => by
  have hc : j = 0 ∨ j = 1 ∨ j = 2 ∨ j = 3 ∨ j = 4 ∨ j = 5 ∨ j = 6 ∨ j = 7 ∨ j = 8 ∨ j = 9 := by omega
  rcases hc with rfl | rfl | rfl | rfl | rfl | rfl | rfl | rfl | rfl | rfl
  · exact mkPart0
  · exact mkPart1
  · exact mkPart2
  · exact mkPart3
  · exact mkPart4
  · exact mkPart5
  · exact mkPart6
  · exact mkPart7
  · exact mkPart8
  · exact mkPart9
set_option maxRecDepth 100000 in
theorem varSG_small : (List.range 7).all (fun k => smallL (varSG k)) = true := by kernel_rfl
theorem mkChk_of {n : Nat} {u : List Int} {t : Nat} (h1 : 1 ≤ n) (h5 : n ≤ 5) (hu : u ∈ perms n) (ht : t < n) : mkChk u t = true := by
  rcases Nat.lt_or_ge n 5 with h | h
  · have h2 := List.all_eq_true.1 mkChk_all n (by
      have hc : n = 1 ∨ n = 2 ∨ n = 3 ∨ n = 4 := by omega
      rcases hc with rfl | rfl | rfl | rfl <;> decide)
    exact List.all_eq_true.1 (List.all_eq_true.1 h2 u hu) t (by rw [List.mem_range]; exact ht)
  · obtain rfl : n = 5 := by omega
    exact List.all_eq_true.1 (List.all_eq_true.1 mkChk_five u hu) t (by rw [List.mem_range]; exact ht)
theorem varS_okp {k : Nat} (hk : k ≤ 6) : OKp (varS k) := by
  obtain ⟨c1, c2⟩ := smallL_of (List.all_eq_true.1 varSG_small k (by rw [List.mem_range]; omega))
  exact (GoodM.of_list (varSG_same k).symm ((varS_bd k (by omega)).mono (by decide)) c1 c2).okp (Nat.le_refl _) (Nat.le_refl _)
structure MonkFacts (u : List Int) (t : Nat) : Prop where
  inn : monkIn u t = true
  cls : classesOk (monkT u t) = true
  c : OKp (clsM (monkT u t))
  p : OKp (timesM (SM u) (varS (t + 1)))
  su : OKp (SM u)
  eq : Same (clsM (monkT u t)) (timesM (SM u) (varS (t + 1)))
theorem monkFacts {n : Nat} {u : List Int} {t : Nat} (h1 : 1 ≤ n) (h5 : n ≤ 5) (hu : u ∈ perms n) (ht : t < n) : MonkFacts u t := by
  have h := mkChk_of h1 h5 hu ht
  obtain ⟨hul, _⟩ := perms_ok hu h1 h5
  unfold mkChk at h
  simp only [Bool.and_eq_true, decide_eq_true_eq] at h
  obtain ⟨⟨⟨⟨⟨a1, a2⟩, a3⟩, a4⟩, a5⟩, a6⟩ := h
  obtain ⟨c1, c2⟩ := smallL_of a3
  obtain ⟨d1, d2⟩ := smallL_of a4
  obtain ⟨e1, e2⟩ := smallL_of a6
  have hs : Same (gath (timesM (SMg u) (varSG (t + 1)))) (timesM (SM u) (varS (t + 1))) := (gath_same _).trans (Same.times (SMg_same u) (varSG_same _))
  have hb : Bd 7 (timesM (SM u) (varS (t + 1))) := (SM_bd (by omega)).times (varS_bd _ (by omega)) (by decide)
  refine ⟨a1, a2, ?_, (GoodM.of_list hs.symm (hb.mono (by decide)) d1 d2).okp (Nat.le_refl _) (Nat.le_refl _), SM_okp (by omega) e1 e2, ?_⟩
  · exact (GoodM.of_list (clsG_same _).symm ((clsTo_b7 a2 _ (Nat.le_refl _)).bd) c1 c2).okp (Nat.le_refl _) (Nat.le_refl _)
  · exact (clsG_same _).symm.trans ((same_of_gath a5).trans (Same.times (SMg_same u) (varSG_same _)))
end Go.Proofs.Ytflkomgfgmephaa
