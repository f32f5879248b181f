/-
  Reduced dreams and Schubert polynomials of the permutations of at most 5. Plain.
-/
import Derived.Test.YtomejjbkakpoiaaGreatBuY16
import Derived.Test.YtomejjbkakpoiaaGreatBuY19
import Derived.Test.YtomejjbkakpoiaaGreatBuY30
import Derived.Test.YtomejjbkakpoiaaGreatBuY31
import Derived.Test.YtomejjbkakpoiaaGreatBuY32
namespace Go.Proofs.YtomejjbkakpoiaaGreat
open Go.RowKit

/-- how many cells of the first j lie in each row -/
def rowE (d : List (Int × Int)) : Nat → List Int
  | 0 => List.replicate 7 0
  | j + 1 => (rowE d j).set (cellOf d j).1.toNat ((rowE d j).getD (cellOf d j).1.toNat 0 + 1)
theorem rowE_length (d : List (Int × Int)) : ∀ j, (rowE d j).length = 7
  | 0 => rfl
  | j + 1 => by rw [rowE, List.length_set, rowE_length d j]
theorem rowE_bd (d : List (Int × Int)) : ∀ j, ∀ x ∈ rowE d j, 0 ≤ x ∧ x ≤ (j : Int)
  | 0, x, hx => by
    rw [rowE] at hx
    obtain rfl := (List.mem_replicate.1 hx).2
    omega
  | j + 1, x, hx => by
    rw [rowE] at hx
    rcases List.mem_or_eq_of_mem_set hx with h | rfl
    · have := rowE_bd d j x h
      omega
    · rw [List.getD_eq_getElem?_getD]
      cases h : (rowE d j)[(cellOf d j).1.toNat]? with
      | none => simp; omega
      | some y =>
        have := rowE_bd d j y (List.mem_of_getElem? h)
        simp
        omega
def dmG (l : List (List (Int × Int))) : Mons := l.map fun d => (keyL (rowE d d.length), 1)
def dmM (l : List (List (Int × Int))) : Nat → Mons
  | 0 => []
  | k + 1 => plusM (dmM l k) 1 (monoM (rowE (l.getD k []) (l.getD k []).length))
theorem fullE_seven {e : List Int} (h : e.length = 7) : fullE e = e := by
  unfold fullE fullTo
  rw [h, List.take_of_length_le (by omega)]
  simp
theorem dmM_take (l : List (List (Int × Int))) : ∀ k, k ≤ l.length → dmM l k = dmG (l.take k)
  | 0, _ => rfl
  | k + 1, hk => by
    have hg : l.getD k [] = l[k]'(by omega) := by rw [List.getD_eq_getElem?_getD, List.getElem?_eq_getElem (by omega)]; rfl
    rw [dmM, dmM_take l k (by omega), List.take_succ_eq_append_getElem (by omega), hg]
    unfold dmG plusM monoM scaleM
    rw [fullE_seven (rowE_length _ _), List.map_append]
    simp
theorem dmG_nrm : ∀ l : List (List (Int × Int)), nrm (dmG l) = l.length
  | [] => rfl
  | d :: l => by
    have := dmG_nrm l
    show (1 : Int).natAbs + nrm (dmG l) = l.length + 1
    rw [this]
    simp
    omega
theorem dmG_bd {l : List (List (Int × Int))} (h : ∀ d ∈ l, d.length ≤ 15) : Bd 24 (dmG l) := fun p hp => by
  unfold dmG at hp
  rw [List.mem_map] at hp
  obtain ⟨d, hd, rfl⟩ := hp
  have hl := h d hd
  have hm := (monoM_okp (e := rowE d d.length) (by rw [rowE_length]; omega) (fun x hx => by have := rowE_bd d d.length x hx; omega)).bd
  exact hm _ (by unfold monoM; rw [fullE_seven (rowE_length _ _)]; exact List.mem_singleton.2 rfl)
theorem dmM_okp {l : List (List (Int × Int))} (h : ∀ d ∈ l, d.length ≤ 15) (hl : l.length ≤ 100) {k : Nat} (hk : k ≤ l.length) : OKp (dmM l k) := by
  rw [dmM_take l k hk]
  have h1 : (dmG (l.take k)).length ≤ 600 := by unfold dmG; rw [List.length_map, List.length_take]; omega
  have h2 : nrm (dmG (l.take k)) ≤ 1000000 := by rw [dmG_nrm, List.length_take]; omega
  exact (GoodM.of_list (Same.refl _) (dmG_bd fun d hd => h d (List.mem_of_mem_take hd)) h1 h2).okp (Nat.le_refl _) (Nat.le_refl _)
def drmOf (n : Nat) (u : List Int) : List (List (Int × Int)) := ascD ((pipeToG (n : Int) 402 [bottom u] [bottom u]).getD [])
def drmIn (n : Nat) (u : List Int) (d : List (Int × Int)) : Bool := decide (d.length ≤ 15) && dreamFlag (n : Int) d && decide (dreamPerm (n : Int) d = u) && d.all fun p => decide (0 ≤ p.1) && decide (p.1 < 7)
def drmPoly (l : List (List (Int × Int))) (F : Mons) : Bool := decide (0 < l.length) && decide (l.length ≤ 100) && decide (gath (dmG l) = gath F) && decide (F.length ≤ 600) && decide (nrm F ≤ 1000000)
def drmChk (n : Nat) (u : List Int) : Bool :=
  (pipeToG (n : Int) 402 [bottom u] [bottom u]).isSome && (drmOf n u).all (drmIn n u) && drmPoly (drmOf n u) (SMg u)
set_option maxRecDepth 100000 in
theorem drmChk_all : ([1, 2, 3, 4].all fun n => (perms n).all (drmChk n)) = true := by kernel_rfl
def drmPart (j : Nat) : Bool := (((perms 5).drop (12 * j)).take 12).all (drmChk 5)
set_option maxRecDepth 100000 in
theorem drmPart0 : drmPart 0 = true := by kernel_rfl
set_option maxRecDepth 100000 in
theorem drmPart1 : drmPart 1 = true := by kernel_rfl
set_option maxRecDepth 100000 in
theorem drmPart2 : drmPart 2 = true := by kernel_rfl
set_option maxRecDepth 100000 in
theorem drmPart3 : drmPart 3 = true := by kernel_rfl
set_option maxRecDepth 100000 in
theorem drmPart4 : drmPart 4 = true := by kernel_rfl
set_option maxRecDepth 100000 in
theorem drmPart5 : drmPart 5 = true := by kernel_rfl
set_option maxRecDepth 100000 in
theorem drmPart6 : drmPart 6 = true := by kernel_rfl
set_option maxRecDepth 100000 in
theorem drmPart7 : drmPart 7 = true := by kernel_rfl
set_option maxRecDepth 100000 in
theorem drmPart8 : drmPart 8 = true := by kernel_rfl
set_option maxRecDepth 100000 in
theorem drmPart9 : drmPart 9 = true := by kernel_rfl
theorem drmChk_five : (perms 5).all (drmChk 5) = true := all_parts _ 12 10 _ (by rw [perms5_len]; decide) fun j hj => by
  have hc : j = 0 ∨ j = 1 ∨ j = 2 ∨ j = 3 ∨ j = 4 ∨ j = 5 ∨ j = 6 ∨ j = 7 ∨ j = 8 ∨ j = 9 := by omega
  rcases hc with rfl | rfl | rfl | rfl | rfl | rfl | rfl | rfl | rfl | rfl
  · exact drmPart0
  · exact drmPart1
  · exact drmPart2
  · exact drmPart3
  · exact drmPart4
  · exact drmPart5
  · exact drmPart6
  · exact drmPart7
  · exact drmPart8
  · exact drmPart9
theorem drmChk_of {n : Nat} {u : List Int} (h1 : 1 ≤ n) (h5 : n ≤ 5) (hu : u ∈ perms n) : drmChk n u = true := by
  rcases Nat.lt_or_ge n 5 with h | h
  · have h2 := List.all_eq_true.1 drmChk_all n (by
      have hc : n = 1 ∨ n = 2 ∨ n = 3 ∨ n = 4 := by omega
      rcases hc with rfl | rfl | rfl | rfl <;> decide)
    exact List.all_eq_true.1 h2 u hu
  · obtain rfl : n = 5 := by omega
    exact List.all_eq_true.1 drmChk_five u hu
structure DrmFacts (n : Nat) (u : List Int) : Prop where
  ok : pipeOk u = true
  ne : 0 < (pipeT u).length
  few : (pipeT u).length ≤ 100
  each : ∀ d ∈ pipeT u, d.length ≤ 15 ∧ dreamFlag (n : Int) d = true ∧ dreamPerm (n : Int) d = u ∧ ∀ p ∈ d, 0 ≤ p.1 ∧ p.1 < 7
  acc : ∀ k, k ≤ (pipeT u).length → OKp (dmM (pipeT u) k)
  su : OKp (SM u)
  eq : Same (dmM (pipeT u) (pipeT u).length) (SM u)
theorem drmFacts {n : Nat} {u : List Int} (h1 : 1 ≤ n) (h5 : n ≤ 5) (hu : u ∈ perms n) : DrmFacts n u := by
  have h := drmChk_of h1 h5 hu
  obtain ⟨hul, hup⟩ := perms_ok hu h1 h5
  unfold drmChk drmPoly at h
  simp only [Bool.and_eq_true, decide_eq_true_eq, List.all_eq_true] at h
  obtain ⟨⟨a1, a2⟩, ⟨⟨⟨a3, a4⟩, a5⟩, a6⟩, a7⟩ := h
  have e : pipeT u = drmOf n u := by
    unfold pipeT drmOf
    rw [if_pos ⟨hup, by omega⟩, hul, pipeToG_eq]
  have hok : pipeOk u = true := by
    unfold pipeOk
    rw [hup, hul, ← pipeToG_eq, a1]
    simp
    omega
  have hin : ∀ d ∈ drmOf n u, d.length ≤ 15 ∧ dreamFlag (n : Int) d = true ∧ dreamPerm (n : Int) d = u ∧ ∀ p ∈ d, 0 ≤ p.1 ∧ p.1 < 7 := fun d hd => by
    have := a2 d hd
    unfold drmIn at this
    simp only [Bool.and_eq_true, decide_eq_true_eq, List.all_eq_true] at this
    exact ⟨this.1.1.1, this.1.1.2, this.1.2, this.2⟩
  rw [← e] at a3 a4 a5 hin
  have hacc : ∀ k, k ≤ (pipeT u).length → OKp (dmM (pipeT u) k) := fun k hk => dmM_okp (fun d hd => (hin d hd).1) a4 hk
  refine ⟨hok, a3, a4, hin, hacc, SM_okp (by omega) a6 a7, ?_⟩
  rw [dmM_take _ _ (Nat.le_refl _), List.take_of_length_le (Nat.le_refl _)]
  exact (same_of_gath a5).trans (SMg_same u)
end Go.Proofs.YtomejjbkakpoiaaGreat
