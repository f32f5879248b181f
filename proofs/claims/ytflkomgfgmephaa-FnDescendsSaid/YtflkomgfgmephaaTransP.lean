/-
  The transition of Schubert polynomials, at permutations of at most 5. Plain.
-/
import Derived.Test.YtflkomgfgmephaaTransLaw
import Derived.Test.YtflkomgfgmephaaSchG
import Derived.Test.YtflkomgfgmephaaLawVar
import Derived.Test.YtflkomgfgmephaaBuH3
namespace Go.Proofs.Ytflkomgfgmephaa
open Go.RowKit

/-- sums of Schubert polynomials put to a polynomial -/
def accF (f : Mons) (l : List (List Int)) : Mons := l.foldl (fun f x => plusM f 1 (SM x)) f
def accG (f : Mons) (l : List (List Int)) : Mons := l.foldl (fun f x => gath (plusM f 1 (SMg x))) f
theorem accF_snoc (f : Mons) (l : List (List Int)) (x : List Int) : accF f (l ++ [x]) = plusM (accF f l) 1 (SM x) := by unfold accF; rw [List.foldl_append]; rfl
theorem accG_same : ∀ (l : List (List Int)) {f g : Mons}, Same f g → Same (accG f l) (accF g l)
  | [], _, _, h => h
  | x :: l, _f, _g, h => accG_same l ((gath_same _).trans (h.plus (SMg_same x)))
theorem accF_bd {B : Int} {f : Mons} (hf : Bd B f) (hB : 6 ≤ B) : ∀ (l : List (List Int)), (∀ x ∈ l, x.length ≤ 7) → Bd B (accF f l) := by
  intro l
  induction l generalizing f with
  | nil => intro _; exact hf
  | cons x l ih =>
    intro h
    exact ih (hf.plus ((SM_bd (h x List.mem_cons_self)).mono hB)) fun y hy => h y (List.mem_cons_of_mem _ hy)
def smallL (F : Mons) : Bool := decide (F.length ≤ 500) && decide (nrm F ≤ 100000)
def tr0G (u : List Int) : Mons := gath (timesM (varM (trR u)) (SMg (trV u)))
def trChk (n : Nat) (u : List Int) : Bool :=
  if trOk u = true then decide ((tr2 u).length ≤ 10) && (tr2 u).all (fun x => decide (x.length = n) && isPerm x && smallL (SMg x)) && decide (trR u ≤ 5) && decide (sumI (code (trV u)) + 1 = sumI (code u)) && smallL (SMg (trV u)) && smallL (SMg u)
    && (List.range ((tr2 u).length + 1)).all (fun k => smallL (accG (tr0G u) ((tr2 u).take k))) && decide (gath (accG (tr0G u) (tr2 u)) = gath (SMg u))
  else decide (sumI (code u) = 0)
set_option maxRecDepth 100000 in
theorem trChk_all : ([1, 2, 3, 4].all fun n => (perms n).all (trChk n)) = true := by kernel_rfl
set_option maxRecDepth 100000 in
theorem trChk_five : (perms 5).all (trChk 5) = true := by kernel_rfl
theorem trChk_of {n : Nat} {u : List Int} (h1 : 1 ≤ n) (h5 : n ≤ 5) (hu : u ∈ perms n) : trChk n u = true := by
  rcases Nat.lt_or_ge n 5 with h | h
  · have h2 := List.all_eq_true.1 trChk_all n (by
      have hc : n = 1 ∨ n = 2 ∨ n = 3 ∨ n = 4 := by omega
      rcases hc with rfl | rfl | rfl | rfl <;> decide)
    exact List.all_eq_true.1 h2 u hu
  · obtain rfl : n = 5 := by omega
    exact List.all_eq_true.1 trChk_five u hu
theorem smallL_of {F : Mons} (h : smallL F = true) : F.length ≤ 600 ∧ nrm F ≤ 1000000 := by
  unfold smallL at h
  simp only [Bool.and_eq_true, decide_eq_true_eq] at h
  omega
structure TransFacts (n : Nat) (u : List Int) : Prop where
  few : (tr2 u).length ≤ 10
  each : ∀ x ∈ tr2 u, x.length = n ∧ isPerm x = true ∧ OKp (SM x)
  r : trR u ≤ 5
  len : sumI (code (trV u)) + 1 = sumI (code u)
  sv : OKp (SM (trV u))
  su : OKp (SM u)
  acc : ∀ k, k ≤ (tr2 u).length → OKp (accF (timesM (varM (trR u)) (SM (trV u))) ((tr2 u).take k))
  eq : Same (accF (timesM (varM (trR u)) (SM (trV u))) (tr2 u)) (SM u)
theorem transFacts {n : Nat} {u : List Int} (h1 : 1 ≤ n) (h5 : n ≤ 5) (hu : u ∈ perms n) (hok : trOk u = true) : TransFacts n u := by
  have h := trChk_of h1 h5 hu
  obtain ⟨hul, _⟩ := perms_ok hu h1 h5
  unfold trChk at h
  rw [if_pos hok] at h
  simp only [Bool.and_eq_true, decide_eq_true_eq] at h
  obtain ⟨⟨⟨⟨⟨⟨⟨a1, a2⟩, a3⟩, a4⟩, a5⟩, a6⟩, a7⟩, a8⟩ := h
  have hvl : (trV u).length = n := by rw [(trV_facts hok).2.1, hul]
  have he : ∀ x ∈ tr2 u, x.length = n ∧ isPerm x = true ∧ OKp (SM x) := fun x hx => by
    have := List.all_eq_true.1 a2 x hx
    simp only [Bool.and_eq_true, decide_eq_true_eq] at this
    obtain ⟨⟨b1, b2⟩, b3⟩ := this
    obtain ⟨c1, c2⟩ := smallL_of b3
    exact ⟨b1, b2, SM_okp (by omega) c1 c2⟩
  have hs : Same (tr0G u) (timesM (varM (trR u)) (SM (trV u))) := (gath_same _).trans (Same.times (Same.refl _) (SMg_same _))
  have hb : Bd 7 (timesM (varM (trR u)) (SM (trV u))) := (varM_bd (by omega)).times (SM_bd (by omega)) (by decide)
  refine ⟨a1, he, a3, a4, SM_okp (by omega) (smallL_of a5).1 (smallL_of a5).2, SM_okp (by omega) (smallL_of a6).1 (smallL_of a6).2, fun k hk => ?_, ?_⟩
  · obtain ⟨c1, c2⟩ := smallL_of (List.all_eq_true.1 a7 k (by rw [List.mem_range]; omega))
    exact (GoodM.of_list (accG_same _ hs).symm ((accF_bd hb (by decide) _ fun x hx => by have := (he x (List.mem_of_mem_take hx)).1; omega).mono (by decide)) c1 c2).okp (Nat.le_refl _) (Nat.le_refl _)
  · exact (accG_same _ hs).symm.trans ((same_of_gath a8).trans (SMg_same u))
theorem transNone {n : Nat} {u : List Int} (h1 : 1 ≤ n) (h5 : n ≤ 5) (hu : u ∈ perms n) (hok : trOk u = false) : sumI (code u) = 0 := by
  have h := trChk_of h1 h5 hu
  unfold trChk at h
  rw [if_neg (by rw [hok]; decide)] at h
  simpa using h
end Go.Proofs.Ytflkomgfgmephaa
