/-
  Products of Schubert polynomials of permutations of at most 4 are sums of classes. Plain.
-/
import Derived.Test.YtomejjbkakpoiaaGreatExpBack
import Derived.Test.YtomejjbkakpoiaaGreatMulPermsP
import Derived.Test.YtomejjbkakpoiaaGreatBuE30
namespace Go.Proofs.YtomejjbkakpoiaaGreat
open Go.RowKit

def clsH (l : List (List Int × Int)) : Mons := l.foldl (fun f p => gath (plusM f p.2 (SMg p.1))) []
theorem clsH_to (l : List (List Int × Int)) : ∀ k, k ≤ l.length → Same ((l.take k).foldl (fun f p => gath (plusM f p.2 (SMg p.1))) []) (clsTo l k)
  | 0, _ => fun _ => rfl
  | k + 1, h => by
    have hx : l[k]? = some (partOf l k) := by rw [partOf, List.getD_eq_getElem?_getD, List.getElem?_eq_getElem (by omega)]; rfl
    rw [List.take_add_one, hx, List.foldl_append, clsTo]
    exact (gath_same _).trans ((clsH_to l k (by omega)).plus (SMg_same _))
theorem clsH_same (l : List (List Int × Int)) : Same (clsH l) (clsM l) := by
  have := clsH_to l l.length (Nat.le_refl _)
  rw [List.take_length] at this
  exact this
def topM (F : Mons) : Int × Int := F.foldl (fun m p => if m.1 < p.1 then p else m) (-1, 0)
/-- the classes of a polynomial, from the greatest term down: a guess that is checked -/
def expG : Nat → Mons → List (List Int × Int) → List (List Int × Int)
  | 0, _, L => L
  | _ + 1, [], L => L
  | f + 1, q :: F, L => expG f (gath (plusM (q :: F) (-(topM (q :: F)).2) (SMg (tOf (topM (q :: F)).1)))) (L ++ [(tOf (topM (q :: F)).1, (topM (q :: F)).2)])
def timesG (u v : List Int) : Mons := gath (timesM (SMg u) (SMg v))
def expL (u v : List Int) : List (List Int × Int) := sortK (expG 20 (timesG u v) [])
def smallG (F : Mons) : Bool := decide (F.length ≤ 600) && decide (nrm F ≤ 1000000)
def mulOkC (u v : List Int) (L : List (List Int × Int)) : Bool :=
  classesOk L && L.all (fun p => backOk p.1 && decide (1 ≤ p.2) && decide (sumI (code p.1) = sumI (code u) + sumI (code v))) && decide (gath (clsH L) = gath (timesG u v)) && smallG (timesG u v)
def mulChk (u v : List Int) : Bool := mulOkC u v (expL u v)
def permG (u : List Int) : Bool := smallG (SMg u) && (decide (0 ≤ sumI (code u)) && decide (sumI (code u) ≤ 100))
def perms2L : List (List Int) := [[0, 1], [1, 0]]
def perms3L : List (List Int) := [[0, 1, 2], [0, 2, 1], [1, 0, 2], [1, 2, 0], [2, 0, 1], [2, 1, 0]]
def perms4L : List (List Int) := [[0, 1, 2, 3], [0, 1, 3, 2], [0, 2, 1, 3], [0, 2, 3, 1], [0, 3, 1, 2], [0, 3, 2, 1], [1, 0, 2, 3], [1, 0, 3, 2], [1, 2, 0, 3], [1, 2, 3, 0], [1, 3, 0, 2], [1, 3, 2, 0], [2, 0, 1, 3], [2, 0, 3, 1], [2, 1, 0, 3], [2, 1, 3, 0], [2, 3, 0, 1], [2, 3, 1, 0], [3, 0, 1, 2], [3, 0, 2, 1], [3, 1, 0, 2], [3, 1, 2, 0], [3, 2, 0, 1], [3, 2, 1, 0]]
def samePerms (l m : List (List Int)) : Bool := l.all fun u => m.elem u
theorem perms_lit : (samePerms (perms 2) perms2L && samePerms (perms 3) perms3L && samePerms (perms 4) perms4L) = true := by kernel_rfl
theorem permG_all : ((perms2L ++ perms3L ++ perms4L).all permG) = true := by kernel_rfl
set_option maxRecDepth 100000 in
theorem mulChk_two : (perms2L.all fun u => perms2L.all (mulChk u)) = true := by kernel_rfl
set_option maxRecDepth 100000 in
theorem mulChk_three : (perms3L.all fun u => perms3L.all (mulChk u)) = true := by kernel_rfl
def four0 : List (List Int) := [[0, 1, 2, 3], [0, 1, 3, 2], [0, 2, 1, 3]]
set_option maxRecDepth 100000 in
theorem four0_ok : (four0.all fun u => perms4L.all (mulChk u)) = true := by kernel_rfl
def four1 : List (List Int) := [[0, 2, 3, 1], [0, 3, 1, 2], [0, 3, 2, 1]]
set_option maxRecDepth 100000 in
theorem four1_ok : (four1.all fun u => perms4L.all (mulChk u)) = true := by kernel_rfl
def four2 : List (List Int) := [[1, 0, 2, 3], [1, 0, 3, 2], [1, 2, 0, 3]]
set_option maxRecDepth 100000 in
theorem four2_ok : (four2.all fun u => perms4L.all (mulChk u)) = true := by kernel_rfl
def four3 : List (List Int) := [[1, 2, 3, 0], [1, 3, 0, 2], [1, 3, 2, 0]]
set_option maxRecDepth 100000 in
theorem four3_ok : (four3.all fun u => perms4L.all (mulChk u)) = true := by kernel_rfl
def four4 : List (List Int) := [[2, 0, 1, 3], [2, 0, 3, 1], [2, 1, 0, 3]]
set_option maxRecDepth 100000 in
theorem four4_ok : (four4.all fun u => perms4L.all (mulChk u)) = true := by kernel_rfl
def four5 : List (List Int) := [[2, 1, 3, 0], [2, 3, 0, 1], [2, 3, 1, 0]]
set_option maxRecDepth 100000 in
theorem four5_ok : (four5.all fun u => perms4L.all (mulChk u)) = true := by kernel_rfl
def four6 : List (List Int) := [[3, 0, 1, 2], [3, 0, 2, 1], [3, 1, 0, 2]]
set_option maxRecDepth 100000 in
theorem four6_ok : (four6.all fun u => perms4L.all (mulChk u)) = true := by kernel_rfl
def four7 : List (List Int) := [[3, 1, 2, 0], [3, 2, 0, 1], [3, 2, 1, 0]]
set_option maxRecDepth 100000 in
theorem four7_ok : (four7.all fun u => perms4L.all (mulChk u)) = true := by kernel_rfl
def foursL : List (List (List Int)) := [four0, four1, four2, four3, four4, four5, four6, four7]
theorem perms4_flat : samePerms perms4L foursL.flatten = true := by kernel_rfl
theorem mulChk_four : (perms4L.all fun u => perms4L.all (mulChk u)) = true := by
  rw [List.all_eq_true]
  intro u hu
  have h := List.all_eq_true.1 (show perms4L.all (fun u => foursL.flatten.elem u) = true from perms4_flat) u hu
  obtain ⟨l, hl, hm⟩ := List.mem_flatten.1 (List.elem_iff.1 h)
  unfold foursL at hl
  simp only [List.mem_cons, List.not_mem_nil, or_false] at hl
  rcases hl with rfl | rfl | rfl | rfl | rfl | rfl | rfl | rfl
  · exact List.all_eq_true.1 four0_ok u hm
  · exact List.all_eq_true.1 four1_ok u hm
  · exact List.all_eq_true.1 four2_ok u hm
  · exact List.all_eq_true.1 four3_ok u hm
  · exact List.all_eq_true.1 four4_ok u hm
  · exact List.all_eq_true.1 four5_ok u hm
  · exact List.all_eq_true.1 four6_ok u hm
  · exact List.all_eq_true.1 four7_ok u hm
theorem lit_of {n : Nat} {u : List Int} (h2 : 2 ≤ n) (h4 : n ≤ 4) (hu : u ∈ perms n) : (n = 2 ∧ u ∈ perms2L) ∨ (n = 3 ∧ u ∈ perms3L) ∨ (n = 4 ∧ u ∈ perms4L) := by
  have h := perms_lit
  unfold samePerms at h
  simp only [Bool.and_eq_true, List.all_eq_true] at h
  have hc : n = 2 ∨ n = 3 ∨ n = 4 := by omega
  rcases hc with rfl | rfl | rfl
  · exact .inl ⟨rfl, List.elem_iff.1 (h.1.1 u hu)⟩
  · exact .inr (.inl ⟨rfl, List.elem_iff.1 (h.1.2 u hu)⟩)
  · exact .inr (.inr ⟨rfl, List.elem_iff.1 (h.2 u hu)⟩)
theorem mulChk_of {n : Nat} {u v : List Int} (h2 : 2 ≤ n) (h4 : n ≤ 4) (hu : u ∈ perms n) (hv : v ∈ perms n) : mulChk u v = true := by
  rcases lit_of h2 h4 hu with ⟨rfl, a⟩ | ⟨rfl, a⟩ | ⟨rfl, a⟩ <;> rcases lit_of h2 h4 hv with ⟨e, b⟩ | ⟨e, b⟩ | ⟨e, b⟩
  · exact List.all_eq_true.1 (List.all_eq_true.1 mulChk_two u a) v b
  · omega
  · omega
  · omega
  · exact List.all_eq_true.1 (List.all_eq_true.1 mulChk_three u a) v b
  · omega
  · omega
  · omega
  · exact List.all_eq_true.1 (List.all_eq_true.1 mulChk_four u a) v b
theorem permG_of {n : Nat} {u : List Int} (h2 : 2 ≤ n) (h4 : n ≤ 4) (hu : u ∈ perms n) : permG u = true := by
  have h := List.all_eq_true.1 permG_all u
  rcases lit_of h2 h4 hu with ⟨_, a⟩ | ⟨_, a⟩ | ⟨_, a⟩
  · exact h (List.mem_append_left _ (List.mem_append_left _ a))
  · exact h (List.mem_append_left _ (List.mem_append_right _ a))
  · exact h (List.mem_append_right _ a)
theorem smallG_okp {F G : Mons} (h : smallG G = true) (hs : Same F G) (hb : Bd 24 F) : OKp F := by
  unfold smallG at h
  rw [Bool.and_eq_true, decide_eq_true_eq, decide_eq_true_eq] at h
  exact (GoodM.of_list hs hb h.1 h.2).okp (Nat.le_refl _) (Nat.le_refl _)
structure MulFacts (u v : List Int) : Prop where
  ok : mpOk u v = true
  eq : mpT u v = expL u v
  tm : mpT u v = expT (termsM (timesM (SM u) (SM v)))
  each : ∀ p ∈ expL u v, 1 ≤ p.2 ∧ isPerm p.1 = true ∧ sumI (code p.1) = sumI (code u) + sumI (code v)
theorem mulFacts {n : Nat} {u v : List Int} (h2 : 2 ≤ n) (h4 : n ≤ 4) (hu : u ∈ perms n) (hv : v ∈ perms n) : MulFacts u v := by
  have h := mulChk_of h2 h4 hu hv
  have gu := permG_of h2 h4 hu
  have gv := permG_of h2 h4 hv
  obtain ⟨ul, up⟩ := perms_ok hu (by omega) (by omega)
  obtain ⟨vl, vp⟩ := perms_ok hv (by omega) (by omega)
  unfold permG at gu gv
  rw [Bool.and_eq_true] at gu gv
  unfold mulChk mulOkC at h
  simp only [Bool.and_eq_true, List.all_eq_true, decide_eq_true_eq] at h
  obtain ⟨⟨⟨c1, c2⟩, c3⟩, c4⟩ := h
  have ou : OKp (SM u) := smallG_okp gu.1 (SMg_same u).symm ((SM_bd (by omega)).mono (by decide))
  have ov : OKp (SM v) := smallG_okp gv.1 (SMg_same v).symm ((SM_bd (by omega)).mono (by decide))
  have hsT : Same (timesM (SM u) (SM v)) (timesG u v) := ((gath_same _).trans (Same.times (SMg_same u) (SMg_same v))).symm
  have hbT : Bd 24 (timesM (SM u) (SM v)) := ((SM_bd (by omega)).times (SM_bd (by omega)) (by decide)).mono (by decide)
  have oT : OKp (timesM (SM u) (SM v)) := smallG_okp c4 hsT hbT
  have he : Eqv (timesM (SM u) (SM v)) (clsM (expL u v)) := (hsT.trans ((same_of_gath c3).symm.trans (clsH_same _))).eqv
  obtain ⟨x1, x2⟩ := exp_back c1 (fun p hp => (c2 p hp).1.1) he oT
  obtain ⟨su1, su2⟩ := sch_yes up
  obtain ⟨sv1, sv2⟩ := sch_yes vp
  have eu : schT u = termsM (SM u) := by rw [su1]; exact closedT_ok ou.ok
  have ev : schT v = termsM (SM v) := by rw [sv1]; exact closedT_ok ov.ok
  obtain ⟨m1, m2⟩ := mul_yes ou.ok ov.ok
  have e0 : Eqv (timesM (monsOf (termsM (SM u))) (monsOf (termsM (SM v)))) (timesM (SM u) (SM v)) := by
    rw [monsOf_terms ou.bd, monsOf_terms ov.bd]
    exact timesM_eqv (canon_self _) (canon_self _)
  rw [termsM_eqv e0] at m2
  rw [closedT_ok (by rw [termsM_eqv e0]; exact oT.ok), termsM_eqv e0] at m1
  have hB : mpB u v = true := by
    unfold mpB
    rw [su2, sv2, eu, ev, m2]
    have a1 : polyOk (termsM (schM (trim u) (trimLen u u.length))) = true := ou.ok
    have a2 : polyOk (termsM (schM (trim v) (trimLen v v.length))) = true := ov.ok
    rw [a1, a2, oT.ok]
    rfl
  obtain ⟨y1, y2⟩ := mp_yes hB
  rw [eu, ev, m1] at y1 y2
  rw [x2] at y2
  exact ⟨y2, by rw [y1, x1], y1, fun p hp => ⟨(c2 p hp).1.2, ((class_all c1).2 p hp).1, (c2 p hp).2⟩⟩
theorem mulComm {n : Nat} {u v : List Int} (h2 : 2 ≤ n) (h4 : n ≤ 4) (hu : u ∈ perms n) (hv : v ∈ perms n) : mpT u v = mpT v u := by
  rw [(mulFacts h2 h4 hu hv).tm, (mulFacts h2 h4 hv hu).tm, termsM_eqv (times_comm (SM u) (SM v))]
end Go.Proofs.YtomejjbkakpoiaaGreat
