/-
  Grothendieck polynomials of permutations of at most 4 as sums over all dreams. Plain.
-/
import Derived.Test.YtflkomgfgmephaaGrothI
import Derived.Test.YtflkomgfgmephaaPartOf
import Derived.Test.YtflkomgfgmephaaSchG
import Derived.Test.YtflkomgfgmephaaDemPerm
import Derived.Test.YtflkomgfgmephaaBuI7
import Derived.Test.YtflkomgfgmephaaDreamWI
import Derived.Test.YtflkomgfgmephaaMonoP
import Derived.Test.YtflkomgfgmephaaDrawSmall
import Derived.Test.YtflkomgfgmephaaBuI8
namespace Go.Proofs.Ytflkomgfgmephaa
open Go.RowKit

/-! the polynomials -/
def GM (u : List Int) : Mons := groM u u.length
def GMg (u : List Int) : Mons := (ups u).foldr (fun i F => gath (isoM i F)) [(partK u.length u.length, 1)]
theorem groG_fold (l : List Nat) (F : Mons) : Same (l.foldr (fun i F => gath (isoM i F)) F) (l.foldr isoM F) := by
  induction l with
  | nil => exact Same.refl _
  | cons i l ih => exact (gath_same _).trans ih.iso
theorem GMg_same (u : List Int) : Same (GMg u) (GM u) := groG_fold _ _
theorem wsum_filter (P : Int → Bool) (v : Int → Int) : ∀ F : Mons, wsum (F.filter fun p => P p.1) v = wsum F fun k => if P k = true then v k else 0 := by
  intro F
  induction F with
  | nil => rfl
  | cons p F ih =>
    by_cases hp : P p.1 = true
    · rw [List.filter_cons_of_pos (by simpa using hp), wsum, ih, wsum, if_pos hp]
    · rw [List.filter_cons_of_neg (by simpa using hp), ih, wsum, if_neg hp]
      omega
theorem Same.part {F G : Mons} (h : Same F G) (d : Int) : Same (partD d F) (partD d G) := fun v => by
  unfold partD
  rw [wsum_filter (fun k => decide (degK k = d)), wsum_filter (fun k => decide (degK k = d))]
  exact h _

/-! the sets of places -/
def bitOf (x b : Nat) : Bool := x / 2 ^ b % 2 == 1
abbrev Cs := List (Int × Int) × List Int
def stepS (x b i j : Nat) (s : Cs) : Cs := if bitOf x b = true then (s.1 ++ [((i : Int), (j : Int))], s.2.set i (s.2.getD i 0 + 1)) else s
def rowS (x b i : Nat) (s : Cs) : Nat → Cs
  | 0 => s
  | j + 1 => stepS x (b + j) i j (rowS x b i s j)
def bitsTo (n : Nat) : Nat → Nat
  | 0 => 0
  | i + 1 => bitsTo n i + (n - 1 - i)
def allS (n x : Nat) : Nat → Cs
  | 0 => ([], List.replicate 7 0)
  | i + 1 => rowS x (bitsTo n i) i (allS n x i) (n - 1 - i)
/-- what the walk asks of a state: at most b cells, seven exponents, each at most b -/
structure GoodS (b : Nat) (s : Cs) : Prop where
  cells : s.1.length ≤ b
  len : s.2.length = 7
  exps : ∀ v ∈ s.2, 0 ≤ v ∧ v ≤ (b : Int)
theorem GoodS.step {x b i j : Nat} {s : Cs} (h : GoodS b s) (hi : i < 7) : GoodS (b + 1) (stepS x b i j s) := by
  unfold stepS
  split
  · refine ⟨by rw [List.length_append]; have := h.cells; simp; omega, by rw [List.length_set]; exact h.len, fun v hv => ?_⟩
    rcases List.mem_or_eq_of_mem_set hv with hv | rfl
    · have := h.exps v hv
      omega
    · have hm : s.2.getD i 0 ∈ s.2 := by
        rw [List.getD_eq_getElem?_getD, List.getElem?_eq_getElem (by rw [h.len]; exact hi)]
        exact List.getElem_mem _
      have := h.exps _ hm
      omega
  · exact ⟨by have := h.cells; omega, h.len, fun v hv => by have := h.exps v hv; omega⟩
theorem GoodS.row {x b i : Nat} {s : Cs} (h : GoodS b s) (hi : i < 7) : ∀ j, GoodS (b + j) (rowS x b i s j)
  | 0 => h
  | j + 1 => (GoodS.row h hi j).step hi
theorem allS_good (n x : Nat) : ∀ i, i ≤ 7 → GoodS (bitsTo n i) (allS n x i)
  | 0, _ => ⟨Nat.le_refl _, rfl, fun v hv => by rw [List.eq_of_mem_replicate hv]; simp⟩
  | i + 1, h => (allS_good n x i (by omega)).row (by omega) _
def cellsX (n x : Nat) : List (Int × Int) := (allS n x n).1
def expX (n x : Nat) : List Int := (allS n x n).2
def wordX (n x : Nat) : List Int := dreamWord n (cellsX n x)
def demX (n x : Nat) : List Int := demPlay n (wordX n x) (wordX n x).length
def rowX (n x : Nat) : List Int × Nat × Int := (demX n x, (cellsX n x).length, keyL (fullE (expX n x)))
def sgn (l : Nat) (L : Int) : Int := if ((l : Int) - L).tmod 2 = 0 then 1 else -1
def accR (w : List Int) (L : Int) (F : Mons) (r : List Int × Nat × Int) : Mons := if r.1 = w then plusM F (sgn r.2.1 L) [(r.2.2, 1)] else F
def accT (w : List Int) (L : Int) (T : List (List Int × Nat × Int)) : Mons := T.foldl (accR w L) []
def accX (n : Nat) (w : List Int) (L : Int) (x : Nat) : Mons := accT w L ((List.range x).map (rowX n))
theorem accX_succ (n : Nat) (w : List Int) (L : Int) (x : Nat) : accX n w L (x + 1) = accR w L (accX n w L x) (rowX n x) := by
  unfold accX accT
  rw [List.range_succ, List.map_append, List.foldl_append]
  rfl
def sizeN (n : Nat) : Nat := n * (n - 1) / 2
def okX (n x : Nat) : Bool := isDream n (cellsX n x) && isWord n (wordX n x) && decide ((wordX n x).length ≤ 6) && (expX n x).all (fun v => decide (0 ≤ v ∧ v ≤ 24))
def tabL2 : List (List Int × Nat × Int) := [([0, 1], 0, 0), ([1, 0], 1, 1)]
def tabL3 : List (List Int × Nat × Int) := [([0, 1, 2], 0, 0), ([1, 0, 2], 1, 1), ([0, 2, 1], 1, 1), ([2, 0, 1], 2, 2), ([0, 2, 1], 1, 128), ([1, 2, 0], 2, 129), ([0, 2, 1], 2, 129), ([2, 1, 0], 3, 130)]
def tabL4 : List (List Int × Nat × Int) := [([0, 1, 2, 3], 0, 0), ([1, 0, 2, 3], 1, 1), ([0, 2, 1, 3], 1, 1), ([2, 0, 1, 3], 2, 2), ([0, 1, 3, 2], 1, 1), ([1, 0, 3, 2], 2, 2), ([0, 3, 1, 2], 2, 2), ([3, 0, 1, 2], 3, 3), ([0, 2, 1, 3], 1, 128), ([1, 2, 0, 3], 2, 129), ([0, 2, 1, 3], 2, 129), ([2, 1, 0, 3], 3, 130), ([0, 3, 1, 2], 2, 129), ([1, 3, 0, 2], 3, 130), ([0, 3, 1, 2], 3, 130), ([3, 1, 0, 2], 4, 131), ([0, 1, 3, 2], 1, 128), ([1, 0, 3, 2], 2, 129), ([0, 2, 3, 1], 2, 129), ([2, 0, 3, 1], 3, 130), ([0, 1, 3, 2], 2, 129), ([1, 0, 3, 2], 3, 130), ([0, 3, 2, 1], 3, 130), ([3, 0, 2, 1], 4, 131), ([0, 3, 1, 2], 2, 256), ([1, 3, 0, 2], 3, 257), ([0, 3, 2, 1], 3, 257), ([2, 3, 0, 1], 4, 258), ([0, 3, 1, 2], 3, 257), ([1, 3, 0, 2], 4, 258), ([0, 3, 2, 1], 4, 258), ([3, 2, 0, 1], 5, 259), ([0, 1, 3, 2], 1, 16384), ([1, 0, 3, 2], 2, 16385), ([0, 2, 3, 1], 2, 16385), ([2, 0, 3, 1], 3, 16386), ([0, 1, 3, 2], 2, 16385), ([1, 0, 3, 2], 3, 16386), ([0, 3, 2, 1], 3, 16386), ([3, 0, 2, 1], 4, 16387), ([0, 2, 3, 1], 2, 16512), ([1, 2, 3, 0], 3, 16513), ([0, 2, 3, 1], 3, 16513), ([2, 1, 3, 0], 4, 16514), ([0, 3, 2, 1], 3, 16513), ([1, 3, 2, 0], 4, 16514), ([0, 3, 2, 1], 4, 16514), ([3, 1, 2, 0], 5, 16515), ([0, 1, 3, 2], 2, 16512), ([1, 0, 3, 2], 3, 16513), ([0, 2, 3, 1], 3, 16513), ([2, 0, 3, 1], 4, 16514), ([0, 1, 3, 2], 3, 16513), ([1, 0, 3, 2], 4, 16514), ([0, 3, 2, 1], 4, 16514), ([3, 0, 2, 1], 5, 16515), ([0, 3, 2, 1], 3, 16640), ([1, 3, 2, 0], 4, 16641), ([0, 3, 2, 1], 4, 16641), ([2, 3, 1, 0], 5, 16642), ([0, 3, 2, 1], 4, 16641), ([1, 3, 2, 0], 5, 16642), ([0, 3, 2, 1], 5, 16642), ([3, 2, 1, 0], 6, 16643)]
set_option maxRecDepth 100000 in
theorem okX_all : ([2, 3, 4].all fun n => (List.range (2 ^ sizeN n)).all (okX n)) = true := by kernel_rfl
set_option maxRecDepth 100000 in
theorem tab2_eq : (List.range 2).map (rowX 2) = tabL2 := by kernel_rfl
set_option maxRecDepth 100000 in
theorem tab3_eq : (List.range 8).map (rowX 3) = tabL3 := by kernel_rfl
set_option maxRecDepth 100000 in
theorem tab4_eq : (List.range 64).map (rowX 4) = tabL4 := by kernel_rfl
def smG (F : Mons) : Bool := decide (F.length ≤ 600) && decide (nrm F ≤ 1000000)
def groChk (T : List (List Int × Nat × Int)) (w : List Int) : Bool :=
  smG (GMg w) && smG (SMg w) && decide (0 ≤ sumI (code w) ∧ sumI (code w) ≤ 100) && decide (gath (partD (sumI (code w)) (GMg w)) = gath (SMg w)) && decide (gath (accT w (sumI (code w)) T) = gath (GMg w))
set_option maxRecDepth 100000 in
theorem groChk2 : (perms 2).all (groChk tabL2) = true := by kernel_rfl
set_option maxRecDepth 100000 in
theorem groChk3 : (perms 3).all (groChk tabL3) = true := by kernel_rfl
set_option maxRecDepth 100000 in
theorem groChk4 : (perms 4).all (groChk tabL4) = true := by kernel_rfl

structure GroFacts (n : Nat) (w : List Int) : Prop where
  ok : OKp (GM w)
  sm : OKp (SM w)
  len : 0 ≤ sumI (code w) ∧ sumI (code w) ≤ 100
  part : Eqv (partD (sumI (code w)) (GM w)) (SM w)
  fin : Eqv (accX n w (sumI (code w)) (2 ^ sizeN n)) (GM w)
theorem smG_of {F : Mons} (h : smG F = true) : F.length ≤ 600 ∧ nrm F ≤ 1000000 := by
  unfold smG at h
  simpa only [Bool.and_eq_true, decide_eq_true_eq] using h
theorem GM_bd {u : List Int} (h : u.length ≤ 7) : Bd 24 (GM u) := by
  have h1 : Bv (sb u.length) (GM u) := gro_low h (Bv.stair h) _ fun k hk => by
    have := ups_lt u k hk
    omega
  exact fun p hp => ⟨(h1 p hp).1, fun j hj => by
    have := (h1 p hp).2 j hj
    unfold sb at this
    omega⟩
theorem gro_of {n : Nat} {T : List (List Int × Nat × Int)} {w : List Int} (hT : (List.range (2 ^ sizeN n)).map (rowX n) = T) (hn : n ≤ 7) (hl : w.length = n) (h : groChk T w = true) : GroFacts n w := by
  unfold groChk at h
  simp only [Bool.and_eq_true, decide_eq_true_eq] at h
  obtain ⟨⟨⟨⟨a1, a2⟩, a3⟩, a4⟩, a5⟩ := h
  obtain ⟨b1, b2⟩ := smG_of a1
  obtain ⟨c1, c2⟩ := smG_of a2
  have hg := GMg_same w
  refine ⟨(GoodM.of_list hg.symm (GM_bd (by omega)) b1 b2).okp (Nat.le_refl _) (Nat.le_refl _), SM_okp (by omega) c1 c2, a3, ?_, ?_⟩
  · exact ((hg.part _).symm.trans ((same_of_gath a4).trans (SMg_same w))).eqv
  · unfold accX
    rw [hT]
    exact ((same_of_gath a5).trans hg).eqv
theorem groFacts {n : Nat} {w : List Int} (h2 : 2 ≤ n) (h4 : n ≤ 4) (hw : w ∈ perms n) : GroFacts n w := by
  obtain ⟨hl, _⟩ := perms_ok hw (by omega) (by omega)
  have hc : n = 2 ∨ n = 3 ∨ n = 4 := by omega
  rcases hc with rfl | rfl | rfl
  · exact gro_of tab2_eq (by decide) hl (List.all_eq_true.1 groChk2 w hw)
  · exact gro_of tab3_eq (by decide) hl (List.all_eq_true.1 groChk3 w hw)
  · exact gro_of tab4_eq (by decide) hl (List.all_eq_true.1 groChk4 w hw)
structure OkX (n x : Nat) : Prop where
  dream : isDream (n : Int) (cellsX n x) = true
  word : isWord (n : Int) (wordX n x) = true
  wlen : (wordX n x).length ≤ 6
  exps : ∀ v ∈ expX n x, 0 ≤ v ∧ v ≤ 24
theorem okX_of {n x : Nat} (h2 : 2 ≤ n) (h4 : n ≤ 4) (hx : x < 2 ^ sizeN n) : OkX n x := by
  have h1 := List.all_eq_true.1 okX_all n (by simp; omega)
  have h := List.all_eq_true.1 h1 x (List.mem_range.2 hx)
  unfold okX at h
  simp only [Bool.and_eq_true, decide_eq_true_eq, List.all_eq_true] at h
  exact ⟨h.1.1.1, h.1.1.2, h.1.2, h.2⟩
theorem sgn_bd (l : Nat) (L : Int) : -((1 : Nat) : Int) ≤ sgn l L ∧ sgn l L ≤ ((1 : Nat) : Int) := by
  unfold sgn
  split <;> omega
theorem expX_len {n : Nat} (h : n ≤ 7) (x : Nat) : (expX n x).length = 7 := (allS_good n x n h).len
theorem mono_good {n x : Nat} (h4 : n ≤ 4) (h : OkX n x) : GoodM 1 1 (monoM (expX n x)) :=
  GoodM.list (monoM_okp (by rw [expX_len (by omega)]; exact Nat.le_refl _) h.exps).bd
theorem accX_good {n : Nat} (h2 : 2 ≤ n) (h4 : n ≤ 4) (w : List Int) (L : Int) : ∀ x, x ≤ 2 ^ sizeN n → GoodM x x (accX n w L x)
  | 0, _ => GoodM.nil
  | x + 1, h => by
    have ih := accX_good h2 h4 w L x (by omega)
    rw [accX_succ]
    unfold accR
    split
    · exact (ih.plus (mono_good h4 (okX_of h2 h4 (by omega))) (sgn_bd _ _)).mono (Nat.le_refl _) (Nat.le_refl _)
    · exact ih.mono (by omega) (by omega)
theorem size_le {n : Nat} (h2 : 2 ≤ n) (h4 : n ≤ 4) : 2 ^ sizeN n ≤ 64 := by
  have hc : n = 2 ∨ n = 3 ∨ n = 4 := by omega
  rcases hc with rfl | rfl | rfl <;> decide
theorem accX_okp {n : Nat} (h2 : 2 ≤ n) (h4 : n ≤ 4) (w : List Int) (L : Int) {x : Nat} (h : x ≤ 2 ^ sizeN n) : OKp (accX n w L x) :=
  (accX_good h2 h4 w L x h).okp (by have := size_le h2 h4; omega) (by have := size_le h2 h4; omega)
theorem accX_zero (n : Nat) (w : List Int) (L : Int) : termsM (accX n w L 0) = [] := by
  have h : accX n w L 0 = [] := rfl
  rw [h]
  simp [termsM, canon, keysOf, uniq]
theorem size_int {n Z : Nat} (h2 : 2 ≤ n) (h4 : n ≤ 4) (hZ : sizeN n = Z) : wrap64 ((wrap64 ((n : Int) * ((n : Int) - 1))).tdiv 2) = (Z : Int) ∧ Z ≤ 6 := by
  subst hZ
  have hc : n = 2 ∨ n = 3 ∨ n = 4 := by omega
  rcases hc with rfl | rfl | rfl <;> exact ⟨by kernel_rfl, by decide⟩
theorem pow_int {Z P : Nat} (h : 2 ^ Z = P) (h6 : P ≤ 64) : wrap64 ((2 : Int) ^ Z) = (P : Int) := by
  have e : (2 : Int) ^ Z = ((2 ^ Z : Nat) : Int) := by
    rw [Int.natCast_pow]
    rfl
  rw [e, h]
  exact wrap_self (by omega)
theorem bitsTo_le (n : Nat) (h : n ≤ 4) : ∀ i, bitsTo n i ≤ 3 * i
  | 0 => Nat.le_refl _
  | i + 1 => by
    have := bitsTo_le n h i
    rw [bitsTo]
    omega

theorem implGro_ok (a : Option Addr) (n c : Nat) (u : List Int) (w : World) (hr : RI w a u) (hn : u.length = n) (hc : n ≤ c) (hp : isPerm u = true) (h5 : n ≤ 5) (hF : OKp (GM u)) :
    Calls Try.prog 25 #[.slice a n c] w fun e w' => ∃ a' n' c', e = .returned (.tuple #[.slice a' n' c', .bool true]) ∧ PT w' a' n' (GM u) ∧ Below w.heap.size w w' := by
  obtain ⟨h1, h2⟩ := gro_yes hp (by rw [hn]; exact h5)
  refine (implGro_any a n c u w hr hn (by omega) hc).mono ?_
  rintro e w1 ⟨a1, n1, c1, r1, rfl, ho, hr1, hb⟩
  obtain rfl : r1 = true := by rw [hr1.out, h2]; exact hF.ok
  have e1 : closedT (groM u u.length) = termsM (GM u) := closedT_ok hF.ok
  rw [h1, e1] at ho
  exact ⟨_, _, _, rfl, PT.of ho hF, hb⟩
end Go.Proofs.Ytflkomgfgmephaa
