/-
  Leibniz' rule of divided differences at drawn polynomials. Plain.
-/
import Derived.Test.YtblhndkaikelaaaBraidLaw
namespace Go.Proofs.Ytblhndkaikelaaa
open Go.RowKit

/-! two digits apart from the rest of the key -/
def rest (i : Nat) (k : Int) : Int := k - dig k i * unit i - dig k (i + 1) * unit (i + 1)
def two (i : Nat) (k : Int) : Int := dig k i + 128 * dig k (i + 1)
def sM (i : Nat) (R : Int) (F : Mons) : Mons := F.map fun p => (R + unit i * p.1, p.2)
theorem unit_succ (i : Nat) : unit (i + 1) = unit i * 128 := by rw [unit_add, unit1]
theorem put2_rest (k : Int) (i : Nat) (x y : Int) : put2 k i x y = rest i k + unit i * (x + 128 * y) := by
  unfold put2 rest
  rw [unit_succ, Int.mul_add]
  have e1 : x * unit i = unit i * x := Int.mul_comm _ _
  have e2 : y * (unit i * 128) = unit i * (128 * y) := by rw [Int.mul_comm, Int.mul_assoc]
  rw [e1, e2]
  omega
theorem key_two (i : Nat) (k : Int) : k = rest i k + unit i * two i k := by
  have := put2_rest k i (dig k i) (dig k (i + 1))
  unfold put2 at this
  unfold two
  omega
theorem two_digs (i : Nat) (k : Int) : dig (two i k) 0 = dig k i ∧ dig (two i k) 1 = dig k (i + 1) := by
  have h1 := dig_range k i
  have h2 := dig_range k (i + 1)
  unfold two
  rw [dig0, dig1]
  omega
theorem put2_two (i : Nat) (k x y : Int) : put2 (two i k) 0 x y = x + 128 * y := by
  obtain ⟨h1, h2⟩ := two_digs i k
  unfold put2
  rw [Nat.zero_add, h1, h2, unit0, unit1]
  unfold two
  omega
theorem dd_two (i : Nat) (k c : Int) : dd i (k, c) = sM i (rest i k) (dd 0 (two i k, c)) := by
  obtain ⟨h1, h2⟩ := two_digs i k
  have ek : ddKeys i k = (ddKeys 0 (two i k)).map fun q => rest i k + unit i * q := by
    unfold ddKeys
    rw [Nat.zero_add, h1, h2, List.map_map]
    refine List.map_congr_left fun t _ => ?_
    simp only [Function.comp]
    rw [put2_rest, put2_two]
  have es : sg i k = sg 0 (two i k) := by
    unfold sg
    rw [Nat.zero_add, h1, h2]
  unfold dd sM
  simp only
  rw [ek, es, List.map_map, List.map_map]
  rfl
theorem swap_two (i : Nat) (k : Int) : swapK i k = rest i k + unit i * swapK 0 (two i k) := by
  obtain ⟨h1, h2⟩ := two_digs i k
  unfold swapK
  rw [Nat.zero_add, h1, h2, put2_rest, put2_two]
theorem sM_one (i : Nat) (k : Int) : [(k, (1 : Int))] = sM i (rest i k) [(two i k, 1)] := by
  unfold sM
  rw [List.map_cons, List.map_nil, ← key_two]
theorem sM_times (i : Nat) (R S : Int) (F G : Mons) : timesM (sM i R F) (sM i S G) = sM i (R + S) (timesM F G) := by
  unfold timesM sM
  rw [List.flatMap_map, List.map_flatMap]
  congr 1
  funext p
  rw [List.map_map, List.map_map]
  refine List.map_congr_left fun q _ => ?_
  simp only [Function.comp, Prod.mk.injEq, and_true]
  rw [Int.mul_add]
  omega
theorem sM_plus (i : Nat) (R c : Int) (F G : Mons) : plusM (sM i R F) c (sM i R G) = sM i R (plusM F c G) := by
  unfold plusM sM scaleM
  rw [List.map_append, List.map_map, List.map_map]
  rfl
theorem Same.sM {i : Nat} {R : Int} {F G : Mons} (h : Same F G) : Same (sM i R F) (sM i R G) := h.keys fun k => R + unit i * k
theorem two_add {j k : Int} (hj : inK j) (hk : inK k) (h : ∀ i, i < 7 → dig j i + dig k i ≤ 127) {i : Nat} (hi : i ≤ 5) : two i (j + k) = two i j + two i k ∧ rest i (j + k) = rest i j + rest i k := by
  obtain ⟨_, h2⟩ := key_add hj hk h
  have e1 := h2 i (by omega)
  have e2 := h2 (i + 1) (by omega)
  have e3 : two i (j + k) = two i j + two i k := by
    unfold two
    rw [e1, e2]
    omega
  refine ⟨e3, ?_⟩
  have k1 := key_two i j
  have k2 := key_two i k
  have k3 := key_two i (j + k)
  rw [e3, Int.mul_add] at k3
  omega
/-- the right hand side of the rule -/
def leibR (i : Nat) (F G : Mons) : Mons := plusM (timesM (dividedM i F) G) 1 (timesM (swapM i F) (dividedM i G))
theorem dividedM_one (i : Nat) (p : Int × Int) : dividedM i [p] = dd i p := by simp [dividedM]
theorem leib_shift {i : Nat} (hi : i ≤ 5) {j k : Int} (hj : inK j) (hk : inK k) (h : ∀ i, i < 7 → dig j i + dig k i ≤ 127) :
    dividedM i (timesM [(j, 1)] [(k, 1)]) = sM i (rest i j + rest i k) (dd 0 (two i j + two i k, 1)) ∧ leibR i [(j, 1)] [(k, 1)] = sM i (rest i j + rest i k) (plusM (timesM (dd 0 (two i j, 1)) [(two i k, 1)]) 1 (timesM [(swapK 0 (two i j), 1)] (dd 0 (two i k, 1)))) := by
  obtain ⟨e1, e2⟩ := two_add hj hk h hi
  constructor
  · have : timesM [(j, (1 : Int))] [(k, 1)] = [(j + k, 1)] := by simp [timesM]
    rw [this, dividedM_one, dd_two, e1, e2]
  · unfold leibR
    rw [dividedM_one, dividedM_one, dd_two i j, dd_two i k]
    have hs : swapM i [(j, (1 : Int))] = sM i (rest i j) [(swapK 0 (two i j), 1)] := by
      unfold swapM sM
      simp only [List.map_cons, List.map_nil]
      rw [← swap_two]
    rw [hs]
    have hk2 := sM_one i k
    rw [← sM_plus, ← sM_times, ← sM_times, ← hk2]
theorem LinOp.timesL (G : Mons) : LinOp fun F => timesM F G := ⟨fun k v => wsum G fun j => v (k + j), fun F v => wsum_times F G v⟩
theorem LinOp.timesR (F : Mons) : LinOp fun G => timesM F G := ⟨fun j v => wsum F fun k => v (k + j), fun G v => by rw [wsum_times, wsum_swap]⟩
/-! by the kernel -/
def keys2 (a : Nat) : List Int := (List.range (7 - a)).map fun b : Nat => (a : Int) + 128 * (b : Int)
def leibB (κ μ : Int) : Mons := plusM (timesM (dd 0 (κ, 1)) [(μ, 1)]) 1 (timesM [(swapK 0 κ, 1)] (dd 0 (μ, 1)))
def leibChk (κ μ : Int) : Bool := decide (gath (dd 0 (κ + μ, 1)) = gath (leibB κ μ))
def leibAll (a : Nat) : Bool := (keys2 a).all fun κ => [0, 1, 2, 3, 4, 5, 6].all fun b => (keys2 b).all (leibChk κ)
set_option maxRecDepth 100000 in
theorem leibAll_ok : [0, 1, 2, 3, 4, 5, 6].all leibAll = true := by kernel_rfl
theorem two_mem {i : Nat} {k : Int} (hi : i ≤ 3) (h : degK k ≤ 6) : ∃ a, a ≤ 6 ∧ two i k ∈ keys2 a := by
  have d := fun j => dig_range k j
  have hs : dig k i + dig k (i + 1) ≤ 6 := by
    unfold degK at h
    have d0 := d 0; have d1 := d 1; have d2 := d 2; have d3 := d 3; have d4 := d 4; have d5 := d 5; have d6 := d 6
    have hc : i = 0 ∨ i = 1 ∨ i = 2 ∨ i = 3 := by omega
    rcases hc with rfl | rfl | rfl | rfl <;> simp only [Nat.zero_add, Nat.reduceAdd] <;> omega
  have da := d i; have db := d (i + 1)
  unfold two
  generalize dig k i = a at *
  generalize dig k (i + 1) = b at *
  refine ⟨a.toNat, by omega, ?_⟩
  unfold keys2
  simp only [List.mem_map, List.mem_range]
  exact ⟨b.toNat, by omega, by omega⟩
theorem leib_base {i : Nat} (hi : i ≤ 3) {j k : Int} (hj : degK j ≤ 6) (hk : degK k ≤ 6) : Same (dd 0 (two i j + two i k, 1)) (leibB (two i j) (two i k)) := by
  obtain ⟨a, ha, h1⟩ := two_mem hi hj
  obtain ⟨b, hb, h2⟩ := two_mem hi hk
  have h3 := List.all_eq_true.1 leibAll_ok a (upto6 ha)
  unfold leibAll at h3
  have h4 := List.all_eq_true.1 (List.all_eq_true.1 (List.all_eq_true.1 h3 _ h1) b (upto6 hb)) _ h2
  unfold leibChk at h4
  exact same_of_gath (by simpa using h4)
theorem leib_one {i : Nat} (hi : i ≤ 3) {j k : Int} (hj : inK j ∧ degK j ≤ 6) (hk : inK k ∧ degK k ≤ 6) : Same (dividedM i (timesM [(j, 1)] [(k, 1)])) (leibR i [(j, 1)] [(k, 1)]) := by
  obtain ⟨e1, e2⟩ := leib_shift (i := i) (by omega) hj.1 hk.1 fun t ht => by
    have := deg_bd hj.2 ht
    have := deg_bd hk.2 ht
    omega
  rw [e1, e2]
  exact (leib_base hi hj.2 hk.2).sM
/-- Leibniz' rule at polynomials of degree at most 6 -/
theorem leib {i : Nat} (hi : i ≤ 3) {F G : Mons} (hF : ∀ p ∈ F, inK p.1 ∧ degK p.1 ≤ 6) (hG : ∀ p ∈ G, inK p.1 ∧ degK p.1 ≤ 6) : Same (dividedM i (timesM F G)) (leibR i F G) := by
  have hx : LinOp fun F => dividedM i (timesM F G) := (LinOp.divided i).comp (LinOp.timesL G)
  have hy : LinOp fun F => leibR i F G := LinOp.plus ((LinOp.timesL G).comp (LinOp.divided i)) ((LinOp.timesL (dividedM i G)).comp (LinOp.swap i)) 1
  refine hx.ext hy fun p hp => ?_
  have hx2 : LinOp fun G => dividedM i (timesM [(p.1, 1)] G) := (LinOp.divided i).comp (LinOp.timesR _)
  have hy2 : LinOp fun G => leibR i [(p.1, 1)] G := LinOp.plus (LinOp.timesR _) ((LinOp.timesR _).comp (LinOp.divided i)) 1
  exact hx2.ext hy2 fun q hq => leib_one hi (hF p hp) (hG q hq)
/-! sizes -/
theorem times_length (F G : Mons) : (timesM F G).length = F.length * G.length := by
  unfold timesM
  induction F with
  | nil => simp
  | cons p F ih => rw [List.flatMap_cons, List.length_append, List.length_map, ih, List.length_cons, Nat.add_mul]; omega
theorem nrm_append (F G : Mons) : nrm (F ++ G) = nrm F + nrm G := by
  induction F with
  | nil => simp [nrm]
  | cons p F ih =>
    show p.2.natAbs + nrm (F ++ G) = p.2.natAbs + nrm F + nrm G
    rw [ih]; omega
theorem nrm_times (F G : Mons) : nrm (timesM F G) = nrm F * nrm G := by
  unfold timesM
  induction F with
  | nil => simp [nrm]
  | cons p F ih =>
    rw [List.flatMap_cons, nrm_append, ih]
    have : nrm (G.map fun q => (p.1 + q.1, p.2 * q.2)) = p.2.natAbs * nrm G := by
      clear ih
      induction G with
      | nil => simp [nrm]
      | cons q G ih =>
        show (p.2 * q.2).natAbs + nrm (G.map fun q => (p.1 + q.1, p.2 * q.2)) = p.2.natAbs * (q.2.natAbs + nrm G)
        rw [ih, Int.natAbs_mul, Nat.mul_add]
    rw [this]
    show _ = (p.2.natAbs + nrm F) * nrm G
    rw [Nat.add_mul]
theorem nrm_swap (i : Nat) (F : Mons) : nrm (swapM i F) = nrm F := by
  induction F with
  | nil => rfl
  | cons p F ih =>
    show p.2.natAbs + nrm (swapM i F) = p.2.natAbs + nrm F
    rw [ih]
theorem nrm_scale1 (F : Mons) : nrm (scaleM 1 F) = nrm F := by
  induction F with
  | nil => rfl
  | cons p F ih =>
    show (1 * p.2).natAbs + nrm (scaleM 1 F) = p.2.natAbs + nrm F
    rw [ih, Int.one_mul]
theorem dd_sizes {B : Nat} {F : Mons} (h : Bd B F) {i : Nat} (hi : i ≤ 5) : (dividedM i F).length ≤ F.length * B ∧ nrm (dividedM i F) ≤ nrm F * B := by
  induction F with
  | nil => simp [dividedM, nrm]
  | cons p F ih =>
    obtain ⟨h1, h2⟩ := ih fun q hq => h q (List.mem_cons_of_mem _ hq)
    have e : dividedM i (p :: F) = dd i p ++ dividedM i F := by unfold dividedM; rw [List.flatMap_cons]
    obtain ⟨_, hb⟩ := h p List.mem_cons_self
    have b1 := hb i (by omega)
    have b2 := hb (i + 1) (by omega)
    have r1 := dig_range p.1 i
    have r2 := dig_range p.1 (i + 1)
    have hl : (ddKeys i p.1).length ≤ B := by
      unfold ddKeys
      rw [List.length_map, List.length_range]
      omega
    have hn : ∀ (l : List Int) (s : Int), s.natAbs ≤ p.2.natAbs → nrm (l.map fun k => (k, s)) ≤ l.length * p.2.natAbs := by
      intro l s hs
      induction l with
      | nil => simp [nrm]
      | cons a l ih =>
        show s.natAbs + nrm (l.map fun k => (k, s)) ≤ (l.length + 1) * p.2.natAbs
        rw [Nat.add_mul]
        omega
    have hs : (sg i p.1 * p.2).natAbs ≤ p.2.natAbs := by
      unfold sg
      split
      · rw [Int.natAbs_mul]; simp
      · rw [Int.one_mul]; exact Nat.le_refl _
    have hn1 := hn (ddKeys i p.1) _ hs
    have hn2 : (ddKeys i p.1).length * p.2.natAbs ≤ p.2.natAbs * B := by rw [Nat.mul_comm]; exact Nat.mul_le_mul_left _ hl
    have hd : (dd i p).length = (ddKeys i p.1).length := by unfold dd; rw [List.length_map]
    rw [e, List.length_append, nrm_append, hd]
    refine ⟨by rw [List.length_cons, Nat.add_mul]; omega, ?_⟩
    have : nrm (dd i p) ≤ p.2.natAbs * B := Nat.le_trans hn1 hn2
    show _ ≤ (p.2.natAbs + nrm F) * B
    rw [Nat.add_mul]
    omega
theorem okp_list {B : Nat} {F : Mons} (h : Bd (B : Int) F) (hB : B ≤ 24) (hl : F.length ≤ 600) (hn : nrm F ≤ 1000000) : OKp F := (GoodM.list (h.mono (by omega))).okp hl hn
structure LeibOk (i : Nat) (F G : Mons) : Prop where
  p : OKp (timesM F G)
  d : OKp (dividedM i (timesM F G))
  df : OKp (dividedM i F)
  dg : OKp (dividedM i G)
  sf : OKp (swapM i F)
  a : OKp (timesM (dividedM i F) G)
  b : OKp (timesM (swapM i F) (dividedM i G))
  s : OKp (leibR i F G)
theorem Drawn.nrm {F : Mons} (h : Drawn F) : nrm F ≤ 20 := by
  have h1 : ∀ {F : Mons}, (∀ p ∈ F, p.2.natAbs ≤ 4) → Go.Proofs.Ytblhndkaikelaaa.nrm F ≤ F.length * 4 := by
    intro F h
    induction F with
    | nil => simp [Go.Proofs.Ytblhndkaikelaaa.nrm]
    | cons p F ih =>
      have e : Go.Proofs.Ytblhndkaikelaaa.nrm (p :: F) = p.2.natAbs + Go.Proofs.Ytblhndkaikelaaa.nrm F := rfl
      have := ih fun q hq => h q (List.mem_cons_of_mem _ hq)
      have := h p List.mem_cons_self
      rw [e, List.length_cons, Nat.add_mul]
      omega
  have := h1 h.low
  have := h.few
  omega
theorem leibOk {i : Nat} (hi : i ≤ 3) {F G : Mons} (hF : Drawn F) (hG : Drawn G) : LeibOk i F G := by
  have bF : Bd (6 : Nat) F := hF.bd
  have bG : Bd (6 : Nat) G := hG.bd
  have nF := hF.nrm
  have nG := hG.nrm
  have lF := hF.few
  have lG := hG.few
  have bP : Bd (12 : Nat) (timesM F G) := bF.times bG (by decide)
  have lP : (timesM F G).length ≤ 25 := by rw [times_length]; exact Nat.mul_le_mul lF lG
  have nP : Go.Proofs.Ytblhndkaikelaaa.nrm (timesM F G) ≤ 400 := by rw [nrm_times]; exact Nat.mul_le_mul nF nG
  obtain ⟨l1, n1⟩ := dd_sizes bP (i := i) (by omega)
  obtain ⟨l2, n2⟩ := dd_sizes bF (i := i) (by omega)
  obtain ⟨l3, n3⟩ := dd_sizes bG (i := i) (by omega)
  have b2 : Bd (6 : Nat) (dividedM i F) := bF.divided (by omega)
  have b3 : Bd (6 : Nat) (dividedM i G) := bG.divided (by omega)
  have b4 : Bd (6 : Nat) (swapM i F) := bF.swap (by omega)
  have l4 : (swapM i F).length ≤ 5 := by unfold swapM; rw [List.length_map]; exact lF
  have n4 : Go.Proofs.Ytblhndkaikelaaa.nrm (swapM i F) ≤ 20 := by rw [nrm_swap]; exact nF
  have bA : Bd (12 : Nat) (timesM (dividedM i F) G) := b2.times bG (by decide)
  have lA : (timesM (dividedM i F) G).length ≤ 30 * 5 := by rw [times_length]; exact Nat.mul_le_mul (by omega) lG
  have nA : Go.Proofs.Ytblhndkaikelaaa.nrm (timesM (dividedM i F) G) ≤ 120 * 20 := by rw [nrm_times]; exact Nat.mul_le_mul (by omega) nG
  have bB : Bd (12 : Nat) (timesM (swapM i F) (dividedM i G)) := b4.times b3 (by decide)
  have lB : (timesM (swapM i F) (dividedM i G)).length ≤ 5 * 30 := by rw [times_length]; exact Nat.mul_le_mul l4 (by omega)
  have nB : Go.Proofs.Ytblhndkaikelaaa.nrm (timesM (swapM i F) (dividedM i G)) ≤ 20 * 120 := by rw [nrm_times]; exact Nat.mul_le_mul n4 (by omega)
  refine ⟨okp_list bP (by decide) (by omega) (by omega), okp_list (bP.divided (by omega)) (by decide) (by omega) (by omega), okp_list b2 (by decide) (by omega) (by omega), okp_list b3 (by decide) (by omega) (by omega),
    okp_list b4 (by decide) (by omega) (by omega), okp_list bA (by decide) (by omega) (by omega), okp_list bB (by decide) (by omega) (by omega), okp_list (B := 12) (bA.plus bB) (by decide) ?_ ?_⟩
  · unfold leibR plusM scaleM
    rw [List.length_append, List.length_map]
    omega
  · unfold leibR plusM
    rw [nrm_append, nrm_scale1]
    omega
end Go.Proofs.Ytblhndkaikelaaa
