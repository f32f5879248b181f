/-
  Polynomials are a ring, values go with sums and products: at drawn polynomials. Plain.
-/
import Derived.Test.YtblhndkaikelaaaSymLaw
import Derived.Test.YtblhndkaikelaaaEval
namespace Go.Proofs.Ytblhndkaikelaaa
open Go.RowKit

def vK (ys : List Int) (k : Int) : Int := valE ys (digs k)
theorem foldl_sum (ys : List Int) : ∀ (l : Mons) (s : Int), (l.map term).foldl (fun s t => s + t.2 * valE ys t.1) s = s + wsum l (vK ys)
  | [], s => by simp [wsum]
  | p :: l, s => by
    rw [List.map_cons, List.foldl_cons, foldl_sum ys l, wsum]
    show s + p.2 * valE ys (digs p.1) + wsum l (vK ys) = s + (p.2 * valE ys (digs p.1) + wsum l (vK ys))
    omega
theorem raw_canon {F : Mons} (h : nrm F ≤ 1000000) (k : Int) : raw (canon F) k = raw F k := by
  have e : raw (canon F) k = coef F k := by
    unfold canon
    rw [raw_map (keysOf_nodup F)]
    split
    · rfl
    · rename_i hk
      rw [mem_keysOf] at hk
      exact (Decidable.not_not.1 hk).symm
  have := raw_nrm F k
  rw [e]
  unfold coef
  exact wrap_self (by omega)
theorem same_canon {F : Mons} (h : nrm F ≤ 1000000) : Same (canon F) F := same_of_raw (raw_canon h)
/-- the value of a polynomial -/
def vP (ys : List Int) (F : Mons) : Int := wsum F (vK ys)
theorem evTo_val {F : Mons} (h : nrm F ≤ 1000000) (ys : List Int) {n : Nat} (hn : (termsM F).length = n) : evTo (termsM F) ys n = vP ys F := by
  unfold evTo
  rw [List.take_of_length_le (by omega)]
  unfold termsM vP
  rw [foldl_sum, Int.zero_add]
  exact same_canon h _
theorem powTo_digs (ys : List Int) (k : Int) : vK ys k = (ys.getD 0 0) ^ (dig k 0).toNat * (ys.getD 1 0) ^ (dig k 1).toNat * (ys.getD 2 0) ^ (dig k 2).toNat * (ys.getD 3 0) ^ (dig k 3).toNat * (ys.getD 4 0) ^ (dig k 4).toNat * (ys.getD 5 0) ^ (dig k 5).toNat * (ys.getD 6 0) ^ (dig k 6).toNat := by
  have d : ∀ i, i < 7 → (digs k).getD i 0 = dig k i := fun i hi => getD_of (digs_at hi)
  unfold vK valE
  simp only [powTo]
  rw [d 0 (by omega), d 1 (by omega), d 2 (by omega), d 3 (by omega), d 4 (by omega), d 5 (by omega), d 6 (by omega), Int.one_mul]
theorem pow_add_nat {y a b c : Int} (ha : 0 ≤ a) (hb : 0 ≤ b) (h : c = a + b) : y ^ c.toNat = y ^ a.toNat * y ^ b.toNat := by
  subst h
  rw [← Int.pow_add]
  congr 1
  omega
theorem vK_add {ys : List Int} {j k : Int} (hj : inK j) (hk : inK k) (h : ∀ i, i < 7 → dig j i + dig k i ≤ 127) : vK ys (j + k) = vK ys j * vK ys k := by
  obtain ⟨_, e⟩ := key_add hj hk h
  have q : ∀ i, i < 7 → ∀ y : Int, y ^ (dig (j + k) i).toNat = y ^ (dig j i).toNat * y ^ (dig k i).toNat := fun i hi y => pow_add_nat (dig_range j i).1 (dig_range k i).1 (e i hi)
  rw [powTo_digs, powTo_digs, powTo_digs, q 0 (by omega), q 1 (by omega), q 2 (by omega), q 3 (by omega), q 4 (by omega), q 5 (by omega), q 6 (by omega)]
  simp only [Int.mul_assoc, Int.mul_left_comm]
theorem wsum_factor (G : Mons) (c : Int) (f : Int → Int) : wsum G (fun j => c * f j) = c * wsum G f := by
  induction G with
  | nil => simp [wsum]
  | cons q G ih =>
    rw [wsum, ih, wsum, Int.mul_add, ← Int.mul_assoc, Int.mul_comm q.2 c, Int.mul_assoc]
theorem wsum_right (F : Mons) (c : Int) (f : Int → Int) : wsum F (fun k => f k * c) = wsum F f * c := by
  have : (fun k => f k * c) = fun k => c * f k := by funext k; exact Int.mul_comm _ _
  rw [this, wsum_factor, Int.mul_comm]
theorem vP_times {ys : List Int} {F G : Mons} (h : ∀ p ∈ F, ∀ q ∈ G, inK p.1 ∧ inK q.1 ∧ ∀ i, i < 7 → dig p.1 i + dig q.1 i ≤ 127) : vP ys (timesM F G) = vP ys F * vP ys G := by
  unfold vP
  rw [wsum_times]
  have h1 : (wsum F fun k => wsum G fun j => vK ys (k + j)) = wsum F fun k => vK ys k * wsum G (vK ys) := wsum_congr fun p hp => by
    rw [← wsum_factor]
    exact wsum_congr fun q hq => by
      obtain ⟨a, b, c⟩ := h p hp q hq
      exact vK_add a b c
  rw [h1, wsum_right]
theorem vP_plus (ys : List Int) (F G : Mons) : vP ys (plusM F 1 G) = vP ys F + vP ys G := by
  unfold vP plusM
  rw [wsum_append, wsum_scale, Int.one_mul]
theorem distrib (F G H : Mons) : Same (timesM (plusM F 1 G) H) (plusM (timesM F H) 1 (timesM G H)) := fun v => by
  unfold plusM
  rw [wsum_append, wsum_scale, Int.one_mul, wsum_times, wsum_append, wsum_scale, Int.one_mul, wsum_times, wsum_times]
theorem minus_self (F : Mons) : Same (plusM F (-1) F) [] := fun v => by
  unfold plusM
  rw [wsum_append, wsum_scale]
  show wsum F v + -1 * wsum F v = 0
  omega
structure RingOk (F G H : Mons) : Prop where
  a : OKp (plusM F 1 G)
  b : OKp (timesM (plusM F 1 G) H)
  fh : OKp (timesM F H)
  gh : OKp (timesM G H)
  s : OKp (plusM (timesM F H) 1 (timesM G H))
  p : OKp (timesM F G)
  q : OKp (timesM G F)
  m : OKp (plusM F (-1) F)
  na : nrm (plusM F 1 G) ≤ 1000000
  np : nrm (timesM F G) ≤ 1000000
  nf : nrm F ≤ 1000000
  ng : nrm G ≤ 1000000
theorem plus_sizes (F G : Mons) : (plusM F 1 G).length = F.length + G.length ∧ nrm (plusM F 1 G) = nrm F + nrm G := by
  unfold plusM
  rw [List.length_append, scale_length, nrm_append, nrm_scale1]
  exact ⟨rfl, rfl⟩
theorem ringOk {F G H : Mons} (hF : Drawn F) (hG : Drawn G) (hH : Drawn H) : RingOk F G H := by
  have bF : Bd (6 : Nat) F := hF.bd
  have bG : Bd (6 : Nat) G := hG.bd
  have bH : Bd (6 : Nat) H := hH.bd
  have nF := hF.nrm
  have nG := hG.nrm
  have nH := hH.nrm
  have lF := hF.few
  have lG := hG.few
  have lH := hH.few
  obtain ⟨l1, n1⟩ := plus_sizes F G
  have t : ∀ {X Y : Mons} {a b c d : Nat}, X.length ≤ a → nrm X ≤ b → Y.length ≤ c → nrm Y ≤ d → (timesM X Y).length ≤ a * c ∧ nrm (timesM X Y) ≤ b * d := fun h1 h2 h3 h4 =>
    ⟨by rw [times_length]; exact Nat.mul_le_mul h1 h3, by rw [nrm_times]; exact Nat.mul_le_mul h2 h4⟩
  have bA : Bd (6 : Nat) (plusM F 1 G) := bF.plus bG
  have tB := t (X := plusM F 1 G) (Y := H) (a := 10) (b := 40) (c := 5) (d := 20) (by omega) (by omega) lH nH
  have tFH := t (X := F) (Y := H) lF nF lH nH
  have tGH := t (X := G) (Y := H) lG nG lH nH
  have tP := t (X := F) (Y := G) lF nF lG nG
  have tQ := t (X := G) (Y := F) lG nG lF nF
  obtain ⟨l2, n2⟩ := plus_sizes (timesM F H) (timesM G H)
  have bFH : Bd (12 : Nat) (timesM F H) := bF.times bH (by decide)
  have bGH : Bd (12 : Nat) (timesM G H) := bG.times bH (by decide)
  refine ⟨okp_list bA (by decide) (by omega) (by omega), okp_list (B := 12) (bA.times bH (by decide)) (by decide) (by omega) (by omega), okp_list bFH (by decide) (by omega) (by omega), okp_list bGH (by decide) (by omega) (by omega),
    okp_list (B := 12) (bFH.plus bGH) (by decide) (by omega) (by omega), okp_list (B := 12) (bF.times bG (by decide)) (by decide) (by omega) (by omega), okp_list (B := 12) (bG.times bF (by decide)) (by decide) (by omega) (by omega),
    okp_list (B := 6) (bF.plus bF) (by decide) ?_ ?_, by omega, by omega, by omega, by omega⟩
  · unfold plusM; rw [List.length_append, scale_length]; omega
  · unfold plusM; rw [nrm_append, nrm_scale_neg]; omega
theorem vals {F G : Mons} (hF : Drawn F) (hG : Drawn G) (ys : List Int) : vP ys (timesM F G) = vP ys F * vP ys G := vP_times fun p hp q hq => by
  obtain ⟨h1, h2⟩ := hF.keys p hp
  obtain ⟨h3, h4⟩ := hG.keys q hq
  refine ⟨h1, h3, fun i hi => ?_⟩
  have := deg_bd h2 hi
  have := deg_bd h4 hi
  omega
theorem res_mul (a b : Int) : (a % 32003 * (b % 32003)).tmod 32003 = a * b % 32003 := by
  have h1 := Int.emod_nonneg a (show (32003 : Int) ≠ 0 by decide)
  have h2 := Int.emod_nonneg b (show (32003 : Int) ≠ 0 by decide)
  rw [Int.tmod_eq_emod_of_nonneg (Int.mul_nonneg h1 h2), ← Int.mul_emod]
theorem res_add (a b : Int) : (a % 32003 + b % 32003).tmod 32003 = (a + b) % 32003 := by
  have h1 := Int.emod_nonneg a (show (32003 : Int) ≠ 0 by decide)
  have h2 := Int.emod_nonneg b (show (32003 : Int) ≠ 0 by decide)
  rw [Int.tmod_eq_emod_of_nonneg (by omega)]
  omega
end Go.Proofs.Ytblhndkaikelaaa
