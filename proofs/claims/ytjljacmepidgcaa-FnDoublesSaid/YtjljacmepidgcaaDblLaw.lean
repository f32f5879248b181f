/-
  Double Schubert polynomials in both kinds of variables. Plain.
-/
import Derived.Test.YtjljacmepidgcaaBuK20
import Derived.Test.YtjljacmepidgcaaBuK22
import Derived.Test.YtjljacmepidgcaaBuK23
import Derived.Test.YtjljacmepidgcaaInverse
namespace Go.Proofs.Ytjljacmepidgcaa
open Go.RowKit

theorem wsum_nought : ∀ (n : Nat) (l : Mons), l.length ≤ n → (∀ k, raw l k = 0) → ∀ v, wsum l v = 0 := by
  intro n
  induction n with
  | zero =>
    intro l hl _ v
    have : l = [] := List.length_eq_zero_iff.1 (by omega)
    subst this
    rfl
  | succ n ih =>
    intro l hl h v
    cases l with
    | nil => rfl
    | cons p l =>
      rw [wsum_split (p :: l) p.1 v, h p.1, Int.zero_mul, Int.zero_add]
      refine ih _ ?_ ?_ v
      · have e : less1 (p :: l) p.1 = less1 l p.1 := by simp [less1]
        rw [e]
        have := less1_length l p.1
        simp only [List.length_cons] at hl
        omega
      · intro k
        rw [raw_less1]
        split
        · rfl
        · exact h k
theorem same_of_raw {F G : Mons} (h : ∀ k, raw F k = raw G k) : Same F G := fun v => by
  have h1 : ∀ k, raw (F ++ negs G) k = 0 := fun k => by
    have := h k
    unfold raw at *
    rw [wsum_append, wsum_negs]
    omega
  have := wsum_nought _ _ (Nat.le_refl _) h1 v
  rw [wsum_append, wsum_negs] at this
  omega
def vK (ys : List Int) (k : Int) : Int := valE ys (digs k)
theorem foldl_sum (ys : List Int) : ∀ (l : Mons) (s : Int), (l.map term).foldl (fun s t => s + t.2 * valE ys t.1) s = s + wsum l (vK ys)
  | [], s => by simp [wsum]
  | p :: l, s => by
    rw [List.map_cons, List.foldl_cons, foldl_sum ys l, wsum]
    show s + p.2 * valE ys (digs p.1) + wsum l (vK ys) = s + (p.2 * valE ys (digs p.1) + wsum l (vK ys))
    omega
/-- the value of a polynomial -/
def vP (ys : List Int) (F : Mons) : Int := wsum F (vK ys)
theorem powTo_digs (ys : List Int) (k : Int) : vK ys k = (ys.getD 0 0) ^ (dig k 0).toNat * (ys.getD 1 0) ^ (dig k 1).toNat * (ys.getD 2 0) ^ (dig k 2).toNat * (ys.getD 3 0) ^ (dig k 3).toNat * (ys.getD 4 0) ^ (dig k 4).toNat * (ys.getD 5 0) ^ (dig k 5).toNat * (ys.getD 6 0) ^ (dig k 6).toNat := by
  have d : ∀ i, i < 7 → (digs k).getD i 0 = dig k i := fun i hi => getD_of (digs_at hi)
  unfold vK valE
  simp only [powTo]
  rw [d 0 (by omega), d 1 (by omega), d 2 (by omega), d 3 (by omega), d 4 (by omega), d 5 (by omega), d 6 (by omega), Int.one_mul]
def ymon : List Int → List Nat → Int
  | y :: ys, e :: es => y ^ e * ymon ys es
  | _, _ => 1
def incN : List Nat → Nat → List Nat
  | [], _ => []
  | e :: es, 0 => (e + 1) :: es
  | e :: es, j + 1 => e :: incN es j
theorem incN_length : ∀ (es : List Nat) (j : Nat), (incN es j).length = es.length
  | [], _ => rfl
  | _ :: _, 0 => rfl
  | _ :: es, j + 1 => by simp [incN, incN_length es j]
theorem ymon_inc : ∀ {ys : List Int} {es : List Nat} {j : Nat}, j < ys.length → j < es.length → ymon ys (incN es j) = ys.getD j 0 * ymon ys es
  | [], _, _, h, _ => by simp at h
  | _ :: _, [], _, _, h => by simp at h
  | y :: ys, e :: es, 0, _, _ => by
    simp only [incN, ymon, List.getD_cons_zero, Int.pow_succ]
    rw [Int.mul_comm (y ^ e) y, Int.mul_assoc]
  | y :: ys, e :: es, j + 1, h, k => by
    simp only [incN, ymon, List.getD_cons_succ]
    rw [ymon_inc (by simpa using h) (by simpa using k), Int.mul_left_comm]
theorem ymon_neg : ∀ (ys : List Int) (es : List Nat), ys.length = es.length → ymon (ys.map fun y => 0 - y) es = (-1) ^ es.sum * ymon ys es
  | [], [], _ => by simp [ymon]
  | [], _ :: _, h => by simp at h
  | _ :: _, [], h => by simp at h
  | y :: ys, e :: es, h => by
    have ih := ymon_neg ys es (by simpa using h)
    simp only [List.map_cons, ymon, List.sum_cons]
    rw [ih, show (0 - y) = (-1) * y by omega, Int.mul_pow, Int.pow_add]
    simp only [Int.mul_assoc, Int.mul_left_comm]
theorem ymon_pad : ∀ (ys : List Int) (es : List Nat) (m : Nat), ys.length = es.length → ymon (ys ++ List.replicate m 0) (es ++ List.replicate m 0) = ymon ys es
  | [], [], m, _ => by
    induction m with
    | zero => rfl
    | succ m ih => simp only [List.nil_append, List.replicate_succ, ymon] at ih ⊢; rw [ih]; simp
  | [], _ :: _, _, h => by simp at h
  | _ :: _, [], _, h => by simp at h
  | y :: ys, e :: es, m, h => by
    simp only [List.cons_append, ymon]
    rw [ymon_pad ys es m (by simpa using h)]
theorem pow_bound {y : Int} (h : -9 ≤ y ∧ y ≤ 9) : ∀ e : Nat, (y ^ e).natAbs ≤ 9 ^ e
  | 0 => by simp
  | e + 1 => by
    rw [Int.pow_succ, Int.natAbs_mul, Nat.pow_succ]
    exact Nat.mul_le_mul (pow_bound h e) (by omega)
theorem ymon_bound : ∀ {ys : List Int} (es : List Nat), (∀ y ∈ ys, -9 ≤ y ∧ y ≤ 9) → (ymon ys es).natAbs ≤ 9 ^ es.sum
  | [], es, _ => by simp [ymon]; exact Nat.one_le_pow _ _ (by omega)
  | _ :: _, [], _ => by simp [ymon]
  | y :: ys, e :: es, h => by
    simp only [ymon, List.sum_cons]
    rw [Int.natAbs_mul, Nat.pow_add]
    exact Nat.mul_le_mul (pow_bound (h y List.mem_cons_self) e) (ymon_bound es fun z hz => h z (List.mem_cons_of_mem _ hz))
theorem vK_ymon {ys : List Int} (h : ys.length = 7) (k : Int) : vK ys k = ymon ys ((digs k).map Int.toNat) := by
  match ys, h with
  | [y0, y1, y2, y3, y4, y5, y6], _ =>
    rw [powTo_digs]
    show _ = ymon [y0, y1, y2, y3, y4, y5, y6] [(dig k 0).toNat, (dig k 1).toNat, (dig k 2).toNat, (dig k 3).toNat, (dig k 4).toNat, (dig k 5).toNat, (dig k 6).toNat]
    simp only [ymon, List.getD_cons_zero, List.getD_cons_succ, Int.mul_one, Int.mul_assoc]

/-! the polynomials, the powers of the second kind beside -/
def step3 (i j : Nat) (T : List (Int × List Nat × Int)) : List (Int × List Nat × Int) := (T.map fun t => (t.1 + unit i, t.2.1, t.2.2)) ++ T.map fun t => (t.1, incN t.2.1 j, -t.2.2)
def in3 (i : Nat) (T : List (Int × List Nat × Int)) : Nat → List (Int × List Nat × Int)
  | 0 => T
  | m + 1 => step3 i m (in3 i T m)
def to3 (n : Nat) : Nat → List (Int × List Nat × Int)
  | 0 => [(0, List.replicate n 0, 1)]
  | k + 1 => in3 k (to3 n k) (n - 1 - k)
def div3 (i : Nat) (T : List (Int × List Nat × Int)) : List (Int × List Nat × Int) := T.flatMap fun t => (ddKeys i t.1).map fun k => (k, t.2.1, sg i t.1 * t.2.2)
def sd3 (w : List Int) : List (Int × List Nat × Int) := (ups w).foldr div3 (to3 w.length w.length)
def phi (ys : List Int) (T : List (Int × List Nat × Int)) : Mons := T.map fun t => (t.1, ymon ys t.2.1 * t.2.2)
def Len3 (n : Nat) (T : List (Int × List Nat × Int)) : Prop := ∀ t ∈ T, t.2.1.length = n
theorem Len3.step {n i j : Nat} {T : List (Int × List Nat × Int)} (h : Len3 n T) : Len3 n (step3 i j T) := fun t ht => by
  unfold step3 at ht
  rcases List.mem_append.1 ht with ht | ht
  · obtain ⟨s, hs, rfl⟩ := List.mem_map.1 ht
    exact h s hs
  · obtain ⟨s, hs, rfl⟩ := List.mem_map.1 ht
    show (incN s.2.1 j).length = n
    rw [incN_length]
    exact h s hs
theorem Len3.in {n i : Nat} {T : List (Int × List Nat × Int)} (h : Len3 n T) : ∀ m, Len3 n (in3 i T m)
  | 0 => h
  | m + 1 => (h.in m).step
theorem Len3.to (n : Nat) : ∀ k, Len3 n (to3 n k)
  | 0 => fun t ht => by
    rw [to3, List.mem_singleton] at ht
    subst ht
    simp
  | k + 1 => (Len3.to n k).in _
theorem phi_step {n i j : Nat} {ys : List Int} {T : List (Int × List Nat × Int)} (hy : ys.length = n) (hj : j < n) (h : Len3 n T) : phi ys (step3 i j T) = dblStep i (ys.getD j 0) (phi ys T) := by
  unfold phi step3 dblStep plusM raisedM scaleM
  rw [List.map_append, List.map_map, List.map_map, List.map_map, List.map_map]
  congr 1
  refine List.map_congr_left fun t ht => ?_
  simp only [Function.comp]
  rw [ymon_inc (by omega) (by rw [h t ht]; exact hj), Int.mul_assoc, Int.mul_neg, Int.neg_mul, Int.mul_neg]
theorem phi_in {n i : Nat} {ys : List Int} {T : List (Int × List Nat × Int)} (hy : ys.length = n) (h : Len3 n T) : ∀ m, m ≤ n → phi ys (in3 i T m) = dblIn ys i (phi ys T) m
  | 0, _ => rfl
  | m + 1, hm => by
    rw [in3, dblIn, phi_step hy (by omega) (h.in m), phi_in hy h m (by omega)]
theorem ymon_zero : ∀ (ys : List Int) (n : Nat), ymon ys (List.replicate n 0) = 1
  | [], n => by cases n <;> rfl
  | y :: ys, 0 => rfl
  | y :: ys, n + 1 => by
    simp only [List.replicate_succ, ymon]
    rw [ymon_zero ys n]
    simp
theorem phi_to {n : Nat} {ys : List Int} (hy : ys.length = n) : ∀ k, k ≤ n → phi ys (to3 n k) = dblTo n ys k
  | 0, _ => by
    unfold phi
    rw [to3, dblTo]
    simp only [List.map_cons, List.map_nil]
    rw [ymon_zero]
    rfl
  | k + 1, hk => by rw [to3, dblTo, phi_in hy (Len3.to n k) _ (by omega), phi_to hy k (by omega)]
theorem flatMap_alike {α β : Type} {f g : α → List β} : ∀ {l : List α}, (∀ a ∈ l, f a = g a) → l.flatMap f = l.flatMap g
  | [], _ => rfl
  | a :: l, h => by rw [List.flatMap_cons, List.flatMap_cons, h a List.mem_cons_self, flatMap_alike fun b hb => h b (List.mem_cons_of_mem _ hb)]
theorem phi_div (ys : List Int) (i : Nat) (T : List (Int × List Nat × Int)) : phi ys (div3 i T) = dividedM i (phi ys T) := by
  unfold phi div3 dividedM
  rw [List.map_flatMap, List.flatMap_map]
  refine flatMap_alike fun t _ => ?_
  unfold dd
  rw [List.map_map]
  refine List.map_congr_left fun k _ => ?_
  simp only [Function.comp]
  rw [Int.mul_left_comm]
theorem phi_sd {w ys : List Int} (hy : ys.length = w.length) : phi ys (sd3 w) = dblM w ys := by
  unfold sd3 dblM
  rw [← phi_to hy w.length (Nat.le_refl _)]
  induction ups w with
  | nil => rfl
  | cons i l ih => rw [List.foldr_cons, List.foldr_cons, phi_div, ih]

/-! values -/
def W7 : Int := 562949953421312
def keyE (e : List Nat) : Int := e.foldr (fun (x : Nat) k => (x : Int) + 128 * k) 0
def enc1 (t : Int × List Nat × Int) : Int × Int := (t.1 + W7 * keyE t.2.1, t.2.2)
def enc2 (t : Int × List Nat × Int) : Int × Int := (keyE t.2.1 + W7 * t.1, (-1) ^ (t.2.1.sum + ((digs t.1).map Int.toNat).sum) * t.2.2)
def V7 (xs ys : List Int) (K : Int) : Int := vK xs (K % W7) * vK ys (K / W7)
def t3ok (n : Nat) (t : Int × List Nat × Int) : Bool := decide (0 ≤ t.1) && decide (t.1 < W7) && decide (0 ≤ keyE t.2.1) && decide (keyE t.2.1 < W7) && decide (t.2.1.length = n) && decide ((digs (keyE t.2.1)).map Int.toNat = t.2.1 ++ List.replicate (7 - n) 0) && decide (t.2.1.sum ≤ 6)
structure T3Ok (n : Nat) (t : Int × List Nat × Int) : Prop where
  x0 : 0 ≤ t.1
  x1 : t.1 < W7
  y0 : 0 ≤ keyE t.2.1
  y1 : keyE t.2.1 < W7
  len : t.2.1.length = n
  dig : (digs (keyE t.2.1)).map Int.toNat = t.2.1 ++ List.replicate (7 - n) 0
  deg : t.2.1.sum ≤ 6
theorem t3ok_iff {n : Nat} {t : Int × List Nat × Int} (h : t3ok n t = true) : T3Ok n t := by
  unfold t3ok at h
  simp only [Bool.and_eq_true, decide_eq_true_eq] at h
  obtain ⟨⟨⟨⟨⟨⟨h1, h2⟩, h3⟩, h4⟩, h5⟩, h6⟩, h7⟩ := h
  exact ⟨h1, h2, h3, h4, h5, h6, h7⟩
def fill7 (ys : List Int) : List Int := ys ++ List.replicate (7 - ys.length) 0
theorem fill7_length {ys : List Int} (h : ys.length ≤ 7) : (fill7 ys).length = 7 := by simp [fill7]; omega
theorem vK_fill {n : Nat} {t : Int × List Nat × Int} (h : T3Ok n t) {ys : List Int} (hy : ys.length = n) (h7 : n ≤ 7) : vK (fill7 ys) (keyE t.2.1) = ymon ys t.2.1 := by
  rw [vK_ymon (fill7_length (by omega)), h.dig, fill7, hy, ymon_pad _ _ _ (by rw [hy, h.len])]
theorem split7 {a b : Int} (h0 : 0 ≤ a) (h1 : a < W7) : (a + W7 * b) % W7 = a ∧ (a + W7 * b) / W7 = b := by
  unfold W7 at *
  omega
theorem enc1_val {n : Nat} {xs ys : List Int} (hx : xs.length = n) (hy : ys.length = n) (h7 : n ≤ 7) : ∀ {T : List (Int × List Nat × Int)}, (∀ t ∈ T, T3Ok n t) → wsum (T.map enc1) (V7 (fill7 xs) (fill7 ys)) = vP (fill7 xs) (phi ys T)
  | [], _ => rfl
  | t :: T, h => by
    have ht := h t List.mem_cons_self
    have ih := enc1_val hx hy h7 (T := T) fun s hs => h s (List.mem_cons_of_mem _ hs)
    unfold vP at ih ⊢
    rw [List.map_cons, wsum, ih]
    show t.2.2 * V7 (fill7 xs) (fill7 ys) (t.1 + W7 * keyE t.2.1) + _ = ymon ys t.2.1 * t.2.2 * vK (fill7 xs) t.1 + _
    obtain ⟨e1, e2⟩ := split7 (b := keyE t.2.1) ht.x0 ht.x1
    unfold V7
    rw [e1, e2, vK_fill ht hy h7]
    congr 1
    rw [Int.mul_comm (ymon ys t.2.1) t.2.2, Int.mul_assoc, Int.mul_comm (ymon ys t.2.1)]
theorem neg_fill (ys : List Int) : fill7 (ys.map fun y => 0 - y) = (fill7 ys).map fun y => 0 - y := by
  unfold fill7
  rw [List.map_append, List.length_map, List.map_replicate]
  rfl
theorem enc2_val {n : Nat} {xs ys : List Int} (hx : xs.length = n) (hy : ys.length = n) (h7 : n ≤ 7) : ∀ {T : List (Int × List Nat × Int)}, (∀ t ∈ T, T3Ok n t) →
    wsum (T.map enc2) (V7 (fill7 xs) (fill7 ys)) = vP (fill7 (ys.map fun y => 0 - y)) (phi (xs.map fun y => 0 - y) T)
  | [], _ => rfl
  | t :: T, h => by
    have ht := h t List.mem_cons_self
    have ih := enc2_val hx hy h7 (T := T) fun s hs => h s (List.mem_cons_of_mem _ hs)
    unfold vP at ih ⊢
    rw [List.map_cons, wsum, ih]
    show (-1) ^ (t.2.1.sum + ((digs t.1).map Int.toNat).sum) * t.2.2 * V7 (fill7 xs) (fill7 ys) (keyE t.2.1 + W7 * t.1) + _ = ymon (xs.map fun y => 0 - y) t.2.1 * t.2.2 * vK (fill7 (ys.map fun y => 0 - y)) t.1 + _
    obtain ⟨e1, e2⟩ := split7 (b := t.1) ht.y0 ht.y1
    have f1 := ymon_neg xs t.2.1 (by rw [hx, ht.len])
    have f2 : vK (fill7 (ys.map fun y => 0 - y)) t.1 = (-1) ^ ((digs t.1).map Int.toNat).sum * vK (fill7 ys) t.1 := by
      have l1 := fill7_length (ys := ys) (by omega)
      rw [neg_fill, vK_ymon (by rw [List.length_map]; exact l1), vK_ymon l1, ymon_neg _ _ (by rw [l1, List.length_map, digs_length])]
    unfold V7
    rw [e1, e2, vK_fill ht hx h7, f1, f2, Int.pow_add]
    congr 1
    simp only [Int.mul_assoc, Int.mul_left_comm, Int.mul_comm]
theorem nrm_phi {n C : Nat} {ys : List Int} (h9 : ∀ y ∈ ys, -9 ≤ y ∧ y ≤ 9) : ∀ {T : List (Int × List Nat × Int)}, (∀ t ∈ T, T3Ok n t) → nrm (T.map fun t => (t.1, t.2.2)) ≤ C → nrm (phi ys T) ≤ 531441 * C
  | [], _, _ => Nat.zero_le _
  | t :: T, h, hC => by
    have ht := h t List.mem_cons_self
    have e1 : nrm ((t :: T).map fun t => (t.1, t.2.2)) = t.2.2.natAbs + nrm (T.map fun t => (t.1, t.2.2)) := rfl
    have e2 : nrm (phi ys (t :: T)) = (ymon ys t.2.1 * t.2.2).natAbs + nrm (phi ys T) := rfl
    rw [e1] at hC
    have ih := nrm_phi (n := n) h9 (T := T) (C := C - t.2.2.natAbs) (fun s hs => h s (List.mem_cons_of_mem _ hs)) (by omega)
    have h1 : (ymon ys t.2.1).natAbs ≤ 531441 := Nat.le_trans (ymon_bound t.2.1 h9) (Nat.le_trans (Nat.pow_le_pow_right (by omega) ht.deg) (by decide))
    have h2 : (ymon ys t.2.1 * t.2.2).natAbs ≤ 531441 * t.2.2.natAbs := by
      rw [Int.natAbs_mul]
      exact Nat.mul_le_mul_right _ h1
    rw [e2]
    have h3 : 531441 * C = 531441 * t.2.2.natAbs + 531441 * (C - t.2.2.natAbs) := by rw [← Nat.mul_add]; congr 1; omega
    omega
theorem evTo_big {F : Mons} (h : nrm F ≤ 1000000000000) (ys : List Int) {n : Nat} (hn : (termsM F).length = n) : evTo (termsM F) ys n = vP ys F := by
  have hr : ∀ k, raw (canon F) k = raw F k := fun k => by
    have e : raw (canon F) k = coef F k := by
      unfold canon
      rw [raw_map (keysOf_nodup F)]
      split
      · rfl
      · rename_i hk
        rw [mem_keysOf] at hk
        exact (Decidable.not_not.1 hk).symm
    have := raw_nrm F k
    rw [e]
    unfold coef
    exact wrap_self (by omega)
  unfold evTo
  rw [List.take_of_length_le (by omega)]
  unfold termsM vP
  rw [foldl_sum, Int.zero_add]
  exact same_of_raw hr _
def zerosL (n : Nat) : List Int := List.replicate n 0
def dblChk (n : Nat) (w : List Int) : Bool :=
  (sd3 w).all (t3ok n) && (sd3 (inv w)).all (t3ok n) && decide (gath ((sd3 w).map enc1) = gath ((sd3 (inv w)).map enc2)) && isPerm (inv w) && decide ((inv w).length = n) &&
  decide (nrm ((sd3 w).map fun t => (t.1, t.2.2)) ≤ 1000000) && decide (nrm ((sd3 (inv w)).map fun t => (t.1, t.2.2)) ≤ 1000000) &&
  decide (gath (dblM w (zerosL n)) = gath (SMg w)) && decide ((SMg w).length ≤ 600) && decide (nrm (SMg w) ≤ 1000000)
set_option maxRecDepth 100000 in
theorem dblChk_all : ([1, 2, 3, 4].all fun n => (perms n).all (dblChk n)) = true := by kernel_rfl
structure DblFacts (n : Nat) (w : List Int) : Prop where
  zero : Same (dblM w (zerosL n)) (SM w)
  ok : OKp (SM w)
  perm : isPerm (inv w) = true
  len : (inv w).length = n
  val : ∀ xs ys : List Int, xs.length = n → ys.length = n → vP (fill7 xs) (dblM w ys) = vP (fill7 (ys.map fun y => 0 - y)) (dblM (inv w) (xs.map fun y => 0 - y))
  low : ∀ ys : List Int, ys.length = n → (∀ y ∈ ys, -9 ≤ y ∧ y ≤ 9) → nrm (dblM w ys) ≤ 1000000000000 ∧ nrm (dblM (inv w) ys) ≤ 1000000000000
theorem dblFacts {n : Nat} {w : List Int} (h1 : 1 ≤ n) (h4 : n ≤ 4) (hw : w ∈ perms n) : DblFacts n w := by
  have h := List.all_eq_true.1 (List.all_eq_true.1 dblChk_all n (by
    have hc : n = 1 ∨ n = 2 ∨ n = 3 ∨ n = 4 := by omega
    rcases hc with rfl | rfl | rfl | rfl <;> decide)) w hw
  obtain ⟨hl, hp⟩ := perms_ok hw h1 (by omega)
  unfold dblChk at h
  simp only [Bool.and_eq_true, decide_eq_true_eq, List.all_eq_true] at h
  obtain ⟨⟨⟨⟨⟨⟨⟨⟨⟨c1, c2⟩, c3⟩, c4⟩, c5⟩, c6⟩, c7⟩, c8⟩, c9⟩, c10⟩ := h
  have k1 : ∀ t ∈ sd3 w, T3Ok n t := fun t ht => t3ok_iff (c1 t ht)
  have k2 : ∀ t ∈ sd3 (inv w), T3Ok n t := fun t ht => t3ok_iff (c2 t ht)
  refine ⟨(same_of_gath c8).trans (SMg_same w), SM_okp (by omega) c9 c10, c4, c5, fun xs ys hx hy => ?_, fun ys hy h9 => ?_⟩
  · rw [← phi_sd (w := w) (by omega), ← phi_sd (w := inv w) (by rw [List.length_map]; omega), ← enc1_val hx hy (by omega) k1, ← enc2_val hx hy (by omega) k2]
    exact same_of_gath c3 _
  · constructor
    · rw [← phi_sd (w := w) (by omega)]
      have := nrm_phi (n := n) h9 k1 c6
      omega
    · rw [← phi_sd (w := inv w) (by omega)]
      have := nrm_phi (n := n) h9 k2 c7
      omega
end Go.Proofs.Ytjljacmepidgcaa
