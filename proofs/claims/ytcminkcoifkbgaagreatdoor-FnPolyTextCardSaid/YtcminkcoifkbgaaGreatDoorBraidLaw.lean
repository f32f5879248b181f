/-
  The braids of divided differences, of Demazure's and of the isobaric operators, at polynomials of few terms of degree at most 6. Plain.
-/
import Derived.Test.YtcminkcoifkbgaaGreatDoorBuH2
namespace Go.Proofs.YtcminkcoifkbgaaGreatDoor
open Go.RowKit

def opN : Nat → Nat → Mons → Mons
  | 0, i, F => dividedM i F
  | 1, i, F => demM i F
  | _, i, F => isoM i F
/-- operators one behind the other, the last of the list first, at places from i on -/
def chM (i : Nat) (l : List (Nat × Nat)) (F : Mons) : Mons := l.foldr (fun p G => opN p.1 (i + p.2) G) F
def chG (l : List (Nat × Nat)) (F : Mons) : Mons := l.foldr (fun p G => gath (opN p.1 p.2 G)) F
theorem opN_lin (o i : Nat) : LinOp (opN o i) := by
  match o with
  | 0 => exact LinOp.divided i
  | 1 => exact LinOp.dem i
  | _ + 2 => exact LinOp.iso i
theorem opN_same (o i : Nat) {F G : Mons} (h : Same F G) : Same (opN o i F) (opN o i G) := by
  match o with
  | 0 => exact h.divided
  | 1 => exact h.dem
  | _ + 2 => exact h.iso
theorem opN_bd (o : Nat) {i : Nat} (hi : i ≤ 5) {F : Mons} (h : Bd 6 F) : Bd 6 (opN o i F) := by
  match o with
  | 0 => exact h.divided hi
  | 1 => exact h.dem hi (by decide)
  | _ + 2 => exact h.iso hi (by decide)
theorem opN_shift (o : Nat) {i m : Nat} {low hi : Int} (hh : Hi m hi) (h0 : 0 ≤ low) (h1 : low < unit i) {j : Nat} (hj : j + 1 < m) (F : Mons) : opN o (i + j) (tM i low hi F) = tM i low hi (opN o j F) := by
  match o with
  | 0 => exact tM_divided hh h0 h1 hj F
  | 1 => exact tM_dem hh h0 h1 hj F
  | _ + 2 => exact tM_iso hh h0 h1 hj F
theorem chM_lin (i : Nat) : ∀ l, LinOp (chM i l)
  | [] => LinOp.id
  | p :: l => (opN_lin p.1 (i + p.2)).comp (chM_lin i l)
theorem chM_bd {i : Nat} {F : Mons} (h : Bd 6 F) : ∀ l : List (Nat × Nat), (∀ p ∈ l, i + p.2 ≤ 5) → Bd 6 (chM i l F)
  | [], _ => h
  | p :: l, hl => opN_bd p.1 (hl p List.mem_cons_self) (chM_bd h l fun q hq => hl q (List.mem_cons_of_mem _ hq))
theorem chM_shift {i m : Nat} {low hi : Int} (hh : Hi m hi) (h0 : 0 ≤ low) (h1 : low < unit i) (F : Mons) : ∀ l : List (Nat × Nat), (∀ p ∈ l, p.2 + 1 < m) → chM i l (tM i low hi F) = tM i low hi (chM 0 l F)
  | [], _ => rfl
  | p :: l, hl => by
    show opN p.1 (i + p.2) (chM i l (tM i low hi F)) = tM i low hi (opN p.1 (0 + p.2) (chM 0 l F))
    rw [chM_shift hh h0 h1 F l fun q hq => hl q (List.mem_cons_of_mem _ hq), opN_shift p.1 hh h0 h1 (hl p List.mem_cons_self), Nat.zero_add]
theorem chG_same (F : Mons) : ∀ l : List (Nat × Nat), Same (chG l F) (chM 0 l F)
  | [] => Same.refl _
  | p :: l => by
    show Same (gath (opN p.1 p.2 (chG l F))) (opN p.1 (0 + p.2) (chM 0 l F))
    rw [Nat.zero_add]
    exact (gath_same _).trans (opN_same _ _ (chG_same F l))
/-- the keys of four digits (of three) whose sum is at most 6, the first one a -/
def keys4 (a : Nat) : List Int := (List.range (7 - a)).flatMap fun b => (List.range (7 - a - b)).flatMap fun c => (List.range (7 - a - b - c)).map fun d : Nat => (a : Int) + 128 * (b : Int) + 16384 * (c : Int) + 2097152 * (d : Int)
def keys3 (a : Nat) : List Int := (List.range (7 - a)).flatMap fun b => (List.range (7 - a - b)).map fun c : Nat => (a : Int) + 128 * (b : Int) + 16384 * (c : Int)
def keysN (m a : Nat) : List Int := if m = 3 then keys3 a else keys4 a
theorem part_mem {k : Int} {i m : Nat} (hi : i ≤ 3) (h : degK k ≤ 6) (hm : m = 3 ∨ m = 4) : ∃ a, a ≤ 6 ∧ part m i k ∈ keysN m a := by
  have d := fun j => dig_range k j
  have hs : dig k i + dig k (i + 1) + dig k (i + 2) + dig k (i + 3) ≤ 6 := by
    unfold degK at h
    have d0 := d 0; have d1 := d 1; have d2 := d 2; have d3 := d 3; have d4 := d 4; have d5 := d 5; have d6 := d 6
    have hc : i = 0 ∨ i = 1 ∨ i = 2 ∨ i = 3 := by omega
    rcases hc with rfl | rfl | rfl | rfl <;> simp only [Nat.zero_add, Nat.reduceAdd] <;> omega
  have da := d i; have db := d (i + 1); have dc := d (i + 2); have de := d (i + 3)
  have e3 : three i k = dig k i + 128 * dig k (i + 1) + 16384 * dig k (i + 2) := rfl
  have e4 : four i k = dig k i + 128 * dig k (i + 1) + 16384 * dig k (i + 2) + 2097152 * dig k (i + 3) := rfl
  generalize dig k i = a at *
  generalize dig k (i + 1) = b at *
  generalize dig k (i + 2) = c at *
  generalize dig k (i + 3) = e at *
  refine ⟨a.toNat, by omega, ?_⟩
  rcases hm with rfl | rfl
  · show three i k ∈ keys3 a.toNat
    rw [e3]
    unfold keys3
    simp only [List.mem_flatMap, List.mem_map, List.mem_range]
    exact ⟨b.toNat, by omega, c.toNat, by omega, by omega⟩
  · show four i k ∈ keys4 a.toNat
    rw [e4]
    unfold keys4
    simp only [List.mem_flatMap, List.mem_map, List.mem_range]
    exact ⟨b.toNat, by omega, c.toNat, by omega, e.toNat, by omega, by omega⟩
/-- few terms of small coefficients, of degree at most 6 -/
structure Drawn (F : Mons) : Prop where
  few : F.length ≤ 5
  keys : ∀ p ∈ F, inK p.1 ∧ degK p.1 ≤ 6
  low : ∀ p ∈ F, p.2.natAbs ≤ 4
theorem deg_bd {k : Int} (h : degK k ≤ 6) {i : Nat} (hi : i < 7) : dig k i ≤ 6 := by
  unfold degK at h
  have d := fun j => dig_range k j
  have d0 := d 0; have d1 := d 1; have d2 := d 2; have d3 := d 3; have d4 := d 4; have d5 := d 5; have d6 := d 6
  have hc : i = 0 ∨ i = 1 ∨ i = 2 ∨ i = 3 ∨ i = 4 ∨ i = 5 ∨ i = 6 := by omega
  rcases hc with rfl | rfl | rfl | rfl | rfl | rfl | rfl <;> omega
theorem Drawn.bd {F : Mons} (h : Drawn F) : Bd 6 F := fun p hp => ⟨(h.keys p hp).1, fun _ hi => deg_bd (h.keys p hp).2 hi⟩
theorem ch_one {i m : Nat} (hm : m = 3 ∨ m = 4) {k : Int} (l : List (Nat × Nat)) (hl : ∀ p ∈ l, p.2 + 1 < m) : ∃ low hi, Same (chM i l [(k, 1)]) (tM i low hi (chG l [(part m i k, 1)])) := by
  obtain ⟨low, hi, h0, h1, hh, hk⟩ := key_part m i k hm
  refine ⟨low, hi, ?_⟩
  have e : [(k, (1 : Int))] = tM i low hi [(part m i k, 1)] := by rw [tM, List.map_cons, List.map_nil, ← hk]
  rw [e, chM_shift hh h0 h1 _ l hl]
  exact (chG_same _ l).symm.shift
theorem ch_two {i m : Nat} (hm : m = 3 ∨ m = 4) {k : Int} (l l' : List (Nat × Nat)) (hl : ∀ p ∈ l, p.2 + 1 < m) (hl' : ∀ p ∈ l', p.2 + 1 < m) (h : chG l [(part m i k, 1)] = chG l' [(part m i k, 1)]) : Same (chM i l [(k, 1)]) (chM i l' [(k, 1)]) := by
  obtain ⟨low, hi, h0, h1, hh, hk⟩ := key_part m i k hm
  have e : [(k, (1 : Int))] = tM i low hi [(part m i k, 1)] := by rw [tM, List.map_cons, List.map_nil, ← hk]
  rw [e, chM_shift hh h0 h1 _ l hl, chM_shift hh h0 h1 _ l' hl']
  exact ((chG_same _ l).symm.trans (by rw [h]; exact chG_same _ l')).shift
theorem ch_zero {i m : Nat} (hm : m = 3 ∨ m = 4) {k : Int} (l : List (Nat × Nat)) (hl : ∀ p ∈ l, p.2 + 1 < m) (h : chG l [(part m i k, 1)] = []) : Same (chM i l [(k, 1)]) [] := by
  obtain ⟨low, hi, h1⟩ := ch_one (i := i) hm (k := k) l hl
  rw [h] at h1
  exact h1
theorem tM_length (i : Nat) (low hi : Int) (F : Mons) : (tM i low hi F).length = F.length := List.length_map _
theorem tM_nrm (i : Nat) (low hi : Int) (F : Mons) : nrm (tM i low hi F) = nrm F := by
  induction F with
  | nil => rfl
  | cons p F ih =>
    show p.2.natAbs + nrm (tM i low hi F) = p.2.natAbs + nrm F
    rw [ih]
theorem GoodM.of_same {F G : Mons} (h : Same F G) (hb : Bd 24 F) {n C : Nat} (hn : G.length ≤ n) (hC : nrm G ≤ C) : GoodM n C F :=
  ⟨hb, by rw [canon_len_eqv h.eqv]; exact Nat.le_trans (canon_len_le G) hn, fun k => by rw [h.raw]; have := raw_nrm G k; omega⟩
theorem ch_good {i m : Nat} (hm : m = 3 ∨ m = 4) {k : Int} (l : List (Nat × Nat)) (hl : ∀ p ∈ l, p.2 + 1 < m) (hl5 : ∀ p ∈ l, i + p.2 ≤ 5) (hk : inK k ∧ degK k ≤ 6) {n C : Nat} (hn : (chG l [(part m i k, 1)]).length ≤ n) (hC : nrm (chG l [(part m i k, 1)]) ≤ C) : GoodM n C (chM i l [(k, 1)]) := by
  obtain ⟨low, hi, h1⟩ := ch_one (i := i) hm (k := k) l hl
  have hb : Bd 6 [(k, (1 : Int))] := fun p hp => by
    simp at hp
    subst hp
    exact ⟨hk.1, fun _ hj => deg_bd hk.2 hj⟩
  exact GoodM.of_same h1 ((chM_bd hb l hl5).mono (by decide)) (by rw [tM_length]; exact hn) (by rw [tM_nrm]; exact hC)
/-- known at the keys of few digits, known at the polynomials drawn -/
theorem ch_okp {F : Mons} (h : Drawn F) {i m : Nat} (hi : i ≤ 3) (hm : m = 3 ∨ m = 4) (l : List (Nat × Nat)) (hl : ∀ p ∈ l, p.2 + 1 < m) (hk : ∀ a, a ≤ 6 → ∀ k ∈ keysN m a, (chG l [(k, 1)]).length ≤ 100 ∧ nrm (chG l [(k, 1)]) ≤ 10000) : OKp (chM i l F) := by
  have hl5 : ∀ p ∈ l, i + p.2 ≤ 5 := fun p hp => by have := hl p hp; omega
  have hg : GoodM (F.length * 100) (F.length * (4 * 10000)) (chM i l F) := (chM_lin i l).goodM (fun p hp => by
    obtain ⟨a, ha, h0⟩ := part_mem hi (h.keys p hp).2 hm
    have h1 := hk a ha _ h0
    exact ⟨ch_good hm l hl hl5 (h.keys p hp) h1.1 h1.2, h.low p hp⟩) ((chM_bd h.bd l hl5).mono (by decide))
  have := h.few
  exact hg.okp (by omega) (by omega)
theorem ch_eq {F : Mons} (h : Drawn F) {i m : Nat} (hi : i ≤ 3) (hm : m = 3 ∨ m = 4) (l l' : List (Nat × Nat)) (hl : ∀ p ∈ l, p.2 + 1 < m) (hl' : ∀ p ∈ l', p.2 + 1 < m) (hk : ∀ a, a ≤ 6 → ∀ k ∈ keysN m a, chG l [(k, 1)] = chG l' [(k, 1)]) : Same (chM i l F) (chM i l' F) :=
  (chM_lin i l).ext (chM_lin i l') fun p hp => by
    obtain ⟨a, ha, h0⟩ := part_mem hi (h.keys p hp).2 hm
    exact ch_two hm l l' hl hl' (hk a ha _ h0)
theorem ch_none {F : Mons} (h : Drawn F) {i m : Nat} (hi : i ≤ 3) (hm : m = 3 ∨ m = 4) (l : List (Nat × Nat)) (hl : ∀ p ∈ l, p.2 + 1 < m) (hk : ∀ a, a ≤ 6 → ∀ k ∈ keysN m a, chG l [(k, 1)] = []) : Same (chM i l F) [] := by
  have h0 : LinOp fun _ : Mons => ([] : Mons) := ⟨fun _ _ => 0, fun F v => (wsum_zero F).symm⟩
  exact (chM_lin i l).ext h0 fun p hp => by
    obtain ⟨a, ha, h0⟩ := part_mem hi (h.keys p hp).2 hm
    exact ch_zero hm l hl (hk a ha _ h0)
/-! by the kernel -/
def smallG (F : Mons) : Bool := decide (F.length ≤ 100) && decide (nrm F ≤ 10000)
def chains (o : Nat) : List (List (Nat × Nat)) := [[(o, 0)], [(o, 0), (o, 0)], [(o, 1)], [(o, 1), (o, 0)], [(o, 0), (o, 1), (o, 0)], [(o, 0), (o, 1)], [(o, 1), (o, 0), (o, 1)]]
def chkO (o : Nat) (k : Int) : Bool := (chains o).all (fun l => smallG (chG l [(k, 1)])) && decide (chG [(o, 0), (o, 1), (o, 0)] [(k, 1)] = chG [(o, 1), (o, 0), (o, 1)] [(k, 1)])
def chains2 : List (List (Nat × Nat)) := [[(0, 2)], [(0, 2), (0, 0)], [(0, 0), (0, 2)]]
def chkT (k : Int) : Bool := decide (chG [(0, 0), (0, 0)] [(k, 1)] = []) && decide (chG [(1, 0), (1, 0)] [(k, 1)] = chG [(1, 0)] [(k, 1)]) && decide (chG [(2, 0), (2, 0)] [(k, 1)] = chG [(2, 0)] [(k, 1)])
def chkS (k : Int) : Bool := decide (chG [(0, 2), (0, 0)] [(k, 1)] = chG [(0, 0), (0, 2)] [(k, 1)]) && chains2.all fun l => smallG (chG l [(k, 1)])
set_option maxRecDepth 100000 in
theorem chk00 : (keys3 0).all (chkO 0) = true := by kernel_rfl
set_option maxRecDepth 100000 in
theorem chk01 : (keys3 1).all (chkO 0) = true := by kernel_rfl
set_option maxRecDepth 100000 in
theorem chk02 : (keys3 2).all (chkO 0) = true := by kernel_rfl
set_option maxRecDepth 100000 in
theorem chk03 : (keys3 3).all (chkO 0) = true := by kernel_rfl
set_option maxRecDepth 100000 in
theorem chk04 : (keys3 4).all (chkO 0) = true := by kernel_rfl
set_option maxRecDepth 100000 in
theorem chk05 : (keys3 5).all (chkO 0) = true := by kernel_rfl
set_option maxRecDepth 100000 in
theorem chk06 : (keys3 6).all (chkO 0) = true := by kernel_rfl
set_option maxRecDepth 100000 in
theorem chk10 : (keys3 0).all (chkO 1) = true := by kernel_rfl
set_option maxRecDepth 100000 in
theorem chk11 : (keys3 1).all (chkO 1) = true := by kernel_rfl
set_option maxRecDepth 100000 in
theorem chk12 : (keys3 2).all (chkO 1) = true := by kernel_rfl
set_option maxRecDepth 100000 in
theorem chk13 : (keys3 3).all (chkO 1) = true := by kernel_rfl
set_option maxRecDepth 100000 in
theorem chk14 : (keys3 4).all (chkO 1) = true := by kernel_rfl
set_option maxRecDepth 100000 in
theorem chk15 : (keys3 5).all (chkO 1) = true := by kernel_rfl
set_option maxRecDepth 100000 in
theorem chk16 : (keys3 6).all (chkO 1) = true := by kernel_rfl
set_option maxRecDepth 100000 in
theorem chk20 : (keys3 0).all (chkO 2) = true := by kernel_rfl
set_option maxRecDepth 100000 in
theorem chk21 : (keys3 1).all (chkO 2) = true := by kernel_rfl
set_option maxRecDepth 100000 in
theorem chk22 : (keys3 2).all (chkO 2) = true := by kernel_rfl
set_option maxRecDepth 100000 in
theorem chk23 : (keys3 3).all (chkO 2) = true := by kernel_rfl
set_option maxRecDepth 100000 in
theorem chk24 : (keys3 4).all (chkO 2) = true := by kernel_rfl
set_option maxRecDepth 100000 in
theorem chk25 : (keys3 5).all (chkO 2) = true := by kernel_rfl
set_option maxRecDepth 100000 in
theorem chk26 : (keys3 6).all (chkO 2) = true := by kernel_rfl
set_option maxRecDepth 100000 in
theorem chk3 : [0, 1, 2, 3, 4, 5, 6].all (fun a => (keys3 a).all chkT) = true := by kernel_rfl
set_option maxRecDepth 100000 in
theorem chk4 : [0, 1, 2, 3, 4, 5, 6].all (fun a => (keys4 a).all chkS) = true := by kernel_rfl
theorem upto6 {a : Nat} (h : a ≤ 6) : a ∈ [0, 1, 2, 3, 4, 5, 6] := by
  have hc : a = 0 ∨ a = 1 ∨ a = 2 ∨ a = 3 ∨ a = 4 ∨ a = 5 ∨ a = 6 := by omega
  rcases hc with rfl | rfl | rfl | rfl | rfl | rfl | rfl <;> decide
theorem chk_all {o : Nat} (ho : o ≤ 2) {a : Nat} (ha : a ≤ 6) : ∀ k ∈ keys3 a, chkO o k = true := by
  have hc : o = 0 ∨ o = 1 ∨ o = 2 := by omega
  have hd : a = 0 ∨ a = 1 ∨ a = 2 ∨ a = 3 ∨ a = 4 ∨ a = 5 ∨ a = 6 := by omega
  rcases hc with rfl | rfl | rfl
  · rcases hd with rfl | rfl | rfl | rfl | rfl | rfl | rfl
    · exact List.all_eq_true.1 chk00
    · exact List.all_eq_true.1 chk01
    · exact List.all_eq_true.1 chk02
    · exact List.all_eq_true.1 chk03
    · exact List.all_eq_true.1 chk04
    · exact List.all_eq_true.1 chk05
    · exact List.all_eq_true.1 chk06
  · rcases hd with rfl | rfl | rfl | rfl | rfl | rfl | rfl
    · exact List.all_eq_true.1 chk10
    · exact List.all_eq_true.1 chk11
    · exact List.all_eq_true.1 chk12
    · exact List.all_eq_true.1 chk13
    · exact List.all_eq_true.1 chk14
    · exact List.all_eq_true.1 chk15
    · exact List.all_eq_true.1 chk16
  · rcases hd with rfl | rfl | rfl | rfl | rfl | rfl | rfl
    · exact List.all_eq_true.1 chk20
    · exact List.all_eq_true.1 chk21
    · exact List.all_eq_true.1 chk22
    · exact List.all_eq_true.1 chk23
    · exact List.all_eq_true.1 chk24
    · exact List.all_eq_true.1 chk25
    · exact List.all_eq_true.1 chk26
theorem chains_two {o : Nat} {l : List (Nat × Nat)} (h : l ∈ chains o) : ∀ p ∈ l, p.2 + 1 < 3 := by
  simp only [chains, List.mem_cons, List.not_mem_nil, or_false] at h
  rcases h with rfl | rfl | rfl | rfl | rfl | rfl | rfl <;> simp
theorem chains2_two {l : List (Nat × Nat)} (h : l ∈ chains2) : ∀ p ∈ l, p.2 + 1 < 4 := by
  simp only [chains2, List.mem_cons, List.not_mem_nil, or_false] at h
  rcases h with rfl | rfl | rfl <;> simp
theorem smallG_of {F : Mons} (h : smallG F = true) : F.length ≤ 100 ∧ nrm F ≤ 10000 := by
  unfold smallG at h
  simpa using h
theorem braid_okp {F : Mons} (h : Drawn F) {i : Nat} (hi : i ≤ 3) {o : Nat} (ho : o ≤ 2) {l : List (Nat × Nat)} (hl : l ∈ chains o) : OKp (chM i l F) :=
  ch_okp h hi (.inl rfl) l (chains_two hl) fun a ha k hk => by
    have h1 := chk_all ho ha k hk
    unfold chkO at h1
    rw [Bool.and_eq_true, List.all_eq_true] at h1
    exact smallG_of (h1.1 l hl)
theorem chkS_of {a : Nat} (ha : a ≤ 6) {k : Int} (hk : k ∈ keys4 a) : chkS k = true := List.all_eq_true.1 (List.all_eq_true.1 chk4 a (upto6 ha)) k hk
theorem chkT_of {a : Nat} (ha : a ≤ 6) {k : Int} (hk : k ∈ keys3 a) : chG [(0, 0), (0, 0)] [(k, 1)] = [] ∧ chG [(1, 0), (1, 0)] [(k, 1)] = chG [(1, 0)] [(k, 1)] ∧ chG [(2, 0), (2, 0)] [(k, 1)] = chG [(2, 0)] [(k, 1)] := by
  have h1 := List.all_eq_true.1 (List.all_eq_true.1 chk3 a (upto6 ha)) k hk
  unfold chkT at h1
  simp only [Bool.and_eq_true, decide_eq_true_eq] at h1
  exact ⟨h1.1.1, h1.1.2, h1.2⟩
theorem braid_okp2 {F : Mons} (h : Drawn F) {i : Nat} (hi : i ≤ 3) {l : List (Nat × Nat)} (hl : l ∈ chains2) : OKp (chM i l F) :=
  ch_okp h hi (.inr rfl) l (chains2_two hl) fun a ha k hk => by
    have h1 := chkS_of ha hk
    unfold chkS at h1
    rw [Bool.and_eq_true, List.all_eq_true] at h1
    exact smallG_of (h1.2 l hl)
theorem braid_same {F : Mons} (h : Drawn F) {i : Nat} (hi : i ≤ 3) {o : Nat} (ho : o ≤ 2) : Same (chM i [(o, 0), (o, 1), (o, 0)] F) (chM i [(o, 1), (o, 0), (o, 1)] F) :=
  ch_eq h hi (.inl rfl) _ _ (by simp) (by simp) fun a ha k hk => by
    have h1 := chk_all ho ha k hk
    unfold chkO at h1
    rw [Bool.and_eq_true, decide_eq_true_eq] at h1
    exact h1.2
theorem square_none {F : Mons} (h : Drawn F) {i : Nat} (hi : i ≤ 3) : Same (chM i [(0, 0), (0, 0)] F) [] := ch_none h hi (.inl rfl) _ (by simp) fun _ ha _ hk => (chkT_of ha hk).1
theorem square_dem {F : Mons} (h : Drawn F) {i : Nat} (hi : i ≤ 3) : Same (chM i [(1, 0), (1, 0)] F) (chM i [(1, 0)] F) := ch_eq h hi (.inl rfl) _ _ (by simp) (by simp) fun _ ha _ hk => (chkT_of ha hk).2.1
theorem square_iso {F : Mons} (h : Drawn F) {i : Nat} (hi : i ≤ 3) : Same (chM i [(2, 0), (2, 0)] F) (chM i [(2, 0)] F) := ch_eq h hi (.inl rfl) _ _ (by simp) (by simp) fun _ ha _ hk => (chkT_of ha hk).2.2
theorem far_same {F : Mons} (h : Drawn F) {i : Nat} (hi : i ≤ 3) : Same (chM i [(0, 2), (0, 0)] F) (chM i [(0, 0), (0, 2)] F) := ch_eq h hi (.inr rfl) _ _ (by simp) (by simp) fun _ ha _ hk => by
  have h1 := chkS_of ha hk
  unfold chkS at h1
  rw [Bool.and_eq_true, decide_eq_true_eq] at h1
  exact h1.1
end Go.Proofs.YtcminkcoifkbgaaGreatDoor
