/-
  Dreams as numbers: a bit for each cell; ladder moves of such numbers. Plain.
-/
import Derived.Test.YtageojkepoejiaaLadBd0
namespace Go.Proofs.Ytageojkepoejiaa
open Go.RowKit

def codeC (p : Int × Int) : Nat := 8 * p.1.toNat + p.2.toNat
def maskD : List (Int × Int) → Nat
  | [] => 0
  | p :: l => 2 ^ codeC p ||| maskD l
theorem mask_bit (d : List (Int × Int)) (t : Nat) : (maskD d).testBit t = true ↔ ∃ p ∈ d, codeC p = t := by
  induction d with
  | nil => simp [maskD]
  | cons p l ih =>
    rw [maskD, Nat.testBit_or, Nat.testBit_two_pow, Bool.or_eq_true, decide_eq_true_eq, ih]
    constructor
    · rintro (h | ⟨x, hx, e⟩)
      · exact ⟨p, List.mem_cons_self, h⟩
      · exact ⟨x, List.mem_cons_of_mem _ hx, e⟩
    · rintro ⟨x, hx, e⟩
      rcases List.mem_cons.1 hx with rfl | hx
      · exact .inl e
      · exact .inr ⟨x, hx, e⟩
theorem mask_ext {d e : List (Int × Int)} (h : ∀ p, p ∈ d ↔ p ∈ e) : maskD d = maskD e := by
  apply Nat.eq_of_testBit_eq
  intro t
  rw [Bool.eq_iff_iff, mask_bit, mask_bit]
  constructor
  · rintro ⟨p, hp, e⟩; exact ⟨p, (h p).1 hp, e⟩
  · rintro ⟨p, hp, e⟩; exact ⟨p, (h p).2 hp, e⟩
theorem mask_snoc (d : List (Int × Int)) (p : Int × Int) : maskD (d ++ [p]) = maskD d ||| 2 ^ codeC p := by
  apply Nat.eq_of_testBit_eq
  intro t
  rw [Bool.eq_iff_iff, mask_bit, Nat.testBit_or, Nat.testBit_two_pow, Bool.or_eq_true, decide_eq_true_eq, mask_bit]
  constructor
  · rintro ⟨x, hx, e⟩
    rcases List.mem_append.1 hx with hx | hx
    · exact .inl ⟨x, hx, e⟩
    · rw [List.mem_singleton] at hx
      subst hx
      exact .inr e
  · rintro (⟨x, hx, e⟩ | e)
    · exact ⟨x, List.mem_append_left _ hx, e⟩
    · exact ⟨p, List.mem_append_right _ (List.mem_singleton.2 rfl), e⟩
theorem stair_small {n : Nat} (hn : n ≤ 6) {p : Int × Int} (h : inStair (n : Int) p = true) : (0 ≤ p.1 ∧ p.1 ≤ (n : Int) - 2) ∧ 0 ≤ p.2 ∧ p.2 ≤ (n : Int) - 2 - p.1 ∧ p.2 ≤ 4 := by
  unfold inStair at h
  simp only [Bool.and_eq_true, decide_eq_true_eq] at h
  omega
theorem stair_nat {n : Nat} {r q : Nat} (h : r + q + 2 ≤ n) : inStair (n : Int) ((r : Int), (q : Int)) = true := by
  unfold inStair
  simp only [Bool.and_eq_true, decide_eq_true_eq]
  omega
def InSt (n : Nat) (d : List (Int × Int)) : Prop := ∀ p ∈ d, inStair (n : Int) p = true
theorem code_at_nat {n : Nat} (hn : n ≤ 6) {p : Int × Int} (h : inStair (n : Int) p = true) {r q : Nat} (hq : q ≤ 7) (e : codeC p = 8 * r + q) : p = ((r : Int), (q : Int)) := by
  have := stair_small hn h
  unfold codeC at e
  apply Prod.ext
  · simp only; omega
  · simp only; omega
theorem code_inj {n : Nat} (hn : n ≤ 6) {p x : Int × Int} (h : inStair (n : Int) p = true) (h2 : inStair (n : Int) x = true) (e : codeC p = codeC x) : p = x := by
  have h3 := stair_small hn h2
  have := code_at_nat hn h (r := x.1.toNat) (q := x.2.toNat) (by omega) (by rw [e]; rfl)
  rw [this]
  apply Prod.ext
  · simp only; omega
  · simp only; omega
theorem hasC_bit {n : Nat} (hn : n ≤ 6) {d : List (Int × Int)} (h : InSt n d) (r q : Nat) (hq : q ≤ 7) : hasC d (r : Int) (q : Int) = (maskD d).testBit (8 * r + q) := by
  rw [Bool.eq_iff_iff, mask_bit]
  unfold hasC
  rw [List.contains_iff_mem]
  constructor
  · intro hm
    exact ⟨_, hm, by unfold codeC; simp⟩
  · rintro ⟨p, hp, e⟩
    rw [← code_at_nat hn (h p hp) hq e]
    exact hp
def stairs (n : Nat) : List (Int × Int) := (List.range (n - 1)).flatMap fun (r : Nat) => (List.range (n - 1 - r)).map fun (c : Nat) => ((r : Int), (c : Int))
theorem mem_stairs {n : Nat} {p : Int × Int} : p ∈ stairs n ↔ inStair (n : Int) p = true := by
  unfold stairs inStair
  rw [List.mem_flatMap]
  simp only [List.mem_range, List.mem_map, Bool.and_eq_true, decide_eq_true_eq]
  constructor
  · rintro ⟨r, hr, c, hc, rfl⟩
    simp only
    omega
  · rintro ⟨h1, h2⟩
    exact ⟨p.1.toNat, by omega, p.2.toNat, by omega, Prod.ext (by simp only; omega) (by simp only; omega)⟩
def lessAll : List (Int × Int) → Bool
  | [] => true
  | p :: l => l.all (cellLess p) && lessAll l
theorem lessAll_pair : ∀ {l : List (Int × Int)}, lessAll l = true → l.Pairwise fun a b => cellLess a b = true
  | [], _ => List.Pairwise.nil
  | p :: l, h => by
    rw [lessAll, Bool.and_eq_true, List.all_eq_true] at h
    exact List.pairwise_cons.2 ⟨h.1, lessAll_pair h.2⟩
theorem stairs_less : ([0, 1, 2, 3, 4, 5, 6].all fun n => lessAll (stairs n)) = true := by kernel_rfl
theorem stairs_sorted {n : Nat} (hn : n ≤ 6) : (stairs n).Pairwise fun a b => cellLess a b = true := lessAll_pair (List.all_eq_true.1 stairs_less n (by
  have : n = 0 ∨ n = 1 ∨ n = 2 ∨ n = 3 ∨ n = 4 ∨ n = 5 ∨ n = 6 := by omega
  rcases this with rfl | rfl | rfl | rfl | rfl | rfl | rfl <;> decide))
/-- the dream of a number -/
def decM (n m : Nat) : List (Int × Int) := (stairs n).filter fun p => m.testBit (codeC p)
theorem dec_sorted {n : Nat} (hn : n ≤ 6) (m : Nat) : (decM n m).Pairwise fun a b => cellLess a b = true := (stairs_sorted hn).filter _
theorem dec_in (n m : Nat) : InSt n (decM n m) := fun _ hp => mem_stairs.1 (List.mem_filter.1 hp).1
theorem dec_nodup {n : Nat} (hn : n ≤ 6) (m : Nat) : (decM n m).Nodup := (dec_sorted hn m).imp fun {a b} h e => by
  subst e
  have := (cellLess_iff a a).1 h
  omega
theorem sort_dec {n : Nat} (hn : n ≤ 6) {d : List (Int × Int)} (hs : InSt n d) (hd : d.Nodup) : sortD d = decM n (maskD d) := by
  refine sortD_unique ((List.perm_ext_iff_of_nodup (dec_nodup hn _) hd).2 fun p => ?_) ((dec_sorted hn _).imp fun {a b} h => ?_)
  · unfold decM
    rw [List.mem_filter, mem_stairs, mask_bit]
    constructor
    · rintro ⟨h1, x, hx, e⟩
      rw [← code_inj hn (hs x hx) h1 e]
      exact hx
    · intro h
      exact ⟨hs p h, p, h, rfl⟩
  · rw [cellLe_iff]
    have := (cellLess_iff a b).1 h
    omega
theorem mask_sort (d : List (Int × Int)) : maskD (sortD d) = maskD d := mask_ext fun _ => (sortD_perm d).mem_iff
theorem dec_dream {n : Nat} (h1 : 1 ≤ n) (hn : n ≤ 6) (m : Nat) : isDream (n : Int) (decM n m) = true := by
  refine isDream_true (by omega) fun j hj => ?_
  have hc := cell_some hj
  unfold dreamAt
  rw [Bool.and_eq_true, Bool.or_eq_true]
  refine ⟨dec_in n m _ (List.mem_of_getElem? hc), ?_⟩
  rcases Nat.eq_zero_or_pos j with h | h
  · left; simp [h]
  · right
    have hc2 := cell_some (xs := decM n m) (k := j - 1) (by omega)
    have := List.pairwise_iff_getElem.1 (dec_sorted hn m) (j - 1) j (by omega) hj (by omega)
    rw [List.getElem?_eq_getElem (by omega)] at hc hc2
    rw [← Option.some.inj hc, ← Option.some.inj hc2]
    exact this
theorem dream_InSt {n : Nat} {d : List (Int × Int)} (h : isDream (n : Int) d = true) : InSt n d := fun p hp => by
  obtain ⟨j, hj⟩ := List.getElem?_of_mem hp
  have := dream_in h (List.getElem?_eq_some_iff.1 hj).1
  rw [cellOf_at hj] at this
  exact this

/-! the moves -/
def upM (m q : Nat) : Nat → Nat
  | 0 => 0
  | t + 1 => if (m.testBit (8 * t + q) && m.testBit (8 * t + q + 1)) = true then upM m q t else t + 1
theorem up_eq {n : Nat} (hn : n ≤ 6) {d : List (Int × Int)} (h : InSt n d) {q : Nat} (hq : q ≤ 6) : ∀ t, upTo d (q : Int) t = upM (maskD d) q t
  | 0 => rfl
  | t + 1 => by
    have e1 := hasC_bit hn h t q (by omega)
    have e2 := hasC_bit hn h t (q + 1) (by omega)
    rw [upTo, upM, up_eq hn h hq t, e1, show ((q : Int) + 1) = ((q + 1 : Nat) : Int) by omega, e2]
    rfl
theorem upM_le (m q : Nat) : ∀ t, upM m q t ≤ t
  | 0 => Nat.le_refl _
  | t + 1 => by
    unfold upM
    split
    · have := upM_le m q t; omega
    · exact Nat.le_refl _
def ladM (m r q : Nat) : Nat :=
  if m.testBit (8 * r + q + 1) = true then 0
  else match upM m q r with
    | 0 => 0
    | s + 1 => if (m.testBit (8 * s + q) || m.testBit (8 * s + q + 1)) = true then 0 else s + 1
theorem lad_eq {n : Nat} (hn : n ≤ 6) {d : List (Int × Int)} (h : InSt n d) {r q : Nat} (hq : q ≤ 6) : ladAt d ((r : Int), (q : Int)) = ladM (maskD d) r q := by
  unfold ladAt ladM
  simp only
  have e0 := hasC_bit hn h r (q + 1) (by omega)
  rw [show ((q : Int) + 1) = ((q + 1 : Nat) : Int) by omega, e0, show (r : Int).toNat = r by omega, up_eq hn h hq]
  by_cases hb : (maskD d).testBit (8 * r + q + 1) = true
  · rw [if_pos hb, if_pos (by rw [← hb]; rfl)]
  · rw [if_neg hb, if_neg (by intro h2; exact hb (by rw [← h2]; rfl))]
    cases hu : upM (maskD d) q r with
    | zero =>
      simp only
      split <;> rfl
    | succ s =>
      have e1 := hasC_bit hn h s q (by omega)
      have e2 := hasC_bit hn h s (q + 1) (by omega)
      simp only
      rw [show (((s + 1 : Nat) : Int) - 1) = (s : Int) by omega, e1, e2]
      rfl
def stepM (m r q : Nat) : List Nat :=
  match ladM m r q with
  | 0 => []
  | s + 1 => [(m ^^^ 2 ^ (8 * r + q)) ||| 2 ^ (8 * s + q + 1)]
theorem ladM_some {m r q s : Nat} (h : ladM m r q = s + 1) : s < r ∧ m.testBit (8 * s + q + 1) = false := by
  unfold ladM at h
  split at h
  · omega
  · have hu := upM_le m q r
    split at h
    · omega
    · rename_i t ht
      split at h
      · omega
      · rename_i hb
        obtain rfl : t = s := by omega
        rw [Bool.or_eq_true, not_or] at hb
        exact ⟨by omega, by simpa using hb.2⟩
theorem set_split {α : Type} {xs : List α} {i : Nat} {x : α} (h : xs[i]? = some x) : ∃ l, xs.Perm (x :: l) ∧ ∀ y, (xs.set i y).Perm (y :: l) := by
  obtain ⟨hi, e⟩ := List.getElem?_eq_some_iff.1 h
  refine ⟨xs.take i ++ xs.drop (i + 1), ?_, fun y => ?_⟩
  · conv => lhs; rw [← List.take_append_drop i xs, List.drop_eq_getElem_cons hi, e]
    exact List.perm_middle
  · rw [List.set_eq_take_append_cons_drop, if_pos hi]
    exact List.perm_middle
def rsum : List (Int × Int) → Int
  | [] => 0
  | p :: l => p.1 + rsum l
theorem rsum_perm {a b : List (Int × Int)} (h : a.Perm b) : rsum a = rsum b := by
  induction h with
  | nil => rfl
  | cons x _ ih => rw [rsum, rsum, ih]
  | swap x y l => simp only [rsum]; omega
  | trans _ _ h1 h2 => rw [h1, h2]
theorem rsum_le {n : Nat} (hn : n ≤ 6) : ∀ {d : List (Int × Int)}, InSt n d → rsum d ≤ 4 * d.length
  | [], _ => by simp [rsum]
  | p :: l, h => by
    have h1 := rsum_le hn (d := l) fun x hx => h x (List.mem_cons_of_mem _ hx)
    have h2 := stair_small hn (h p List.mem_cons_self)
    rw [rsum, List.length_cons]
    omega
theorem mov_step {n : Nat} (hn : n ≤ 6) {d : List (Int × Int)} (hi : InSt n d) (hd : d.Nodup) {k r q : Nat} (hk : d[k]? = some ((r : Int), (q : Int))) :
    movC d k = (stepM (maskD d) r q).map (decM n) ∧ ∀ m' ∈ stepM (maskD d) r q, maskD (decM n m') = m' ∧ rsum (decM n m') < rsum d := by
  have hin := hi _ (List.mem_of_getElem? hk)
  have hsm := stair_small hn hin
  simp only at hsm
  have hq : q ≤ 6 := by omega
  unfold movC stepM
  rw [cellOf_at hk, lad_eq hn hi hq]
  cases hl : ladM (maskD d) r q with
  | zero => exact ⟨rfl, fun m' h => (by cases h)⟩
  | succ s =>
    obtain ⟨hsr, hb⟩ := ladM_some hl
    simp only [List.map_cons, List.map_nil]
    obtain ⟨l, hp1, hp2⟩ := set_split hk
    have hp3 := hp2 ((s : Int), (q : Int) + 1)
    have hnd := hp1.nodup_iff.1 hd
    rw [List.nodup_cons] at hnd
    have hli : InSt n l := fun p hp => hi p (hp1.mem_iff.2 (List.mem_cons_of_mem _ hp))
    have hst : inStair (n : Int) ((s : Int), (q : Int) + 1) = true := by
      have := stair_nat (n := n) (r := s) (q := q + 1) (by omega)
      rw [show ((q + 1 : Nat) : Int) = (q : Int) + 1 by omega] at this
      exact this
    have hno : ((s : Int), (q : Int) + 1) ∉ l := fun hm => by
      have := (mask_bit d (8 * s + q + 1)).2 ⟨_, hp1.mem_iff.2 (List.mem_cons_of_mem _ hm), by unfold codeC; simp only; omega⟩
      rw [hb] at this
      cases this
    have hsi : InSt n (d.set k ((s : Int), (q : Int) + 1)) := fun p hp => by
      rcases List.mem_cons.1 (hp3.mem_iff.1 hp) with rfl | h
      · exact hst
      · exact hli p h
    have hsn : (d.set k ((s : Int), (q : Int) + 1)).Nodup := hp3.nodup_iff.2 (List.nodup_cons.2 ⟨hno, hnd.2⟩)
    have e1 : maskD d = 2 ^ (8 * r + q) ||| maskD l := by
      rw [mask_ext (fun p => hp1.mem_iff), maskD]
      unfold codeC
      simp
    have hcl : (maskD l).testBit (8 * r + q) = false := by
      rw [Bool.eq_false_iff]
      intro h
      obtain ⟨p, hp, e⟩ := (mask_bit _ _).1 h
      rw [code_at_nat hn (hli p hp) (by omega) e] at hp
      exact hnd.1 hp
    have e2 : maskD (d.set k ((s : Int), (q : Int) + 1)) = (maskD d ^^^ 2 ^ (8 * r + q)) ||| 2 ^ (8 * s + q + 1) := by
      rw [mask_ext (fun p => hp3.mem_iff), maskD, e1, show codeC ((s : Int), (q : Int) + 1) = 8 * s + q + 1 by unfold codeC; simp only; omega]
      apply Nat.eq_of_testBit_eq
      intro t
      rw [Nat.testBit_or, Nat.testBit_or, Nat.testBit_xor, Nat.testBit_or]
      by_cases ht : 8 * r + q = t
      · subst ht
        rw [hcl]
        simp
      · have : (2 ^ (8 * r + q)).testBit t = false := by rw [Nat.testBit_two_pow]; exact decide_eq_false ht
        rw [this]
        simp [Bool.or_comm]
    have e3 := sort_dec hn hsi hsn
    rw [e2] at e3
    refine ⟨by rw [e3], fun m' hm => ?_⟩
    rw [List.mem_singleton] at hm
    subst hm
    rw [← e3, mask_sort, e2]
    refine ⟨rfl, ?_⟩
    rw [rsum_perm (sortD_perm _), rsum_perm hp3, rsum_perm hp1, rsum, rsum]
    simp only
    omega
def succs (n m : Nat) : List Nat := (List.range (n - 1)).flatMap fun r => (List.range (n - 1 - r)).flatMap fun q => if m.testBit (8 * r + q) = true then stepM m r q else []
theorem ladTo_sub {d e : List (Int × Int)} {k : Nat} (h : e ∈ movC d k) : ∀ {K : Nat}, k < K → e ∈ ladTo d K
  | 0, hk => by omega
  | K + 1, hk => by
    rw [ladTo, List.mem_append]
    rcases Nat.lt_or_ge k K with h1 | h1
    · exact .inl (ladTo_sub h h1)
    · obtain rfl : k = K := by omega
      exact .inr h
theorem succs_ladTo {n : Nat} (hn : n ≤ 6) {d : List (Int × Int)} (hi : InSt n d) (hnd : d.Nodup) {m' : Nat} (hm : m' ∈ succs n (maskD d)) : decM n m' ∈ ladTo d d.length := by
  unfold succs at hm
  rw [List.mem_flatMap] at hm
  obtain ⟨r, hr, hm⟩ := hm
  rw [List.mem_flatMap] at hm
  obtain ⟨q, hq, hm⟩ := hm
  rw [List.mem_range] at hr hq
  split at hm
  · rename_i hb
    obtain ⟨p, hp, e⟩ := (mask_bit _ _).1 hb
    rw [code_at_nat hn (hi p hp) (by omega) e] at hp
    obtain ⟨k, hk⟩ := List.getElem?_of_mem hp
    obtain ⟨g1, _⟩ := mov_step hn hi hnd hk
    refine ladTo_sub (k := k) ?_ (List.getElem?_eq_some_iff.1 hk).1
    rw [g1, List.mem_map]
    exact ⟨m', hm, rfl⟩
  · cases hm
theorem ladders_mem {n : Nat} (h1 : 1 ≤ n) (hn : n ≤ 6) {d e : List (Int × Int)} (hd : isDream (n : Int) d = true) (hnd : d.Nodup) :
    e ∈ ladders (n : Int) d ↔ ∃ m' ∈ succs n (maskD d), e = decM n m' ∧ maskD e = m' ∧ rsum e < rsum d := by
  have hi := dream_InSt hd
  unfold ladders
  rw [if_pos hd, mem_ascD]
  constructor
  · intro h
    obtain ⟨j, hj, hm⟩ := ladTo_mem h
    have hc := cell_some hj
    have hin := hi _ (List.mem_of_getElem? hc)
    have hsm := stair_small hn hin
    obtain ⟨⟨r0, q0⟩, hrq⟩ : ∃ p, cellOf d j = p := ⟨_, rfl⟩
    rw [hrq] at hc hin hsm
    simp only at hsm
    obtain ⟨r, rfl⟩ : ∃ r : Nat, r0 = r := ⟨r0.toNat, by omega⟩
    obtain ⟨q, rfl⟩ : ∃ q : Nat, q0 = q := ⟨q0.toNat, by omega⟩
    obtain ⟨g1, g2⟩ := mov_step hn hi hnd hc
    rw [g1, List.mem_map] at hm
    obtain ⟨m', hm', rfl⟩ := hm
    obtain ⟨g3, g4⟩ := g2 m' hm'
    refine ⟨m', ?_, rfl, g3, g4⟩
    unfold succs
    rw [List.mem_flatMap]
    refine ⟨r, List.mem_range.2 (by omega), List.mem_flatMap.2 ⟨q, List.mem_range.2 (by omega), ?_⟩⟩
    rw [if_pos ((mask_bit _ _).2 ⟨_, List.mem_of_getElem? hc, by unfold codeC; simp⟩)]
    exact hm'
  · rintro ⟨m', hm, rfl, _, _⟩
    exact succs_ladTo hn hi hnd hm
end Go.Proofs.Ytageojkepoejiaa
