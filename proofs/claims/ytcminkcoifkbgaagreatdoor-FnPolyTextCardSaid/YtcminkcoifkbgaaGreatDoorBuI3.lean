/-
  Contracts of IsPerm, the program's and the reference's.
  Contracts of isSize and IdentityPerm.
  Contracts of l1Swap and exchanged.
  Contracts of l1Code and CodeOf: how many smaller numbers stand behind each.
  Sums; contract of l1Sum.
  Permutations stay permutations; contracts of l1Length, LengthOf.
-/
import Derived.Test.YtcminkcoifkbgaaGreatDoorBuA
import Derived.RegionTactic
import Derived.ChangeAlike
namespace Go.Proofs.YtcminkcoifkbgaaGreatDoor
open Go.RowKit

def permAt (xs : List Int) (k : Nat) : Bool :=
  decide (0 ≤ xs.getD k 0) && decide (xs.getD k 0 < xs.length) && !((xs.take k).contains (xs.getD k 0))
def isPerm (xs : List Int) : Bool := decide (1 ≤ xs.length) && decide (xs.length ≤ 7) && (List.range xs.length).all (permAt xs)

theorem isPerm_false {xs : List Int} {k : Nat} (hk : k < xs.length) (h : permAt xs k = false) : isPerm xs = false := by
  simp only [isPerm, Bool.and_eq_false_iff]
  right
  rw [List.all_eq_false]
  exact ⟨k, by simpa using hk, by simp [h]⟩
theorem isPerm_true {xs : List Int} (h1 : 1 ≤ xs.length) (h2 : xs.length ≤ 7) (h : ∀ j, j < xs.length → permAt xs j = true) : isPerm xs = true := by
  have : (List.range xs.length).all (permAt xs) = true := by
    rw [List.all_eq_true]; intro j hj; exact h j (by simpa using hj)
  simp [isPerm, this, h1, h2]
theorem perm_len {xs : List Int} (h : isPerm xs = true) : 1 ≤ xs.length ∧ xs.length ≤ 7 := by
  simp [isPerm] at h; exact ⟨by omega, h.1.2⟩
theorem perm_at {xs : List Int} (h : isPerm xs = true) {k : Nat} {x : Int} (hx : xs[k]? = some x) : 0 ≤ x ∧ x < xs.length := by
  have hk := (List.getElem?_eq_some_iff.1 hx).1
  simp only [isPerm, Bool.and_eq_true, List.all_eq_true] at h
  have := h.2 k (by simpa using hk)
  simp only [permAt, getD_of hx, Bool.and_eq_true, decide_eq_true_eq] at this
  exact this.1

set_option maxHeartbeats 400000 in
theorem l1Has_any (a : Option Addr) (n c : Nat) (xs : List Int) (x : Int) (w : World) (hr : RI w a xs) (hn : xs.length = n) (hb : n ≤ 17592186044416) :
    Calls Tryz.prog 75 #[.slice a n c, .int .i64 x] w fun e w' => e = .returned (.bool (xs.contains x)) ∧ Drew w w' := by
  have Hn := Lib.hid hn; clear hn
  go_enter Tryz.func75, Tryz.ntmps75
  go_wp2
  go_loop [5] (fun i => ∃ k : Nat, k ≤ n ∧ i = .int .i64 k ∧ Hid ((xs.take k).contains x = false)) (fun i => n - (intOf i).toNat)
  case atStart => exact ⟨0, Nat.zero_le _, rfl, by exact rfl⟩
  case round =>
    obtain ⟨k, hk, rfl, HA⟩ := hrel
    by_cases hlt : k < n
    · obtain ⟨b, off, rfl, hcell⟩ := hr.at (k := k) (by rw [Hn.out]; exact hlt)
      obtain ⟨y, hy⟩ := some_at Hn.out hlt
      have hc := hcell k y hy
      have Hy := Lib.hid hy; clear hy
      clear hcell
      by_cases h1 : y = x
      · have hb1 : (y == x) = true := by simp [h1]
        go_wp2
        go_ret
        exact ⟨ret_bool (by have := List.mem_of_getElem? Hy.out; rw [h1] at this; simp [this]), Drew.refl _⟩
      · have hb1 : (y == x) = false := by simp [h1]
        go_wp2
        go_round
        case rel => exact ⟨k + 1, by omega, by go_num, by
          rw [List.take_add_one, Hy.out]
          have := HA.out
          simp only [List.contains_eq_mem, decide_eq_false_iff_not] at this
          simp [this]
          intro h; exact h1 h.symm⟩
        case measure => simp [intOf]; omega
    · obtain rfl : k = n := by omega
      go_wp2
      go_ret
      exact ⟨ret_bool (by have := HA.out; rw [List.take_of_length_le (by rw [Hn.out]; omega)] at this; rw [← this]; simp), Drew.refl _⟩

/-- the seven marks: which of 0 .. 6 are among the numbers -/
def met (l : List Int) : List Value := (List.range 7).map fun (j : Nat) => Value.bool (l.contains (j : Int))
theorem met_length (l : List Int) : (met l).length = 7 := by simp [met]
theorem met_at (l : List Int) {m : Nat} (h : m < 7) : (met l)[m]? = some (.bool (l.contains (m : Int))) := by simp [met, h]
theorem met_snoc (l : List Int) {m : Nat} (h : m < 7) : (met l).set m (.bool true) = met (l ++ [(m : Int)]) := by
  apply List.ext_getElem?
  intro i
  rw [List.getElem?_set, met_length]
  by_cases hi : m = i
  · subst hi
    rw [if_pos rfl, if_pos h, met_at _ h]
    simp
  · rw [if_neg hi]
    by_cases h7 : i < 7
    · rw [met_at _ h7, met_at _ h7]
      have : ((i : Int) == (m : Int)) = false := by simp; omega
      simp [List.mem_append]
      omega
    · rw [List.getElem?_eq_none (by rw [met_length]; omega), List.getElem?_eq_none (by rw [met_length]; omega)]
theorem met_made (w : World) (T : Nat) : (w.alloc (.cells #[.bool false, .bool false, .bool false, .bool false, .bool false, .bool false, .bool false] T)).ownsRow w.heap.size T 1 (.slice (some ⟨w.heap.size, 0, none⟩) 7 7) 7 (met []) :=
  ⟨by rw [met_length], .inr ⟨w.heap.size, 7, _, rfl, Nat.le_refl _, heap_alloc_new w _, Nat.le_refl _, by unfold maxLen; omega, rfl, rfl⟩⟩

end Go.Proofs.YtcminkcoifkbgaaGreatDoor

namespace Go.Proofs.YtcminkcoifkbgaaGreatDoor
open Go.RowKit

def ident (n : Nat) : List Int := (List.range n).map fun (i : Nat) => (i : Int)
theorem ident_length (n : Nat) : (ident n).length = n := by simp [ident]
theorem ident_at {n i : Nat} (h : i < n) : (ident n)[i]? = some (i : Int) := by simp [ident, h]
theorem ident_succ (n : Nat) : ident (n + 1) = ident n ++ [(n : Int)] := by simp [ident, List.range_succ]

end Go.Proofs.YtcminkcoifkbgaaGreatDoor

namespace Go.Proofs.YtcminkcoifkbgaaGreatDoor
open Go.RowKit

def swp (xs : List Int) (i j : Nat) : List Int := (xs.set i (xs.getD j 0)).set j (xs.getD i 0)
theorem swp_length (xs : List Int) (i j : Nat) : (swp xs i j).length = xs.length := by simp [swp]
theorem swp_at {xs : List Int} {i j : Nat} {x y : Int} (hx : xs[i]? = some x) (hy : xs[j]? = some y) : swp xs i j = (xs.set i y).set j x := by rw [swp, getD_of hx, getD_of hy]

set_option maxRecDepth 100000 in
set_option maxHeartbeats 1600000 in
theorem l1Swap_any (a : Option Addr) (n c : Nat) (xs : List Int) (i j : Nat) (I J : Int) (w : World) (hr : RI w a xs) (hn : xs.length = n) (hb : n ≤ 1048576) (hI : I = (i : Int)) (hJ : J = (j : Int)) (hi : i < n) (hj : j < n) :
    Calls Tryz.prog 73 #[.slice a n c, .int .i64 I, .int .i64 J] w fun e w' => ∃ a' c', e = .returned (.slice a' n c') ∧ OwI w' w.heap.size w'.heap.size a' n c' (swp xs i j) ∧ Below w.heap.size w w' := by
  subst hI hJ
  have Hn := Lib.hid hn; clear hn
  obtain ⟨b, off, rfl, hcell⟩ := hr.at (k := i) (by rw [Hn.out]; exact hi)
  obtain ⟨x, hx⟩ := some_at Hn.out hi
  obtain ⟨y, hy⟩ := some_at Hn.out hj
  have hcx := hcell i x hx
  have hcy := hcell j y hy
  have Hsw := Lib.hid (swp_at hx hy)
  clear hcell hx hy
  have hbx := World.block_lt_of_cell? w _ hcx
  have q1 : (i : Int) < (n : Int) := by omega
  have q2 : (j : Int) < (n : Int) := by omega
  go_enter Tryz.func73, Tryz.ntmps73
  go_wp2_with fail
  refine (l1Ints_any _ _ _ xs _ hr Hn.out hb).mono ?_
  rintro e w1 ⟨a1, c1, rfl, ho, hB⟩
  obtain ⟨g, rfl, hBg, ⟨v, hv, hcv⟩, hfv⟩ := OI.cons ho.1 hi
  have s1 := ho.1.store i y
  have hB1 := hB.grown s1.2 hB.size (by intro q hq; obtain rfl := Option.some.inj hq; exact hBg)
  obtain ⟨g', e', _, ⟨v2, hv2, hcv2⟩, hfv2⟩ := OI.cons s1.1 hj
  obtain rfl : g = g' := by simpa using e'
  have s2 := s1.1.store j x
  rw [← Hsw.out] at s2
  have hB2 := hB1.grown s2.2 hB1.size (by intro q hq; obtain rfl := Option.some.inj hq; exact hBg)
  have HS := Lib.hid (OwI.of s2.1)
  have hy1 : w1.cell? ⟨b, off + j, none⟩ = some (.int .i64 y) := by rw [hB.cell hbx]; exact hcy
  have hx2 : (w1.setCell ⟨g, i, none⟩ (.int .i64 y)).cell? ⟨b, off + i, none⟩ = some (.int .i64 x) := by rw [hB1.cell hbx]; exact hcx
  clear s1 s2 hv hv2 ho e' hcx hcy
  go_wp2
  go_ret
  exact ⟨_, _, rfl, HS.out, hB2⟩

end Go.Proofs.YtcminkcoifkbgaaGreatDoor

namespace Go.Proofs.YtcminkcoifkbgaaGreatDoor
open Go.RowKit

theorem OwI.nil0 {w : World} {B S : Nat} : OwI w B S none 0 0 [] := ⟨OS.of ⟨rfl, .inl ⟨rfl, rfl⟩⟩, fun k hk => by simp [Value.ownBlock] at hk⟩
/-- how many of the m numbers behind place i are smaller -/
def cnt (xs : List Int) (i m : Nat) : Nat := ((List.range m).filter fun t => decide (xs.getD (i + 1 + t) 0 < xs.getD i 0)).length
def code (xs : List Int) : List Int := (List.range xs.length).map fun i => (cnt xs i (xs.length - 1 - i) : Int)
theorem cnt_le (xs : List Int) (i m : Nat) : cnt xs i m ≤ m := by
  unfold cnt
  exact Nat.le_trans (List.length_filter_le _ _) (by simp)
theorem cnt_succ {xs : List Int} {i m : Nat} {x y : Int} (hx : xs[i]? = some x) (hy : xs[i + 1 + m]? = some y) : cnt xs i (m + 1) = if y < x then cnt xs i m + 1 else cnt xs i m := by
  unfold cnt
  rw [List.range_succ, List.filter_append, List.length_append, List.filter_cons, List.filter_nil, getD_of hx, getD_of hy]
  by_cases h : y < x <;> simp [h]
theorem code_length (xs : List Int) : (code xs).length = xs.length := by simp [code]
theorem code_at {xs : List Int} {n i : Nat} (hn : xs.length = n) (hi : i < n) : (code xs)[i]? = some (cnt xs i (n - 1 - i) : Int) := by
  subst hn
  simp [code, hi]
theorem fill_zero {C : List Int} {n i : Nat} (hC : C.length = n) (hi : i < n) : (fillTo C n i).set i 0 = fillTo C n i := by
  unfold fillTo
  obtain ⟨d, hd⟩ : ∃ d, n - i = d + 1 := ⟨n - i - 1, by omega⟩
  rw [hd, List.replicate_succ, List.set_append_right _ _ (by simp; omega)]
  have : i - (C.take i).length = 0 := by simp; omega
  rw [this, List.set_cons_zero]
/-- the code as far as place i, of which m are counted -/
def codeAt (xs : List Int) (n i m : Nat) : List Int := (fillTo (code xs) n i).set i (cnt xs i m : Int)
theorem codeAt_start {xs : List Int} {n i : Nat} (hn : xs.length = n) (hi : i < n) : codeAt xs n i 0 = fillTo (code xs) n i := by
  unfold codeAt
  exact fill_zero (by rw [code_length]; exact hn) hi
theorem codeAt_set (xs : List Int) (n i m : Nat) : (codeAt xs n i m).set i (cnt xs i m + 1 : Int) = (fillTo (code xs) n i).set i ((cnt xs i m + 1 : Nat) : Int) := by
  unfold codeAt
  rw [List.set_set]; rfl
theorem codeAt_less {xs : List Int} {n i m : Nat} {x y : Int} (hx : xs[i]? = some x) (hy : xs[i + 1 + m]? = some y) (h : y < x) : (codeAt xs n i m).set i ((cnt xs i m : Int) + 1) = codeAt xs n i (m + 1) := by
  unfold codeAt
  rw [List.set_set, cnt_succ hx hy, if_pos h]; rfl
theorem codeAt_same {xs : List Int} {n i m : Nat} {x y : Int} (hx : xs[i]? = some x) (hy : xs[i + 1 + m]? = some y) (h : ¬ y < x) : codeAt xs n i m = codeAt xs n i (m + 1) := by
  unfold codeAt
  rw [cnt_succ hx hy, if_neg h]
theorem codeAt_end {xs : List Int} {n i : Nat} (hn : xs.length = n) (hi : i < n) : codeAt xs n i (n - 1 - i) = fillTo (code xs) n (i + 1) := by
  unfold codeAt
  exact fillTo_succ (by rw [code_length]; exact hn) hi (code_at hn hi)
theorem codeAt_at {xs : List Int} {n i m : Nat} (hn : xs.length = n) (hi : i < n) : (codeAt xs n i m)[i]? = some (cnt xs i m : Int) := by
  unfold codeAt
  rw [List.getElem?_set, if_pos rfl, if_pos]
  rw [fillTo_length (by rw [code_length]; exact hn) (by omega)]; exact hi

def codeOf (xs : List Int) : List Int := if isPerm xs then code xs else []
theorem codeOf_length (xs : List Int) : (codeOf xs).length ≤ 7 := by
  unfold codeOf
  split
  · rw [code_length]; exact (perm_len ‹_›).2
  · simp

end Go.Proofs.YtcminkcoifkbgaaGreatDoor

namespace Go.Proofs.YtcminkcoifkbgaaGreatDoor
open Go.RowKit

def sumI (xs : List Int) : Int := xs.foldr (· + ·) 0
theorem sumI_nil : sumI [] = 0 := rfl
theorem sumI_cons (x : Int) (xs : List Int) : sumI (x :: xs) = x + sumI xs := rfl
theorem sumI_append (xs ys : List Int) : sumI (xs ++ ys) = sumI xs + sumI ys := by
  induction xs with
  | nil => simp [sumI_nil]
  | cons x xs ih => rw [List.cons_append, sumI_cons, sumI_cons, ih]; omega
theorem sumI_take {xs : List Int} {k : Nat} {x : Int} (h : xs[k]? = some x) : sumI (xs.take (k + 1)) = sumI (xs.take k) + x := by
  obtain ⟨hk, rfl⟩ := List.getElem?_eq_some_iff.1 h
  rw [List.take_succ_eq_append_getElem hk, sumI_append, sumI_cons, sumI_nil]; omega
/-- numbers so small that no sum of them wraps -/
def Small (xs : List Int) : Prop := ∀ x ∈ xs, -1048576 ≤ x ∧ x ≤ 1048576
theorem sumI_bd {xs : List Int} (h : Small xs) : -(1048576 * (xs.length : Int)) ≤ sumI xs ∧ sumI xs ≤ 1048576 * (xs.length : Int) := by
  induction xs with
  | nil => simp [sumI_nil]
  | cons x xs ih =>
    have h1 := h x (by simp)
    have h2 := ih (fun y hy => h y (by simp [hy]))
    rw [sumI_cons, List.length_cons]
    omega
theorem Small.take {xs : List Int} (h : Small xs) (k : Nat) : Small (xs.take k) := fun x hx => h x (List.mem_of_mem_take hx)
theorem Small.at {xs : List Int} (h : Small xs) {k : Nat} {x : Int} (hx : xs[k]? = some x) : -1048576 ≤ x ∧ x ≤ 1048576 := h x (List.mem_of_getElem? hx)

end Go.Proofs.YtcminkcoifkbgaaGreatDoor

namespace Go.Proofs.YtcminkcoifkbgaaGreatDoor
open Go.RowKit

theorem isPerm_iff (xs : List Int) : isPerm xs = true ↔ 1 ≤ xs.length ∧ xs.length ≤ 7 ∧ (∀ x ∈ xs, 0 ≤ x ∧ x < xs.length) ∧ xs.Nodup := by
  constructor
  · intro h
    have hl := perm_len h
    refine ⟨hl.1, hl.2, fun x hx => ?_, ?_⟩
    · obtain ⟨i, hi⟩ := List.mem_iff_getElem?.1 hx
      exact perm_at h hi
    · rw [List.nodup_iff_pairwise_ne, List.pairwise_iff_getElem]
      intro i j hi hj hij e
      simp only [isPerm, Bool.and_eq_true, List.all_eq_true] at h
      have := h.2 j (by simpa using hj)
      have hxj : xs[j]? = some xs[j] := List.getElem?_eq_getElem hj
      simp only [permAt, getD_of hxj, Bool.and_eq_true, Bool.not_eq_true'] at this
      have h3 := this.2
      rw [List.contains_eq_mem, decide_eq_false_iff_not] at h3
      refine h3 (List.mem_iff_getElem?.2 ⟨i, ?_⟩)
      rw [List.getElem?_take, if_pos hij, ← e, List.getElem?_eq_getElem hi]
  · rintro ⟨h1, h2, h3, h4⟩
    refine isPerm_true h1 h2 (fun j hj => ?_)
    have hxj : xs[j]? = some xs[j] := List.getElem?_eq_getElem hj
    have hb := h3 xs[j] (List.getElem_mem hj)
    have hnm : ¬ xs[j] ∈ xs.take j := by
      intro hm
      obtain ⟨i, hi⟩ := List.mem_iff_getElem?.1 hm
      rw [List.getElem?_take] at hi
      split at hi
      · rename_i hij
        obtain ⟨hi', e⟩ := List.getElem?_eq_some_iff.1 hi
        rw [List.nodup_iff_pairwise_ne, List.pairwise_iff_getElem] at h4
        exact h4 i j hi' hj hij e
      · cases hi
    simp only [permAt, getD_of hxj, List.contains_eq_mem, hnm]
    simp; omega
theorem swp_perm {xs : List Int} {i j : Nat} (hi : i < xs.length) (hj : j < xs.length) : (swp xs i j).Perm xs := by
  rw [swp_at (List.getElem?_eq_getElem hi) (List.getElem?_eq_getElem hj)]
  exact List.set_set_perm hi hj
theorem isPerm_swp {xs : List Int} {i j : Nat} (h : isPerm xs = true) (hi : i < xs.length) (hj : j < xs.length) : isPerm (swp xs i j) = true := by
  rw [isPerm_iff] at h ⊢
  have hp := swp_perm hi hj
  rw [hp.length_eq]
  exact ⟨h.1, h.2.1, fun x hx => h.2.2.1 x (hp.mem_iff.1 hx), hp.nodup_iff.2 h.2.2.2⟩
theorem isPerm_ident {n : Nat} (h : 1 ≤ n ∧ n ≤ 7) : isPerm (ident n) = true := by
  obtain ⟨h1, h2⟩ := h
  have : n = 1 ∨ n = 2 ∨ n = 3 ∨ n = 4 ∨ n = 5 ∨ n = 6 ∨ n = 7 := by omega
  rcases this with rfl | rfl | rfl | rfl | rfl | rfl | rfl <;> decide
theorem code_nat {xs : List Int} {i : Nat} {x : Int} (h : (code xs)[i]? = some x) : 0 ≤ x ∧ x ≤ (xs.length : Nat) := by
  have hi := (List.getElem?_eq_some_iff.1 h).1
  rw [code_length] at hi
  rw [code_at rfl hi] at h
  obtain rfl := Option.some.inj h
  have := cnt_le xs i (xs.length - 1 - i)
  omega
theorem small_code {xs : List Int} (h : xs.length ≤ 1000) : Small (code xs) := by
  intro x hx
  obtain ⟨i, hi⟩ := List.mem_iff_getElem?.1 hx
  have := code_nat hi
  omega

end Go.Proofs.YtcminkcoifkbgaaGreatDoor
