/-
  The word of a dream: its cells sorted by rows, in each row the last one first.
  Contract of l3Before: dreams compared cell by cell.
  Contracts of isDream and l3Crosses: whether cells are a dream.
  slices.SortFunc at impl.Cell: the kit's shelf, laid at this program's numbers.
  Worlds that a sort passes through: draws, new blocks, one row's cells put anew.
  Contract of slices.SortFunc at a row of cells of the call's own, by an order that parts whatever two cells; given by the kit's shelf: AnyQ.slices_SortFunc_total.
-/
import Derived.Test.YtdpjcjnednmoeaaBuM11
import Derived.Test.YtdpjcjnednmoeaaBuM8
import Derived.Deep.RegionHeld3
import Derived.Test.YtdpjcjnednmoeaaFacts
import Derived.Shelf.SlSortCmp.NoneTotal
import Derived.Test.YtdpjcjnednmoeaaBase
namespace Go.Proofs.Ytdpjcjnednmoeaa

def turned (p : Int × Int) : Int × Int := (p.1, -p.2)
/-- p does not stand behind q -/
def wordLe (p q : Int × Int) : Bool := !(cellLess (turned q) (turned p))
theorem cellLess_iff (p q : Int × Int) : cellLess p q = true ↔ p.1 < q.1 ∨ p.1 = q.1 ∧ p.2 < q.2 := by
  simp [cellLess]
theorem cellLess_no (p q : Int × Int) : cellLess p q = false ↔ ¬ (p.1 < q.1 ∨ p.1 = q.1 ∧ p.2 < q.2) := by
  rw [← cellLess_iff, Bool.not_eq_true]
theorem wordLe_iff (p q : Int × Int) : wordLe p q = true ↔ p.1 < q.1 ∨ p.1 = q.1 ∧ q.2 ≤ p.2 := by
  unfold wordLe turned
  rw [Bool.not_eq_true', cellLess_no]
  simp only
  omega
theorem wordLe_trans (a b c : Int × Int) (h : wordLe a b = true) (k : wordLe b c = true) : wordLe a c = true := by
  rw [wordLe_iff] at *; omega
theorem wordLe_total (a b : Int × Int) : (wordLe a b || wordLe b a) = true := by
  rw [Bool.or_eq_true, wordLe_iff, wordLe_iff]; omega
theorem wordLe_antisymm (a b : Int × Int) (h : wordLe a b = true) (k : wordLe b a = true) : a = b := by
  rw [wordLe_iff] at *
  exact Prod.ext (by omega) (by omega)
theorem sort_unique {xs ys : List (Int × Int)} (hp : ys.Perm xs) (hs : ys.Pairwise (fun a b => wordLe a b = true)) : xs.mergeSort wordLe = ys := by
  refine List.Perm.eq_of_pairwise (le := fun a b => wordLe a b = true) ?_ (List.pairwise_mergeSort wordLe_trans wordLe_total xs) hs ((List.mergeSort_perm xs wordLe).trans hp.symm)
  intro a b _ _ h k
  exact wordLe_antisymm a b h k

theorem dream_all {n : Int} {xs : List (Int × Int)} (h : isDream n xs = true) : (1 ≤ n ∧ n ≤ 6) ∧ ∀ j, j < xs.length → dreamAt n xs j = true := by
  unfold isDream at h
  rw [Bool.and_eq_true, List.all_eq_true] at h
  exact ⟨of_decide_eq_true h.1, fun j hj => h.2 j (by simpa using hj)⟩
theorem dream_in {n : Int} {xs : List (Int × Int)} (h : isDream n xs = true) {j : Nat} (hj : j < xs.length) : inStair n (cellOf xs j) = true := by
  have := (dream_all h).2 j hj
  unfold dreamAt at this
  rw [Bool.and_eq_true] at this
  exact this.1
theorem dream_rise {n : Int} {xs : List (Int × Int)} (h : isDream n xs = true) : ∀ (d j : Nat), j + d + 1 < xs.length → cellLess (cellOf xs j) (cellOf xs (j + d + 1)) = true := by
  intro d
  induction d with
  | zero =>
    intro j hj
    have := (dream_all h).2 (j + 1) hj
    unfold dreamAt at this
    rw [Bool.and_eq_true, Bool.or_eq_true] at this
    rcases this.2 with h1 | h1
    · simp at h1
    · exact h1
  | succ d ih =>
    intro j hj
    have h1 := ih j (by omega)
    have h2 := (dream_all h).2 (j + d + 2) hj
    unfold dreamAt at h2
    rw [Bool.and_eq_true, Bool.or_eq_true] at h2
    rcases h2.2 with h3 | h3
    · simp at h3
    · rw [cellLess_iff] at *
      have e : j + (d + 1) + 1 = j + d + 2 := by omega
      rw [e]
      have e2 : j + d + 2 - 1 = j + d + 1 := by omega
      rw [e2] at h3
      omega
theorem dream_less {n : Int} {xs : List (Int × Int)} (h : isDream n xs = true) {i j : Nat} (hij : i < j) (hj : j < xs.length) : (cellOf xs i).1 < (cellOf xs j).1 ∨ (cellOf xs i).1 = (cellOf xs j).1 ∧ (cellOf xs i).2 < (cellOf xs j).2 := by
  have := dream_rise h (j - i - 1) i (by omega)
  rw [show i + (j - i - 1) + 1 = j by omega, cellLess_iff] at this
  exact this

theorem wst_perm (xs : List (Int × Int)) : ∀ i, (wst xs i).2.Perm (xs.take (wst xs i).1) := by
  intro i
  induction i with
  | zero => simp [wst]
  | succ i ih =>
    rw [wst]
    split
    · exact ih
    · have hle := wst_le xs i
      simp only
      have h1 : xs.take i = xs.take (wst xs i).1 ++ (xs.take i).drop (wst xs i).1 := by
        conv => lhs; rw [← List.take_append_drop (wst xs i).1 (xs.take i)]
        rw [List.take_take, Nat.min_eq_left hle]
      conv => rhs; rw [h1]
      exact ih.append (List.reverse_perm _)
theorem wordCells_perm (xs : List (Int × Int)) : (wordCells xs).Perm xs := by
  unfold wordCells grp
  have h := (wst_perm xs xs.length).append (List.reverse_perm ((xs.take xs.length).drop (wst xs xs.length).1))
  rw [List.take_length] at h ⊢
  rw [List.take_append_drop] at h
  exact h

/-- what holds of the state at cell i -/
structure WInv (xs : List (Int × Int)) (i : Nat) : Prop where
  same : ∀ j, (wst xs i).1 ≤ j → j < i → (cellOf xs j).1 = (cellOf xs (wst xs i).1).1
  less : ∀ j k, j < (wst xs i).1 → (wst xs i).1 ≤ k → k < xs.length → (cellOf xs j).1 < (cellOf xs k).1
  pair : (wst xs i).2.Pairwise (fun a b => wordLe a b = true)
theorem mem_take {xs : List (Int × Int)} {f : Nat} {p : Int × Int} (h : p ∈ xs.take f) : ∃ j, j < f ∧ j < xs.length ∧ cellOf xs j = p := by
  obtain ⟨j, hj⟩ := List.getElem?_of_mem h
  have hl := (List.getElem?_eq_some_iff.1 hj).1
  rw [List.length_take] at hl
  rw [List.getElem?_take, if_pos (by omega)] at hj
  exact ⟨j, by omega, by omega, cellOf_at hj⟩
theorem mem_grp {xs : List (Int × Int)} {f i : Nat} {p : Int × Int} (h : p ∈ grp xs f i) : ∃ j, f ≤ j ∧ j < i ∧ j < xs.length ∧ cellOf xs j = p := by
  unfold grp at h
  rw [List.mem_reverse] at h
  obtain ⟨j, hj⟩ := List.getElem?_of_mem h
  have hl := (List.getElem?_eq_some_iff.1 hj).1
  rw [List.length_drop, List.length_take] at hl
  rw [List.getElem?_drop, List.getElem?_take, if_pos (by omega)] at hj
  exact ⟨f + j, by omega, by omega, by omega, cellOf_at hj⟩
theorem WInv.join {n : Int} {xs : List (Int × Int)} {i : Nat} (hd : isDream n xs = true) (hi : i ≤ xs.length) (h : WInv xs i) : ((wst xs i).2 ++ grp xs (wst xs i).1 i).Pairwise (fun a b => wordLe a b = true) := by
  rw [List.pairwise_append]
  refine ⟨h.pair, ?_, ?_⟩
  · unfold grp
    rw [List.pairwise_reverse, List.pairwise_iff_getElem]
    intro a b ha hb hab
    rw [List.length_drop, List.length_take] at ha hb
    rw [List.getElem_drop, List.getElem_drop, List.getElem_take, List.getElem_take]
    have ea : cellOf xs ((wst xs i).1 + a) = xs[(wst xs i).1 + a]'(by omega) := cellOf_at (List.getElem?_eq_getElem _)
    have eb : cellOf xs ((wst xs i).1 + b) = xs[(wst xs i).1 + b]'(by omega) := cellOf_at (List.getElem?_eq_getElem _)
    have h1 := dream_less hd (i := (wst xs i).1 + a) (j := (wst xs i).1 + b) (by omega) (by omega)
    have h2 := h.same ((wst xs i).1 + a) (by omega) (by omega)
    have h3 := h.same ((wst xs i).1 + b) (by omega) (by omega)
    rw [← ea, ← eb, wordLe_iff]
    omega
  · intro a ha b hb
    obtain ⟨j, h1, _, rfl⟩ := mem_take ((wst_perm xs i).mem_iff.1 ha)
    obtain ⟨k, h2, _, h3, rfl⟩ := mem_grp hb
    rw [wordLe_iff]
    left
    exact h.less j k h1 h2 h3
theorem winv {n : Int} {xs : List (Int × Int)} (hd : isDream n xs = true) : ∀ i, i ≤ xs.length → WInv xs i := by
  intro i
  induction i with
  | zero =>
    intro _
    exact ⟨fun j _ h => by omega, fun j k h => by simp [wst] at h, List.Pairwise.nil⟩
  | succ i ih =>
    intro hi
    have h := ih (by omega)
    by_cases hr : (cellOf xs i).1 = (cellOf xs (wst xs i).1).1
    · have e := wst_same (xs := xs) (i := i) rfl hr
      constructor
      · rw [e]
        intro j h1 h2
        rcases Nat.lt_or_ge j i with h3 | h3
        · exact h.same j h1 h3
        · obtain rfl : j = i := by omega
          exact hr
      · rw [e]; exact h.less
      · rw [e]; exact h.pair
    · have e := wst_new (xs := xs) (i := i) rfl hr
      have hle := wst_le xs i
      have hpos : (wst xs i).1 < i := by
        rcases Nat.lt_or_ge (wst xs i).1 i with h1 | h1
        · exact h1
        · have : (wst xs i).1 = i := by omega
          rw [this] at hr
          exact absurd rfl hr
      have hfi := dream_less hd hpos (by omega)
      constructor
      · rw [e]; intro j h1 h2; obtain rfl : j = i := (by simp only at h1; omega); rfl
      · rw [e]
        simp only
        intro j k h1 h2 h3
        have hik : (cellOf xs i).1 ≤ (cellOf xs k).1 := by
          rcases Nat.lt_or_ge i k with h4 | h4
          · have := dream_less hd h4 h3; omega
          · obtain rfl : k = i := by omega
            exact Int.le_refl _
        rcases Nat.lt_or_ge j (wst xs i).1 with h4 | h4
        · have := h.less j (wst xs i).1 h4 (Nat.le_refl _) (by omega)
          omega
        · have := h.same j h4 h1
          omega
      · rw [e]; exact h.join hd (by omega)
theorem word_sorted {n : Int} {xs : List (Int × Int)} (hd : isDream n xs = true) : xs.mergeSort wordLe = wordCells xs :=
  sort_unique (wordCells_perm xs) ((winv hd xs.length (Nat.le_refl _)).join hd (Nat.le_refl _))
theorem dream_low {n : Int} {xs : List (Int × Int)} (hd : isDream n xs = true) : ∀ (k : Nat) (p : Int × Int), xs[k]? = some p → Low p.1 ∧ Low p.2 := by
  intro k p hp
  have h := dream_in hd (List.getElem?_eq_some_iff.1 hp).1
  rw [cellOf_at hp] at h
  have hn := (dream_all hd).1
  unfold inStair at h
  simp only [Bool.and_eq_true, decide_eq_true_eq] at h
  unfold Low
  omega
end Go.Proofs.Ytdpjcjnednmoeaa

namespace Go.Proofs.Ytdpjcjnednmoeaa
open Go.RowKit

/-- the lists agree as far as so -/
def SameTo (xs ys : List (Int × Int)) (k : Nat) : Prop := ∀ j, j < k → xs[j]? = ys[j]?
theorem lessD_skip : ∀ {xs ys : List (Int × Int)} {k : Nat}, SameTo xs ys k → k ≤ xs.length → k ≤ ys.length → lessD xs ys = lessD (xs.drop k) (ys.drop k)
  | xs, ys, 0, _, _, _ => by rw [List.drop_zero, List.drop_zero]
  | [], _, k + 1, _, h, _ => by simp at h
  | _ :: _, [], k + 1, _, _, h => by simp at h
  | x :: xs, y :: ys, k + 1, h, h1, h2 => by
    have e : x = y := by have := h 0 (by omega); simpa using this
    have h' : SameTo xs ys k := fun j hj => by have := h (j + 1) (by omega); simpa using this
    rw [lessD, if_pos e, List.drop_succ_cons, List.drop_succ_cons]
    exact lessD_skip h' (by simpa using h1) (by simpa using h2)
theorem lessD_at {xs ys : List (Int × Int)} {k : Nat} {x y : Int × Int} (h : SameTo xs ys k) (hx : xs[k]? = some x) (hy : ys[k]? = some y) (hne : x ≠ y) : lessD xs ys = cellLess x y := by
  obtain ⟨h1, e1⟩ := List.getElem?_eq_some_iff.1 hx
  obtain ⟨h2, e2⟩ := List.getElem?_eq_some_iff.1 hy
  rw [lessD_skip h (by omega) (by omega), List.drop_eq_getElem_cons h1, List.drop_eq_getElem_cons h2, lessD, e1, e2, if_neg hne]
theorem lessD_end {xs ys : List (Int × Int)} {n m : Nat} (hn : xs.length = n) (hm : ys.length = m) (h : SameTo xs ys (min n m)) : lessD xs ys = decide (n < m) := by
  rw [lessD_skip h (by omega) (by omega)]
  rcases Nat.lt_or_ge n m with hl | hl
  · rw [Nat.min_eq_left (by omega), List.drop_of_length_le (by omega), List.drop_eq_getElem_cons (by omega), lessD]
    simp [hl]
  · rw [Nat.min_eq_right hl, List.drop_of_length_le (l := ys) (by omega)]
    rcases Nat.lt_or_ge m n with h2 | h2
    · rw [List.drop_eq_getElem_cons (by omega), lessD]
      simp
      omega
    · rw [List.drop_of_length_le (by omega), lessD]
      simp
      omega
theorem SameTo.succ {xs ys : List (Int × Int)} {k : Nat} {x : Int × Int} (h : SameTo xs ys k) (hx : xs[k]? = some x) (hy : ys[k]? = some x) : SameTo xs ys (k + 1) := fun j hj => by
  rcases Nat.lt_or_ge j k with h1 | h1
  · exact h j h1
  · obtain rfl : j = k := by omega
    rw [hx, hy]

end Go.Proofs.Ytdpjcjnednmoeaa

namespace Go.Proofs.Ytdpjcjnednmoeaa
open Go.RowKit

theorem stair_bad {n : Int} {r c : Int} (h : ¬ (0 ≤ r ∧ r ≤ n - 2) ∨ ¬ (0 ≤ c ∧ c ≤ n - 2 - r)) : inStair n (r, c) = false := by
  unfold inStair
  rw [Bool.and_eq_false_iff]
  rcases h with h | h
  · exact .inl (decide_eq_false h)
  · exact .inr (decide_eq_false h)
theorem stair_ok {n : Int} {r c : Int} (h : 0 ≤ r ∧ r ≤ n - 2) (k : 0 ≤ c ∧ c ≤ n - 2 - r) : inStair n (r, c) = true := by
  unfold inStair
  rw [Bool.and_eq_true]
  exact ⟨decide_eq_true h, decide_eq_true k⟩
theorem stair_in {n : Int} {p : Int × Int} (hn : 1 ≤ n ∧ n ≤ 6) (h : inStair n p = true) : Low p.1 ∧ Low p.2 := by
  unfold inStair at h
  simp only [Bool.and_eq_true, decide_eq_true_eq] at h
  unfold Low
  omega
theorem dreamAt_stair {n : Int} {xs : List (Int × Int)} {k : Nat} {p : Int × Int} (h : xs[k]? = some p) (h1 : dreamAt n xs k = true) : inStair n p = true := by
  unfold dreamAt at h1
  rw [cellOf_at h, Bool.and_eq_true] at h1
  exact h1.1

set_option maxRecDepth 100000 in
set_option maxHeartbeats 3200000 in
theorem implDream_any (N : Int) (a : Option Addr) (n c : Nat) (xs : List (Int × Int)) (w : World) (hl : -9223372036854775808 ≤ N) (hu : N ≤ 9223372036854775807) (hr : RC w a xs) (hn : xs.length = n) (hb : n ≤ 1048576) :
    Calls Try.prog 46 #[.int .i64 N, .slice a n c] w fun e w' => e = .returned (.bool (isDream N xs)) ∧ Below w.heap.size w w' := by
  have Hn := Lib.hid hn; clear hn
  by_cases hN : 1 ≤ N ∧ N ≤ 6
  rotate_left
  · have Hres := Lib.hid (isDream_size (xs := xs) hN)
    by_cases hlow : N < 1
    · clear hN
      go_enter Try.func46, Try.ntmps46
      go_wp2
      go_ret
      exact ⟨ret_bool Hres.out.symm, Below.refl _ _⟩
    · have hhigh : 6 < N := by omega
      clear hN
      go_enter Try.func46, Try.ntmps46
      go_wp2
      go_ret
      exact ⟨ret_bool Hres.out.symm, Below.refl _ _⟩
  have HN := Lib.hid hN
  obtain ⟨hN1, hN2⟩ := hN
  have hB1 := Below.refl w.heap.size w
  go_enter Try.func46, Try.ntmps46
  go_wp2
  go_loopw [15] (fun i wr => ∃ k : Nat, k ≤ n ∧ i = .int .i64 k ∧ Hid (∀ j, j < k → dreamAt N xs j = true) ∧ Below w.heap.size w wr) (fun i _ => n - (intOf i).toNat)
  case atStart => exact ⟨0, Nat.zero_le _, rfl, by intro j hj; omega, hB1⟩
  case round =>
    clear hB1
    obtain ⟨k, hk, rfl, HA, hd⟩ := hrel
    obtain ⟨wo, rfl⟩ : ∃ wo : World, wo = wr := ⟨_, rfl⟩
    have hbs := hd.size
    by_cases hlt : k < n
    · obtain ⟨b, off, rfl, hcell⟩ := (hr.below hd).at (k := k) (by rw [Hn.out]; exact hlt)
      obtain ⟨r, c0, hx⟩ := pair_at Hn.out hlt
      obtain ⟨hc1, hc2⟩ := hcell k _ hx
      simp only at hc1 hc2
      have hlast : k ≠ 0 → ∃ r' c', xs[k-1]? = some (r', c') ∧ wo.cell? ⟨b, off + (k-1) * 2, none⟩ = some (.int .i64 r') ∧ wo.cell? ⟨b, off + (k-1) * 2 + 1, none⟩ = some (.int .i64 c') ∧ Low r' ∧ Low c' := by
        intro h0
        obtain ⟨r', c', ht⟩ := pair_at (k := k - 1) Hn.out (by omega)
        obtain ⟨e1, e2⟩ := hcell (k - 1) _ ht
        have := stair_in HN.out (dreamAt_stair ht (HA.out (k - 1) (by omega)))
        exact ⟨r', c', ht, e1, e2, this.1, this.2⟩
      clear hcell
      have Hx := Lib.hid hx; clear hx
      have q1 : (k : Int) < (n : Int) := by omega
      obtain ⟨W, hW⟩ : ∃ W, wo.alloc (.cells #[.int .i64 r, .int .i64 c0] 52) = W := ⟨_, rfl⟩
      have hBW : Below wo.heap.size wo W := by rw [← hW]; exact (Below.refl _ _).alloc (Nat.le_refl _) _
      have hdW := hd.trans (hBW.mono hbs)
      have hbW := hdW.size
      have g0 : W.heap[wo.heap.size]? = some (.cells #[.int .i64 r, .int .i64 c0] 52) := by rw [← hW]; exact heap_alloc_new wo _
      have p0 : W.cell? ⟨wo.heap.size, 0, none⟩ = some (.int .i64 r) := by rw [cell_of_row W _ 0 _ _ (0, 0) g0]; rfl
      have p1 : W.cell? ⟨wo.heap.size, 1, none⟩ = some (.int .i64 c0) := by rw [cell_of_row W _ 1 _ _ (0, 0) g0]; rfl
      have k0 := fun d os => cell_regrown p0 d os
      have k1 := fun d os => cell_regrown p1 d os
      clear g0
      by_cases h1 : r < 0
      · clear hlast
        go_wp2
        refine wp_region_quiet_below (by kernel_rfl) (by kernel_rfl) ?_
        repeat (go_big_quiet_step (fail))
        refine wpQuiet_nil ?_
        intro _ hw'
        obtain ⟨⟨dq, osq⟩, hw''⟩ := hw'
        subst hw''
        have hB2 := hdW.trans ((below_regrown W dq osq).mono hbW)
        go_wp2
        go_ret
        exact ⟨ret_bool (isDream_false (k := k) (by rw [Hn.out]; exact hlt) (dreamAt_out Hx.out (stair_bad (.inl (by omega))))).symm, hB2⟩
      have n1 : decide (r < 0) = false := by simp; omega
      by_cases h2 : N - 2 < r
      · clear hlast
        go_wp2
        refine wp_region_quiet_below (by kernel_rfl) (by kernel_rfl) ?_
        repeat (go_big_quiet_step (fail))
        refine wpQuiet_nil ?_
        intro _ hw'
        obtain ⟨⟨dq, osq⟩, hw''⟩ := hw'
        subst hw''
        have hB2 := hdW.trans ((below_regrown W dq osq).mono hbW)
        go_wp2
        go_ret
        exact ⟨ret_bool (isDream_false (k := k) (by rw [Hn.out]; exact hlt) (dreamAt_out Hx.out (stair_bad (.inl (by omega))))).symm, hB2⟩
      have n2 : decide (N - 2 < r) = false := by simp; omega
      by_cases h3 : c0 < 0
      · clear hlast
        go_wp2
        refine wp_region_quiet_below (by kernel_rfl) (by kernel_rfl) ?_
        repeat (go_big_quiet_step (fail))
        refine wpQuiet_nil ?_
        intro _ hw'
        obtain ⟨⟨dq, osq⟩, hw''⟩ := hw'
        subst hw''
        have hB2 := hdW.trans ((below_regrown W dq osq).mono hbW)
        go_wp2
        go_ret
        exact ⟨ret_bool (isDream_false (k := k) (by rw [Hn.out]; exact hlt) (dreamAt_out Hx.out (stair_bad (.inr (by omega))))).symm, hB2⟩
      have n3 : decide (c0 < 0) = false := by simp; omega
      by_cases h4 : N - 2 - r < c0
      · clear hlast
        go_wp2
        refine wp_region_quiet_below (by kernel_rfl) (by kernel_rfl) ?_
        repeat (go_big_quiet_step (fail))
        refine wpQuiet_nil ?_
        intro _ hw'
        obtain ⟨⟨dq, osq⟩, hw''⟩ := hw'
        subst hw''
        have hB2 := hdW.trans ((below_regrown W dq osq).mono hbW)
        go_wp2
        go_ret
        exact ⟨ret_bool (isDream_false (k := k) (by rw [Hn.out]; exact hlt) (dreamAt_out Hx.out (stair_bad (.inr (by omega))))).symm, hB2⟩
      have n4 : decide (N - 2 - r < c0) = false := by simp; omega
      obtain ⟨hr0, hr1⟩ : 0 ≤ r ∧ r ≤ N - 2 := by simp at n1 n2; omega
      obtain ⟨hcol0, hcol1⟩ : 0 ≤ c0 ∧ c0 ≤ N - 2 - r := by simp at n3 n4; omega
      have HS := Lib.hid (stair_ok ⟨hr0, hr1⟩ ⟨hcol0, hcol1⟩)
      by_cases hk0 : k = 0
      · clear hlast
        subst hk0
        simp only [Nat.zero_mul, Nat.add_zero] at hc1 hc2
        have g0 : decide ((0 : Int) < 0) = false := by decide
        go_wp2
        refine wp_region_quiet_below (by kernel_rfl) (by kernel_rfl) ?_
        repeat (go_big_quiet_step (fail))
        refine wpQuiet_nil ?_
        intro _ hw'
        obtain ⟨⟨dq, osq⟩, hw''⟩ := hw'
        subst hw''
        have hB2 := hdW.trans ((below_regrown W dq osq).mono hbW)
        go_wp2
        go_roundw
        case rel => exact ⟨1, by omega, rfl, dream_next HA.out (dreamAt_first Hx.out HS.out), hB2⟩
        case measure => simp [intOf]; omega
      · obtain ⟨r2, c2, ht, hc3, hc4, hl1, hl2⟩ := hlast hk0
        clear hlast
        have Ht := Lib.hid ht; clear ht
        have hc3 : W.cell? ⟨b, off + (k-1) * 2, none⟩ = some (.int .i64 r2) := by rw [hBW.cell (World.block_lt_of_cell? wo _ hc3)]; exact hc3
        have hc4 : W.cell? ⟨b, off + (k-1) * 2 + 1, none⟩ = some (.int .i64 c2) := by rw [hBW.cell (World.block_lt_of_cell? wo _ hc4)]; exact hc4
        have k2 := fun d os => cell_regrown hc3 d os
        have k3 := fun d os => cell_regrown hc4 d os
        have g0 : 0 < k := by omega
        have g1 : (0 : Int) ≤ (k : Int) - 1 := by omega
        have g2 : (k : Int) - 1 < (n : Int) := by omega
        cases hL : cellLess (r2, c2) (r, c0)
        · have HL := Lib.hid hL
          obtain ⟨oo, hoo⟩ : ∃ o, cellCmp (r2, c2) (r, c0) = o := ⟨_, rfl⟩
          have ho2 : decide (0 ≤ oo) = !(cellLess (r2, c2) (r, c0)) := by rw [← cellCmp_less, hoo]; by_cases h : oo < 0 <;> simp [h] <;> omega
          rw [hL] at ho2
          simp only [Bool.not_false] at ho2
          have cl : ∀ (d : Nat) (os : Array Obj), Calls Try.prog 51 #[.agg #[.int .i64 r2, .int .i64 c2], .agg #[.int .i64 r, .int .i64 c0]] (Go.Sort.grow (redrawn W d) os) fun e w'' => e = .returned (.int .i64 oo) ∧ ∃ p : Regrown, w'' = Go.Sort.grow (redrawn W p.d) p.os := fun d os => Calls.regrown_of (by rw [← hoo]; exact byCells_any r2 c2 r c0 _ hl1 hl2 (by unfold Low; omega) (by unfold Low; omega))
          have CL := Lib.hid cl; clear cl hL hoo
          have g3 : IntKind.i64.wrap ((k : Int) - 1) = (k : Int) - 1 := IntWalk.i64_in _ (by omega)
          have g4 : ((k : Int) - 1).toNat = k - 1 := by omega
          go_wp2
          refine wp_region_quiet_below (by kernel_rfl) (by kernel_rfl) ?_
          repeat (go_big_quiet_step (first | (go_at_call 51; exact CL.out _ _)))
          refine wpQuiet_nil ?_
          intro _ hw'
          obtain ⟨⟨dq, osq⟩, hw''⟩ := hw'
          subst hw''
          have hB2 := hdW.trans ((below_regrown W dq osq).mono hbW)
          clear g3 g4
          go_wp2
          go_ret
          exact ⟨ret_bool (isDream_false (k := k) (by rw [Hn.out]; exact hlt) (dreamAt_rise Hx.out Ht.out hk0 HL.out)).symm, hB2⟩
        · have HL := Lib.hid hL
          obtain ⟨oo, hoo⟩ : ∃ o, cellCmp (r2, c2) (r, c0) = o := ⟨_, rfl⟩
          have ho2 : decide (0 ≤ oo) = !(cellLess (r2, c2) (r, c0)) := by rw [← cellCmp_less, hoo]; by_cases h : oo < 0 <;> simp [h] <;> omega
          rw [hL] at ho2
          simp only [Bool.not_true] at ho2
          have cl : ∀ (d : Nat) (os : Array Obj), Calls Try.prog 51 #[.agg #[.int .i64 r2, .int .i64 c2], .agg #[.int .i64 r, .int .i64 c0]] (Go.Sort.grow (redrawn W d) os) fun e w'' => e = .returned (.int .i64 oo) ∧ ∃ p : Regrown, w'' = Go.Sort.grow (redrawn W p.d) p.os := fun d os => Calls.regrown_of (by rw [← hoo]; exact byCells_any r2 c2 r c0 _ hl1 hl2 (by unfold Low; omega) (by unfold Low; omega))
          have CL := Lib.hid cl; clear cl hL hoo
          have g3 : IntKind.i64.wrap ((k : Int) - 1) = (k : Int) - 1 := IntWalk.i64_in _ (by omega)
          have g4 : ((k : Int) - 1).toNat = k - 1 := by omega
          go_wp2
          refine wp_region_quiet_below (by kernel_rfl) (by kernel_rfl) ?_
          repeat (go_big_quiet_step (first | (go_at_call 51; exact CL.out _ _)))
          refine wpQuiet_nil ?_
          intro _ hw'
          obtain ⟨⟨dq, osq⟩, hw''⟩ := hw'
          subst hw''
          have hB2 := hdW.trans ((below_regrown W dq osq).mono hbW)
          clear g3 g4
          go_wp2
          go_roundw
          case rel => exact ⟨k + 1, by omega, by go_num, dream_next HA.out (dreamAt_next Hx.out Ht.out HS.out HL.out), hB2⟩
          case measure => simp [intOf]; omega
    · obtain rfl : k = n := by omega
      go_wp2
      go_ret
      exact ⟨ret_bool (isDream_true HN.out (by rw [Hn.out]; exact HA.out)).symm, hd⟩
end Go.Proofs.Ytdpjcjnednmoeaa

namespace Go.Proofs.Ytdpjcjnednmoeaa
open Go.RowKit Go.Shelf

def renSortC : Ren := ⟨fun k => if k = 6 then 50 else if k = 14 then 60 else if k = 15 then 61 else if k = 20 then 65 else if k = 21 then 66 else if k = 22 then 67 else if k = 23 then 68 else if k = 24 then 69 else if k = 25 then 70 else if k = 26 then 71 else if k = 27 then 72 else if k = 28 then 73 else if k = 29 then 74 else if k = 46 then 83 else if k = 47 then 84 else if k = 48 then 85 else if k = 49 then 86 else if k = 50 then 87 else if k = 57 then 91 else 0, fun k => if k = 22 then 44 else if k = 24 then 52 else if k = 25 then 72 else if k = 39 then 77 else if k = 45 then 85 else if k = 46 then 86 else if k = 50 then 63 else if k = 53 then 92 else if k = 55 then 94 else if k = 66 then 100 else if k = 70 then 104 else if k = 76 then 108 else if k = 77 then 109 else k, fun k => k⟩
theorem laysSortC : SlLaysF0.n6 Try.prog renSortC where
  mixed := by kernel_rfl
  f6 := ⟨Try.f50.name, by kernel_rfl, by kernel_rfl⟩
  f14 := ⟨Try.f60.name, by kernel_rfl, by kernel_rfl⟩
  f15 := by kernel_rfl
  f20 := ⟨Try.f65.name, by kernel_rfl, by kernel_rfl⟩
  f21 := ⟨Try.f66.name, by kernel_rfl, by kernel_rfl⟩
  f22 := ⟨Try.f67.name, by kernel_rfl, by kernel_rfl⟩
  f23 := ⟨Try.f68.name, by kernel_rfl, by kernel_rfl⟩
  f24 := ⟨Try.f69.name, by kernel_rfl, by kernel_rfl⟩
  f25 := ⟨Try.f70.name, by kernel_rfl, by kernel_rfl⟩
  f26 := ⟨Try.f71.name, by kernel_rfl, by kernel_rfl⟩
  f27 := ⟨Try.f72.name, by kernel_rfl, by kernel_rfl⟩
  f28 := by kernel_rfl
  f29 := by kernel_rfl
  f46 := ⟨Try.f83.name, by kernel_rfl, by kernel_rfl⟩
  f47 := by kernel_rfl
  f48 := by kernel_rfl
  f49 := ⟨Try.f86.name, by kernel_rfl, by kernel_rfl⟩
  f50 := ⟨Try.f87.name, by kernel_rfl, by kernel_rfl⟩
  f57 := ⟨Try.f91.name, by kernel_rfl, by kernel_rfl⟩
  t0 := by kernel_rfl
  a0 := fun w => by kernel_rfl
  z0 := fun w => by kernel_rfl
  v0 := fun w => by kernel_rfl
  t3 := by kernel_rfl
  a3 := fun w => by kernel_rfl
  z3 := fun w => by kernel_rfl
  v3 := fun w => by kernel_rfl
  t4 := by kernel_rfl
  a4 := fun w => by kernel_rfl
  z4 := fun w => by kernel_rfl
  v4 := fun w => by kernel_rfl
  t5 := by kernel_rfl
  a5 := fun w => by kernel_rfl
  z5 := fun w => by kernel_rfl
  v5 := fun w => by kernel_rfl
  t9 := by kernel_rfl
  a9 := fun w => by kernel_rfl
  z9 := fun w => by kernel_rfl
  v9 := fun w => by kernel_rfl
  t22 := by kernel_rfl
  a22 := fun w => by kernel_rfl
  z22 := fun w => by kernel_rfl
  v22 := fun w => by kernel_rfl
  t25 := by kernel_rfl
  a25 := fun w => by kernel_rfl
  z25 := fun w => by kernel_rfl
  v25 := fun w => by kernel_rfl
  t39 := by kernel_rfl
  a39 := fun w => by kernel_rfl
  z39 := fun w => by kernel_rfl
  v39 := fun w => by kernel_rfl
  t45 := by kernel_rfl
  a45 := fun w => by kernel_rfl
  z45 := fun w => by kernel_rfl
  v45 := fun w => by kernel_rfl
  t46 := by kernel_rfl
  a46 := fun w => by kernel_rfl
  z46 := fun w => by kernel_rfl
  v46 := fun w => by kernel_rfl
  t50 := by kernel_rfl
  a50 := fun w => by kernel_rfl
  z50 := fun w => by kernel_rfl
  v50 := fun w => by kernel_rfl
  t53 := by kernel_rfl
  a53 := fun w => by kernel_rfl
  z53 := fun w => by kernel_rfl
  v53 := fun w => by kernel_rfl
  t55 := by kernel_rfl
  a55 := fun w => by kernel_rfl
  z55 := fun w => by kernel_rfl
  v55 := fun w => by kernel_rfl
  t66 := by kernel_rfl
  a66 := fun w => by kernel_rfl
  z66 := fun w => by kernel_rfl
  v66 := fun w => by kernel_rfl
  t70 := by kernel_rfl
  a70 := fun w => by kernel_rfl
  z70 := fun w => by kernel_rfl
  v70 := fun w => by kernel_rfl
  t76 := by kernel_rfl
  a76 := fun w => by kernel_rfl
  z76 := fun w => by kernel_rfl
  v76 := fun w => by kernel_rfl
  t77 := by kernel_rfl
  a77 := fun w => by kernel_rfl
  z77 := fun w => by kernel_rfl
  v77 := fun w => by kernel_rfl
end Go.Proofs.Ytdpjcjnednmoeaa

namespace Go.Proofs.Ytdpjcjnednmoeaa
open Go.RowKit Go.Shelf Go.Sort

/-- nothing but draws and new blocks -/
def Laid (w w' : World) : Prop := ∃ q os, w' = grow (w.drewN q) os
theorem Laid.refl (w : World) : Laid w w := ⟨0, #[], by rw [grow_empty]; rfl⟩
theorem Laid.alloc {w w' : World} (h : Laid w w') (o : Obj) : Laid w (w'.alloc o) := by
  obtain ⟨q, os, rfl⟩ := h
  exact ⟨q, os ++ #[o], by rw [alloc_eq_grow, grow_grow]⟩
theorem Laid.drew {w w' : World} (h : Laid w w') (n : Nat) : Laid w (w'.drewN n) := by
  obtain ⟨q, os, rfl⟩ := h
  exact ⟨q + n, os, by show grow ((w.drewN q).drewN n) os = _; rw [World.drewN_drewN]⟩
theorem Laid.trans {a b c : World} (h : Laid a b) (k : Laid b c) : Laid a c := by
  obtain ⟨q, os, rfl⟩ := k
  obtain ⟨p, os', e⟩ := h.drew q
  exact ⟨p, os' ++ os, by rw [e, grow_grow]⟩

theorem heap_sortedV {w : World} {g n : Nat} {os : Array Obj} {cur : Array Value} {e : TypeId} {fr : Nat × Nat} (d : Array Value) (hb : w.heap[g]? = some (.cells cur e fr)) :
    (grow (putRow id (Go.Sort.ahead w n) g 0 d) os).heap[g]? = some (.cells (putCells id 0 d cur) e fr) := by
  have hg : g < w.heap.size := (Array.getElem?_eq_some_iff.1 hb).1
  rw [heap_grow_old _ _ (by simpa using hg)]
  simp [putRow, mapBlock, Go.Sort.ahead, Array.getElem?_modify, hb, onCells]
theorem grownBy_sortedV {w : World} {g n : Nat} {os : Array Obj} (d : Array Value) : w.grownBy (grow (putRow id (Go.Sort.ahead w n) g 0 d) os) (some g) := by
  refine ⟨rfl, rfl, rfl, by simp, fun k hk hne => ?_⟩
  rw [heap_grow_old _ _ (by simpa using hk)]
  have : g ≠ k := fun e => hne (by rw [e])
  simp [putRow, mapBlock, Go.Sort.ahead, Array.getElem?_modify, this]
theorem take_putCellsV (cur : Array Value) (ts : List Value) (h : ts.length ≤ cur.size) : (putCells id 0 ts.toArray cur).toList.take ts.length = ts := by
  apply List.ext_getElem?
  intro j
  by_cases hj : j < ts.length
  · rw [List.getElem?_take_of_lt hj, Array.getElem?_toList]
    simp [putCells, hj, show j < cur.size by omega]
  · rw [List.getElem?_take_eq_none (by omega), List.getElem?_eq_none (by omega)]

theorem Drew.laid {w w' : World} (h : Drew w w') : Laid w w' := by
  obtain ⟨m, rfl⟩ := h
  exact (Laid.refl w).drew m
end Go.Proofs.Ytdpjcjnednmoeaa

namespace Go.Proofs.Ytdpjcjnednmoeaa
open Go.RowKit Go.Shelf Go.Sort

/-- cells whose numbers are small -/
def LowP : Type := { p : Int × Int // Low p.1 ∧ Low p.2 }
instance : Inhabited LowP := ⟨⟨(0, 0), by unfold Low; omega, by unfold Low; omega⟩⟩
def encP (p : LowP) : List Value := [.int .i64 p.1.1, .int .i64 p.1.2]
def lowed (xs : List (Int × Int)) (h : ∀ p ∈ xs, Low p.1 ∧ Low p.2) : List LowP := xs.attachWith _ h
theorem lowed_val (xs : List (Int × Int)) (h : ∀ p ∈ xs, Low p.1 ∧ Low p.2) : (lowed xs h).map (fun p => p.1) = xs := by
  unfold lowed
  exact List.attachWith_map_subtype_val h
theorem lowed_length (xs : List (Int × Int)) (h : ∀ p ∈ xs, Low p.1 ∧ Low p.2) : (lowed xs h).length = xs.length := by
  unfold lowed; exact List.length_attachWith
theorem flat_prs (ys : List LowP) : flatK encP 2 ys.toArray = (prs (ys.map fun p => p.1)).toArray := by
  apply Array.ext_getElem?
  intro t
  by_cases ht : t < ys.length * 2
  · have h1 : (flatK encP 2 ys.toArray)[t]? = some (flatK encP 2 ys.toArray)[t]! := by
      rw [getElem!_pos _ t (by simpa using ht)]; exact Array.getElem?_eq_getElem _
    rw [h1, get_flatK _ _ _ _ (by simpa using ht)]
    have hk : t / 2 < ys.length := by omega
    have hp : (ys.map fun p => p.1)[t / 2]? = some (ys[t / 2]'hk).1 := by simp [hk]
    obtain ⟨e1, e2⟩ := prs_at hp
    have e3 : ys.toArray[t / 2]! = ys[t / 2]'hk := by simp [hk]
    rw [e3]
    rw [List.getElem?_toArray]
    rcases Nat.mod_two_eq_zero_or_one t with h | h
    · rw [h]
      have : t = t / 2 * 2 := by omega
      rw [show (prs (ys.map fun p => p.1))[t]? = (prs (ys.map fun p => p.1))[t / 2 * 2]? by rw [← this], e1]
      rfl
    · rw [h]
      have : t = t / 2 * 2 + 1 := by omega
      rw [show (prs (ys.map fun p => p.1))[t]? = (prs (ys.map fun p => p.1))[t / 2 * 2 + 1]? by rw [← this], e2]
      rfl
  · rw [Array.getElem?_eq_none (by simp; omega), Array.getElem?_eq_none (by simp [prs_length]; omega)]

theorem sizeOf_Cell (w : World) : (Go.sizeOf 52).run Try.prog w = .ok 2 w := by kernel_rfl
theorem isAgg_Cell (w : World) : (isAgg 52).run Try.prog w = .ok true w := by kernel_rfl

theorem sortC_any (cf : LowP → LowP → Int) (hO : SWO (ltOf cf)) (hT : ∀ x y, (ltOf cf) x y = false → (ltOf cf) y x = false → x = y) (le : (Int × Int) → (Int × Int) → Bool) (hle : ∀ x y : LowP, le x.1 y.1 = !(ltOf cf) y x)
    (f : Nat) (ef : ∀ args w, (callFunc f args).run Try.prog w = .ok (.enter f args) w) (hcmp : ∀ (x y : LowP) (w : World), Calls Try.prog f #[.agg (encP x).toArray, .agg (encP y).toArray] w fun e w' => e = .returned (.int .i64 (cf x y)) ∧ Laid w w')
    (B S : Nat) (a : Option Addr) (n c : Nat) (xs : List (Int × Int)) (w : World) (ho : CO w B S a n c xs) (hlow : ∀ p ∈ xs, Low p.1 ∧ Low p.2) (hb : n ≤ 1048576) :
    Calls Try.prog 50 #[.slice a n c, .func (.func f) #[] #[]] w fun e w' => e = .returned (.tuple #[]) ∧ CO w' B S a n c (xs.mergeSort le) ∧ Only B S w w' := by
  have hl := ho.len
  rcases Nat.eq_zero_or_pos n with h0 | h0
  · subst h0
    have hx : xs = [] := List.length_eq_zero_iff.1 hl
    subst hx
    refine Calls.mono (AnyF.slices_SortFunc_none laysSortC a c _ w) ?_
    rintro e w' ⟨rfl, rfl⟩
    refine ⟨rfl, ?_, Only.refl _ _ _⟩
    rw [List.mergeSort_nil]
    exact ho
  · have hlo := ho.lo
    have hhi := ho.2
    rcases ho.1.2 with ⟨_, h2⟩ | ⟨g, cap, cur, hv, hg, hh, hn, hm, hs, ht⟩
    · omega
    · simp only [Value.slice.injEq] at hv
      obtain ⟨rfl, _, rfl⟩ := hv
      have hgz : g < w.heap.size := (Array.getElem?_eq_some_iff.1 hh).1
      have hgS := hhi g rfl
      have hll : (lowed xs hlow).toArray.size = n := by simp [lowed_length, hl]
      have hfl : flatK encP 2 (lowed xs hlow).toArray = (prs xs).toArray := by rw [flat_prs, lowed_val]
      have hH : HoldsK encP 2 w g 0 (lowed xs hlow).toArray := by
        unfold HoldsK
        rw [hfl]
        intro j hj
        have hj' : j < n * 2 := by simpa [prs_length, hl] using hj
        rw [Nat.zero_add]
        refine ⟨?_, ho.1.frozenAt _⟩
        rw [ho.1.cellAt _ (by simpa using hj')]
        simp [prs_length, hl, hj']
      have key := AnyQ.slices_SortFunc_total laysSortC 2 isAgg_Cell sizeOf_Cell encP (fun _ => rfl) (by intro x v hv; simp [encP] at hv; rcases hv with rfl | rfl <;> rfl) cf hO f #[] g 0 c (lowed xs hlow).toArray w ef
        (by
          intro m os dk hdk x y
          refine (hcmp x y _).mono ?_
          rintro e w' ⟨he, q, os', hw⟩
          exact ⟨he, q, os', hw⟩) hH hgz (by rw [hll]; omega) hT
      rw [hll] at key
      refine Calls.mono key ?_
      rintro e w' ⟨rfl, m, os, rfl⟩
      have hms : ((lowed xs hlow).mergeSort (fun x y => !(ltOf cf) y x)).map (fun p => p.1) = xs.mergeSort le := by
        rw [List.map_mergeSort (s := le), lowed_val]
        intro x _ y _
        exact (hle x y).symm
      have hfs : flatK encP 2 ((lowed xs hlow).mergeSort (fun x y => !(ltOf cf) y x)).toArray = (prs (xs.mergeSort le)).toArray := by rw [flat_prs, hms]
      have hlen : (prs (xs.mergeSort le)).length = n * 2 := by rw [prs_length, List.length_mergeSort, hl]
      have hnew := heap_sortedV (n := m) (os := os) (prs (xs.mergeSort le)).toArray hh
      have hgr := grownBy_sortedV (w := w) (g := g) (n := m) (os := os) (prs (xs.mergeSort le)).toArray
      unfold sortWorldK putRowK
      rw [show ((lowed xs hlow).toArray.toList.mergeSort fun x y => !(ltOf cf) y x) = (lowed xs hlow).mergeSort (fun x y => !(ltOf cf) y x) from rfl, hfs]
      refine ⟨rfl, ⟨⟨hlen, .inr ⟨g, c, _, rfl, hg, hnew, hn, hm, by simp [putCells, hs], ?_⟩⟩, hhi⟩, Only.of_grown (v := .slice (some ⟨g, 0, none⟩) n c) hgr hlo hhi⟩
      rw [← hlen]
      exact take_putCellsV cur _ (by rw [hlen, hs]; exact Nat.mul_le_mul_right 2 hn)
end Go.Proofs.Ytdpjcjnednmoeaa
