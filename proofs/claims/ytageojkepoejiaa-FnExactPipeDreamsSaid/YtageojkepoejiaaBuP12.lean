/-
  Ladder moves of dreams: plain.
  slices.SortFunc at []impl.Cell: the kit's shelf, laid at this program's numbers.
  slices.SortFunc at []impl.Cell: the kit's shelf, laid at this program's numbers.
  Places below a number; rows written out place by place.
-/
import Derived.Test.YtageojkepoejiaaL3Cells
import Derived.Test.YtageojkepoejiaaBuP9
import Derived.Test.YtageojkepoejiaaBuP11
import Derived.Test.YtageojkepoejiaaFacts
import Derived.Shelf.SlSortCmp.NoneTotal
import Derived.Test.YtageojkepoejiaaBuP10
namespace Go.Proofs.Ytageojkepoejiaa
open Go.RowKit Go.Shelf Go.Sort

/-! cells in order -/
def cellLe (p q : Int × Int) : Bool := !(cellLess q p)
theorem cellLe_iff (p q : Int × Int) : cellLe p q = true ↔ p.1 < q.1 ∨ p.1 = q.1 ∧ p.2 ≤ q.2 := by
  unfold cellLe
  rw [Bool.not_eq_true', cellLess_no]
  omega
theorem cellLe_trans (a b c : Int × Int) (h : cellLe a b = true) (k : cellLe b c = true) : cellLe a c = true := by
  rw [cellLe_iff] at *; omega
theorem cellLe_total (a b : Int × Int) : (cellLe a b || cellLe b a) = true := by
  rw [Bool.or_eq_true, cellLe_iff, cellLe_iff]; omega
theorem cellLe_antisymm (a b : Int × Int) (h : cellLe a b = true) (k : cellLe b a = true) : a = b := by
  rw [cellLe_iff] at *
  exact Prod.ext (by omega) (by omega)
def sortD (l : List (Int × Int)) : List (Int × Int) := l.mergeSort cellLe
theorem sortD_perm (l : List (Int × Int)) : (sortD l).Perm l := List.mergeSort_perm l cellLe
theorem sortD_unique {xs ys : List (Int × Int)} (hp : ys.Perm xs) (hs : ys.Pairwise (fun a b => cellLe a b = true)) : sortD xs = ys := by
  refine List.Perm.eq_of_pairwise (le := fun a b => cellLe a b = true) ?_ (List.pairwise_mergeSort cellLe_trans cellLe_total xs) hs ((List.mergeSort_perm xs cellLe).trans hp.symm)
  intro a b _ _ h k
  exact cellLe_antisymm a b h k
theorem sortD_congr {xs ys : List (Int × Int)} (hp : xs.Perm ys) : sortD xs = sortD ys :=
  sortD_unique ((sortD_perm ys).trans hp.symm) (List.pairwise_mergeSort cellLe_trans cellLe_total ys)
theorem sortD_length (l : List (Int × Int)) : (sortD l).length = l.length := (sortD_perm l).length_eq
theorem insC_perm (x : Int × Int) (l : List (Int × Int)) : (insC x l).Perm (x :: l) := by
  unfold insC
  rw [List.append_assoc, List.singleton_append]
  refine List.perm_middle.trans ?_
  rw [List.take_append_drop]
theorem cellsTo_perm (xs : List (Int × Int)) : ∀ i, i ≤ xs.length → (cellsTo xs i).Perm (xs.take i)
  | 0, _ => by simp [cellsTo]
  | i + 1, h => by
    rw [cellsTo]
    have hx : xs[i]? = some (cellOf xs i) := by rw [cellOf, List.getD_eq_getElem?_getD, List.getElem?_eq_getElem (by omega)]; rfl
    rw [List.take_add_one, hx]
    refine (insC_perm _ _).trans ?_
    refine ((cellsTo_perm xs i (by omega)).cons _).trans ?_
    exact (List.perm_append_singleton _ _).symm
theorem cutR_lo {x : Int × Int} {l : List (Int × Int)} : ∀ {k : Nat} {j : Nat}, cutR x l k ≤ j → j < k → cellLess x (cellOf l j) = true
  | 0, _, _, h => by omega
  | k + 1, j, h, hj => by
    unfold cutR at h
    split at h
    · rename_i hc
      rcases Nat.lt_or_ge j k with h1 | h1
      · exact cutR_lo h h1
      · obtain rfl : j = k := by omega
        exact hc
    · omega
theorem cutR_hi {x : Int × Int} {l : List (Int × Int)} : ∀ {k : Nat}, 0 < cutR x l k → cellLess x (cellOf l (cutR x l k - 1)) = false
  | 0, h => by simp [cutR] at h
  | k + 1, h => by
    unfold cutR at h ⊢
    split
    · rename_i hc
      rw [if_pos hc] at h
      exact cutR_hi h
    · rename_i hc
      simpa using hc
def SortedC (l : List (Int × Int)) : Prop := l.Pairwise fun a b => cellLe a b = true
theorem insC_sorted {x : Int × Int} {l : List (Int × Int)} (h : SortedC l) : SortedC (insC x l) := by
  have hle := cutR_le x l l.length
  have hof : ∀ j, (hj : j < l.length) → cellOf l j = l[j] := fun j hj => by rw [cellOf, List.getD_eq_getElem?_getD, List.getElem?_eq_getElem hj]; rfl
  unfold insC SortedC
  generalize hk : cutR x l l.length = k at hle
  rw [List.append_assoc, List.pairwise_append]
  have hp : ∀ a ∈ l.take k, cellLe a x = true := by
    intro a ha
    obtain ⟨j, hj⟩ := List.getElem?_of_mem ha
    have hjk : j < k := by have := (List.getElem?_eq_some_iff.1 hj).1; rw [List.length_take] at this; omega
    rw [List.getElem?_take_of_lt hjk] at hj
    have hhi := cutR_hi (x := x) (l := l) (k := l.length) (by omega)
    rw [hk, hof (k - 1) (by omega)] at hhi
    have hxa : cellLe l[k - 1] x = true := by unfold cellLe; rw [hhi]; rfl
    obtain ⟨h1, h2⟩ := List.getElem?_eq_some_iff.1 hj
    rcases Nat.lt_or_ge j (k - 1) with h3 | h3
    · have := List.pairwise_iff_getElem.1 h j (k - 1) h1 (by omega) h3
      rw [h2] at this
      exact cellLe_trans _ _ _ this hxa
    · have : j = k - 1 := by omega
      subst this
      rw [← h2]
      exact hxa
  have hq : ∀ a ∈ l.drop k, cellLe x a = true := by
    intro a ha
    obtain ⟨j, hj⟩ := List.getElem?_of_mem ha
    rw [List.getElem?_drop] at hj
    obtain ⟨h1, h2⟩ := List.getElem?_eq_some_iff.1 hj
    have := cutR_lo (x := x) (l := l) (k := l.length) (j := k + j) (by omega) h1
    rw [hof _ h1, h2, cellLess_iff] at this
    rw [cellLe_iff]
    omega
  refine ⟨List.Pairwise.sublist (List.take_sublist k l) h, ?_, fun a ha b hb => ?_⟩
  · rw [List.singleton_append, List.pairwise_cons]
    exact ⟨hq, List.Pairwise.sublist (List.drop_sublist k l) h⟩
  · rcases List.mem_append.1 hb with hb | hb
    · rw [List.mem_singleton] at hb
      rw [hb]
      exact hp a ha
    · exact cellLe_trans _ _ _ (hp a ha) (hq b hb)
theorem cellsTo_sorted (xs : List (Int × Int)) : ∀ i, SortedC (cellsTo xs i)
  | 0 => List.Pairwise.nil
  | i + 1 => insC_sorted (cellsTo_sorted xs i)
theorem cellsTo_eq (xs : List (Int × Int)) : cellsTo xs xs.length = sortD xs :=
  (sortD_unique (by have := cellsTo_perm xs xs.length (Nat.le_refl _); rwa [List.take_of_length_le (Nat.le_refl _)] at this) (cellsTo_sorted xs _)).symm

theorem ascD_length (L : List (List (Int × Int))) : (ascD L).length ≤ L.length := by
  have h : ∀ l : List (List (Int × Int)), (L.foldl (fun l x => insD x l) l).length ≤ l.length + L.length := by
    induction L with
    | nil => intro l; exact Nat.le_refl _
    | cons x L ih =>
      intro l
      have h1 := ih (insD x l)
      have h2 := insD_length x l
      rw [List.foldl_cons, List.length_cons]
      omega
  have h0 := h []
  rw [List.length_nil, Nat.zero_add] at h0
  exact h0
theorem rest_perm {xs : List (Int × Int)} {i : Nat} (h : i < xs.length) (y : Int × Int) : (xs.take i ++ xs.drop (i + 1) ++ [y]).Perm (xs.set i y) := by
  rw [List.set_eq_take_append_cons_drop, if_pos h]
  refine (List.perm_append_singleton _ _).trans ?_
  exact List.perm_middle.symm

/-! the moves -/
def upTo (xs : List (Int × Int)) (q : Int) : Nat → Nat
  | 0 => 0
  | t + 1 => if (hasC xs t q && hasC xs t (q + 1)) = true then upTo xs q t else t + 1
theorem upTo_le (xs : List (Int × Int)) (q : Int) : ∀ t, upTo xs q t ≤ t
  | 0 => Nat.le_refl _
  | t + 1 => by
    unfold upTo
    split
    · have := upTo_le xs q t; omega
    · exact Nat.le_refl _
/-- where the cell may go: its row, one more -/
def ladAt (xs : List (Int × Int)) (p : Int × Int) : Nat :=
  if hasC xs p.1 (p.2 + 1) = true then 0
  else if (hasC xs ((upTo xs p.2 p.1.toNat : Nat) - 1 : Int) p.2 || hasC xs ((upTo xs p.2 p.1.toNat : Nat) - 1 : Int) (p.2 + 1)) = true then 0
  else upTo xs p.2 p.1.toNat
def movC (xs : List (Int × Int)) (k : Nat) : List (List (Int × Int)) :=
  match ladAt xs (cellOf xs k) with
  | 0 => []
  | s + 1 => [sortD (xs.set k (((s : Nat) : Int), (cellOf xs k).2 + 1))]
def ladTo (xs : List (Int × Int)) : Nat → List (List (Int × Int))
  | 0 => []
  | k + 1 => ladTo xs k ++ movC xs k
def ladders (n : Int) (xs : List (Int × Int)) : List (List (Int × Int)) := if isDream n xs = true then ascD (ladTo xs xs.length) else []
theorem movC_len (xs : List (Int × Int)) (k : Nat) : (movC xs k).length ≤ 1 := by
  unfold movC
  split <;> simp
theorem ladTo_len (xs : List (Int × Int)) : ∀ k, (ladTo xs k).length ≤ k
  | 0 => Nat.le_refl _
  | k + 1 => by
    have := ladTo_len xs k
    have := movC_len xs k
    rw [ladTo, List.length_append]
    omega
theorem movC_mem {xs d : List (Int × Int)} {k : Nat} (h : d ∈ movC xs k) : ∃ s : Nat, s + 1 ≤ (cellOf xs k).1.toNat ∧ d = sortD (xs.set k ((s : Int), (cellOf xs k).2 + 1)) := by
  unfold movC at h
  split at h
  · cases h
  · rename_i s hs
    rw [List.mem_singleton] at h
    refine ⟨s, ?_, h⟩
    unfold ladAt at hs
    split at hs
    · omega
    · split at hs
      · omega
      · have := upTo_le xs (cellOf xs k).2 (cellOf xs k).1.toNat
        omega
theorem ladTo_mem {xs d : List (Int × Int)} : ∀ {k : Nat}, d ∈ ladTo xs k → ∃ j, j < k ∧ d ∈ movC xs j
  | 0, h => by cases h
  | k + 1, h => by
    rw [ladTo, List.mem_append] at h
    rcases h with h | h
    · obtain ⟨j, hj, h⟩ := ladTo_mem h
      exact ⟨j, by omega, h⟩
    · exact ⟨k, by omega, h⟩
theorem cell_some {xs : List (Int × Int)} {k : Nat} (h : k < xs.length) : xs[k]? = some (cellOf xs k) := by
  rw [cellOf, List.getD_eq_getElem?_getD, List.getElem?_eq_getElem h]; rfl
theorem mov_low {n : Int} {xs d : List (Int × Int)} {k : Nat} (hd : isDream n xs = true) (hk : k < xs.length) (h : d ∈ movC xs k) : LowL d ∧ d.length = xs.length := by
  obtain ⟨s, hs, rfl⟩ := movC_mem h
  refine ⟨fun p hp => ?_, by rw [sortD_length, List.length_set]⟩
  have hp2 := (sortD_perm _).mem_iff.1 hp
  rcases List.mem_or_eq_of_mem_set hp2 with h1 | h1
  · obtain ⟨j, hj⟩ := List.getElem?_of_mem h1
    exact dream_low hd j p hj
  · have h2 := dream_low hd k _ (cell_some hk)
    have h3 := dream_in hd hk
    have hn := (dream_all hd).1
    unfold inStair at h3
    simp only [Bool.and_eq_true, decide_eq_true_eq] at h3
    subst h1
    unfold Low at *
    simp only
    omega
theorem mov_differ {n : Int} {xs d : List (Int × Int)} {i j : Nat} (hd : isDream n xs = true) (hij : i < j) (hj : j < xs.length) (h1 : d ∈ movC xs i) (h2 : d ∈ movC xs j) : False := by
  obtain ⟨s, hs, e1⟩ := movC_mem h1
  obtain ⟨t, ht, e2⟩ := movC_mem h2
  have hl := dream_less hd hij hj
  have hm : cellOf xs j ∈ xs.set i ((s : Int), (cellOf xs i).2 + 1) := List.mem_of_getElem? (i := j) (by rw [List.getElem?_set_ne (by omega)]; exact cell_some hj)
  have hm2 : cellOf xs j ∈ d := by rw [e1]; exact (sortD_perm _).mem_iff.2 hm
  rw [e2] at hm2
  have hm3 := (sortD_perm _).mem_iff.1 hm2
  obtain ⟨r, hr⟩ := List.getElem?_of_mem hm3
  by_cases hrj : j = r
  · subst hrj
    rw [List.getElem?_set_self hj] at hr
    have := congrArg Prod.fst (Option.some.inj hr)
    simp only at this
    omega
  · rw [List.getElem?_set_ne hrj] at hr
    have hrl := (List.getElem?_eq_some_iff.1 hr).1
    have e := cellOf_at hr
    rcases Nat.lt_or_ge r j with h3 | h3
    · have := dream_less hd h3 hj
      rw [e] at this
      omega
    · have := dream_less hd (show j < r by omega) hrl
      rw [e] at this
      omega
theorem ladTo_good {n : Int} {xs : List (Int × Int)} (hd : isDream n xs = true) : ∀ {k : Nat}, k ≤ xs.length → (∀ d ∈ ladTo xs k, LowL d ∧ d.length = xs.length) ∧ (ladTo xs k).Nodup
  | 0, _ => ⟨fun d h => (by cases h), List.nodup_nil⟩
  | k + 1, h => by
    obtain ⟨h1, h2⟩ := ladTo_good hd (k := k) (by omega)
    refine ⟨fun d hm => ?_, ?_⟩
    · rw [ladTo, List.mem_append] at hm
      rcases hm with hm | hm
      · exact h1 d hm
      · exact mov_low hd (by omega) hm
    · rw [ladTo, List.nodup_append]
      refine ⟨h2, ?_, fun a ha b hb hab => ?_⟩
      · unfold movC
        split <;> simp
      · subst hab
        obtain ⟨j, hj, hm⟩ := ladTo_mem ha
        exact mov_differ hd hj (by omega) hm hb
theorem ladTo_GoodCC {n : Int} {xs : List (Int × Int)} (hd : isDream n xs = true) (hl : xs.length ≤ 1000) : GoodCC (ladTo xs xs.length) := by
  obtain ⟨h1, h2⟩ := ladTo_good hd (Nat.le_refl _)
  refine ⟨fun p hp => by have := (h1 p hp).2; omega, fun i j p q hi hj e => ?_⟩
  subst e
  have hil := (List.getElem?_eq_some_iff.1 hi).1
  exact (List.getElem?_inj hil h2).1 (hi.trans hj.symm)
end Go.Proofs.Ytageojkepoejiaa

namespace Go.Proofs.Ytageojkepoejiaa
open Go.RowKit Go.Shelf

def renSortCC : Ren := ⟨fun k => if k = 6 then 94 else if k = 14 then 126 else if k = 15 then 88 else if k = 20 then 143 else if k = 21 then 144 else if k = 22 then 145 else if k = 23 then 146 else if k = 24 then 147 else if k = 25 then 148 else if k = 26 then 149 else if k = 27 then 150 else if k = 28 then 115 else if k = 29 then 116 else if k = 46 then 159 else if k = 47 then 136 else if k = 48 then 137 else if k = 49 then 160 else if k = 50 then 161 else if k = 57 then 164 else 0, fun k => if k = 22 then 34 else if k = 24 then 36 else if k = 25 then 92 else if k = 39 then 87 else if k = 45 then 100 else if k = 46 then 101 else if k = 50 then 105 else if k = 53 then 108 else if k = 55 then 110 else if k = 66 then 125 else if k = 70 then 129 else if k = 76 then 142 else if k = 77 then 143 else k, fun k => k⟩
theorem laysSortCC : SlLaysF.n6 Try.prog renSortCC where
  mixed := by kernel_rfl
  f6 := ⟨Try.f94.name, by kernel_rfl, by kernel_rfl⟩
  f14 := ⟨Try.f126.name, by kernel_rfl, by kernel_rfl⟩
  f15 := by kernel_rfl
  f20 := ⟨Try.f143.name, by kernel_rfl, by kernel_rfl⟩
  f21 := ⟨Try.f144.name, by kernel_rfl, by kernel_rfl⟩
  f22 := ⟨Try.f145.name, by kernel_rfl, by kernel_rfl⟩
  f23 := ⟨Try.f146.name, by kernel_rfl, by kernel_rfl⟩
  f24 := ⟨Try.f147.name, by kernel_rfl, by kernel_rfl⟩
  f25 := ⟨Try.f148.name, by kernel_rfl, by kernel_rfl⟩
  f26 := ⟨Try.f149.name, by kernel_rfl, by kernel_rfl⟩
  f27 := ⟨Try.f150.name, by kernel_rfl, by kernel_rfl⟩
  f28 := by kernel_rfl
  f29 := by kernel_rfl
  f46 := ⟨Try.f159.name, by kernel_rfl, by kernel_rfl⟩
  f47 := by kernel_rfl
  f48 := by kernel_rfl
  f49 := ⟨Try.f160.name, by kernel_rfl, by kernel_rfl⟩
  f50 := ⟨Try.f161.name, by kernel_rfl, by kernel_rfl⟩
  f57 := ⟨Try.f164.name, by kernel_rfl, by kernel_rfl⟩
  t0 := by kernel_rfl
  a0 := fun w => by kernel_rfl
  z0 := fun w => by kernel_rfl
  v0 := fun w => by kernel_rfl
  t3 := by kernel_rfl
  a3 := fun w => by kernel_rfl
  z3 := fun w => by kernel_rfl
  v3 := fun w => by kernel_rfl
  t4 := by kernel_rfl
  a4 := fun w => by kernel_rfl
  z4 := fun w => by kernel_rfl
  v4 := fun w => by kernel_rfl
  t5 := by kernel_rfl
  a5 := fun w => by kernel_rfl
  z5 := fun w => by kernel_rfl
  v5 := fun w => by kernel_rfl
  t9 := by kernel_rfl
  a9 := fun w => by kernel_rfl
  z9 := fun w => by kernel_rfl
  v9 := fun w => by kernel_rfl
  t22 := by kernel_rfl
  a22 := fun w => by kernel_rfl
  z22 := fun w => by kernel_rfl
  v22 := fun w => by kernel_rfl
  a24 := fun w => by kernel_rfl
  z24 := fun w => by kernel_rfl
  t25 := by kernel_rfl
  a25 := fun w => by kernel_rfl
  z25 := fun w => by kernel_rfl
  v25 := fun w => by kernel_rfl
  t39 := by kernel_rfl
  a39 := fun w => by kernel_rfl
  z39 := fun w => by kernel_rfl
  v39 := fun w => by kernel_rfl
  t45 := by kernel_rfl
  a45 := fun w => by kernel_rfl
  z45 := fun w => by kernel_rfl
  v45 := fun w => by kernel_rfl
  t46 := by kernel_rfl
  a46 := fun w => by kernel_rfl
  z46 := fun w => by kernel_rfl
  v46 := fun w => by kernel_rfl
  t50 := by kernel_rfl
  a50 := fun w => by kernel_rfl
  z50 := fun w => by kernel_rfl
  v50 := fun w => by kernel_rfl
  t53 := by kernel_rfl
  a53 := fun w => by kernel_rfl
  z53 := fun w => by kernel_rfl
  v53 := fun w => by kernel_rfl
  t55 := by kernel_rfl
  a55 := fun w => by kernel_rfl
  z55 := fun w => by kernel_rfl
  v55 := fun w => by kernel_rfl
  t66 := by kernel_rfl
  a66 := fun w => by kernel_rfl
  z66 := fun w => by kernel_rfl
  v66 := fun w => by kernel_rfl
  t70 := by kernel_rfl
  a70 := fun w => by kernel_rfl
  z70 := fun w => by kernel_rfl
  v70 := fun w => by kernel_rfl
  t76 := by kernel_rfl
  a76 := fun w => by kernel_rfl
  z76 := fun w => by kernel_rfl
  v76 := fun w => by kernel_rfl
  t77 := by kernel_rfl
  a77 := fun w => by kernel_rfl
  z77 := fun w => by kernel_rfl
  v77 := fun w => by kernel_rfl
end Go.Proofs.Ytageojkepoejiaa

namespace Go.Proofs.Ytageojkepoejiaa
open Go.RowKit Go.Shelf

def renSortCC0 : Ren := ⟨fun k => if k = 6 then 94 else if k = 14 then 126 else if k = 15 then 88 else if k = 20 then 143 else if k = 21 then 144 else if k = 22 then 145 else if k = 23 then 146 else if k = 24 then 147 else if k = 25 then 148 else if k = 26 then 149 else if k = 27 then 150 else if k = 28 then 115 else if k = 29 then 116 else if k = 46 then 159 else if k = 47 then 136 else if k = 48 then 137 else if k = 49 then 160 else if k = 50 then 161 else if k = 57 then 164 else 0, fun k => if k = 22 then 34 else if k = 24 then 36 else if k = 25 then 92 else if k = 39 then 87 else if k = 45 then 100 else if k = 46 then 101 else if k = 50 then 105 else if k = 53 then 108 else if k = 55 then 110 else if k = 66 then 125 else if k = 70 then 129 else if k = 76 then 142 else if k = 77 then 143 else k, fun k => k⟩
theorem laysSortCC0 : SlLaysF0.n6 Try.prog renSortCC0 where
  mixed := by kernel_rfl
  f6 := ⟨Try.f94.name, by kernel_rfl, by kernel_rfl⟩
  f14 := ⟨Try.f126.name, by kernel_rfl, by kernel_rfl⟩
  f15 := by kernel_rfl
  f20 := ⟨Try.f143.name, by kernel_rfl, by kernel_rfl⟩
  f21 := ⟨Try.f144.name, by kernel_rfl, by kernel_rfl⟩
  f22 := ⟨Try.f145.name, by kernel_rfl, by kernel_rfl⟩
  f23 := ⟨Try.f146.name, by kernel_rfl, by kernel_rfl⟩
  f24 := ⟨Try.f147.name, by kernel_rfl, by kernel_rfl⟩
  f25 := ⟨Try.f148.name, by kernel_rfl, by kernel_rfl⟩
  f26 := ⟨Try.f149.name, by kernel_rfl, by kernel_rfl⟩
  f27 := ⟨Try.f150.name, by kernel_rfl, by kernel_rfl⟩
  f28 := by kernel_rfl
  f29 := by kernel_rfl
  f46 := ⟨Try.f159.name, by kernel_rfl, by kernel_rfl⟩
  f47 := by kernel_rfl
  f48 := by kernel_rfl
  f49 := ⟨Try.f160.name, by kernel_rfl, by kernel_rfl⟩
  f50 := ⟨Try.f161.name, by kernel_rfl, by kernel_rfl⟩
  f57 := ⟨Try.f164.name, by kernel_rfl, by kernel_rfl⟩
  t0 := by kernel_rfl
  a0 := fun w => by kernel_rfl
  z0 := fun w => by kernel_rfl
  v0 := fun w => by kernel_rfl
  t3 := by kernel_rfl
  a3 := fun w => by kernel_rfl
  z3 := fun w => by kernel_rfl
  v3 := fun w => by kernel_rfl
  t4 := by kernel_rfl
  a4 := fun w => by kernel_rfl
  z4 := fun w => by kernel_rfl
  v4 := fun w => by kernel_rfl
  t5 := by kernel_rfl
  a5 := fun w => by kernel_rfl
  z5 := fun w => by kernel_rfl
  v5 := fun w => by kernel_rfl
  t9 := by kernel_rfl
  a9 := fun w => by kernel_rfl
  z9 := fun w => by kernel_rfl
  v9 := fun w => by kernel_rfl
  t22 := by kernel_rfl
  a22 := fun w => by kernel_rfl
  z22 := fun w => by kernel_rfl
  v22 := fun w => by kernel_rfl
  t25 := by kernel_rfl
  a25 := fun w => by kernel_rfl
  z25 := fun w => by kernel_rfl
  v25 := fun w => by kernel_rfl
  t39 := by kernel_rfl
  a39 := fun w => by kernel_rfl
  z39 := fun w => by kernel_rfl
  v39 := fun w => by kernel_rfl
  t45 := by kernel_rfl
  a45 := fun w => by kernel_rfl
  z45 := fun w => by kernel_rfl
  v45 := fun w => by kernel_rfl
  t46 := by kernel_rfl
  a46 := fun w => by kernel_rfl
  z46 := fun w => by kernel_rfl
  v46 := fun w => by kernel_rfl
  t50 := by kernel_rfl
  a50 := fun w => by kernel_rfl
  z50 := fun w => by kernel_rfl
  v50 := fun w => by kernel_rfl
  t53 := by kernel_rfl
  a53 := fun w => by kernel_rfl
  z53 := fun w => by kernel_rfl
  v53 := fun w => by kernel_rfl
  t55 := by kernel_rfl
  a55 := fun w => by kernel_rfl
  z55 := fun w => by kernel_rfl
  v55 := fun w => by kernel_rfl
  t66 := by kernel_rfl
  a66 := fun w => by kernel_rfl
  z66 := fun w => by kernel_rfl
  v66 := fun w => by kernel_rfl
  t70 := by kernel_rfl
  a70 := fun w => by kernel_rfl
  z70 := fun w => by kernel_rfl
  v70 := fun w => by kernel_rfl
  t76 := by kernel_rfl
  a76 := fun w => by kernel_rfl
  z76 := fun w => by kernel_rfl
  v76 := fun w => by kernel_rfl
  t77 := by kernel_rfl
  a77 := fun w => by kernel_rfl
  z77 := fun w => by kernel_rfl
  v77 := fun w => by kernel_rfl
end Go.Proofs.Ytageojkepoejiaa

namespace Go.Proofs.Ytageojkepoejiaa
open Go.RowKit Go.Shelf Go.Sort

def Ix (n : Nat) : Type := { k : Nat // k < n }
def encX (vs : List Value) {n : Nat} (i : Ix n) : List Value := [vs.getD (i.1 * 2) undef, vs.getD (i.1 * 2 + 1) undef]
def allX (n : Nat) : List (Ix n) := (List.range n).attachWith (fun k => k < n) (fun _ hk => List.mem_range.1 hk)
theorem allX_val (n : Nat) : (allX n).map (fun i => i.1) = List.range n := List.attachWith_map_subtype_val _
theorem allX_length (n : Nat) : (allX n).length = n := by rw [← List.length_map (f := fun i : Ix n => i.1), allX_val, List.length_range]
theorem allX_at {n k : Nat} (h : k < n) : (allX n)[k]? = some ⟨k, h⟩ := by
  have h1 : (allX n)[k]? = some ((allX n)[k]'(by rw [allX_length]; exact h)) := List.getElem?_eq_getElem _
  have h2 : ((allX n)[k]'(by rw [allX_length]; exact h)).1 = k := by
    have := congrArg (fun l => l[k]?) (allX_val n)
    simp only [List.getElem?_map, h1, Option.map_some, List.getElem?_range h] at this
    exact Option.some.inj this
  rw [h1]
  congr 1
  exact Subtype.ext h2
def flatX (vs : List Value) {n : Nat} (l : List (Ix n)) : List Value := l.flatMap (encX vs)
theorem flatX_length (vs : List Value) {n : Nat} (l : List (Ix n)) : (flatX vs l).length = l.length * 2 := by
  induction l with
  | nil => rfl
  | cons i l ih => unfold flatX at *; rw [List.flatMap_cons, List.length_append, ih, List.length_cons]; simp [encX]; omega
theorem flatX_at (vs : List Value) {n : Nat} : ∀ (l : List (Ix n)) (k : Nat) (i : Ix n), l[k]? = some i → (flatX vs l)[k * 2]? = some (vs.getD (i.1 * 2) undef) ∧ (flatX vs l)[k * 2 + 1]? = some (vs.getD (i.1 * 2 + 1) undef)
  | [], _, _, h => by simp at h
  | j :: l, 0, i, h => by
    simp only [List.getElem?_cons_zero, Option.some.injEq] at h
    subst h
    exact ⟨rfl, rfl⟩
  | j :: l, k + 1, i, h => by
    simp only [List.getElem?_cons_succ] at h
    have := flatX_at vs l k i h
    have e : (k + 1) * 2 = k * 2 + 1 + 1 := by omega
    rw [e]
    unfold flatX at *
    rw [List.flatMap_cons]
    simpa [encX] using this
theorem flat_X (vs : List Value) {n : Nat} [Inhabited (Ix n)] (l : List (Ix n)) : flatK (encX vs) 2 l.toArray = (flatX vs l).toArray := by
  apply Array.ext_getElem?
  intro t
  by_cases ht : t < l.length * 2
  · have h1 : (flatK (encX vs) 2 l.toArray)[t]? = some (flatK (encX vs) 2 l.toArray)[t]! := by
      rw [getElem!_pos _ t (by simpa using ht)]; exact Array.getElem?_eq_getElem _
    rw [h1, get_flatK _ _ _ _ (by simpa using ht)]
    have hk : t / 2 < l.length := by omega
    have e3 : l.toArray[t / 2]! = l[t / 2]'hk := by simp [hk]
    obtain ⟨e1, e2⟩ := flatX_at vs l (t / 2) _ (List.getElem?_eq_getElem hk)
    rw [e3, List.getElem?_toArray]
    rcases Nat.mod_two_eq_zero_or_one t with h | h
    · rw [h, show (flatX vs l)[t]? = (flatX vs l)[t / 2 * 2]? by congr 1; omega, e1]
      rfl
    · rw [h, show (flatX vs l)[t]? = (flatX vs l)[t / 2 * 2 + 1]? by congr 1; omega, e2]
      rfl
  · rw [Array.getElem?_eq_none (by simp; omega), Array.getElem?_eq_none (by simp [flatX_length]; omega)]
theorem flatX_all {vs : List Value} {n : Nat} (h : vs.length = n * 2) : flatX vs (allX n) = vs := by
  apply List.ext_getElem?
  intro t
  by_cases ht : t < n * 2
  · obtain ⟨e1, e2⟩ := flatX_at vs (allX n) (t / 2) ⟨t / 2, by omega⟩ (allX_at (by omega))
    simp only at e1 e2
    have hv : vs[t]? = some (vs.getD t undef) := by rw [List.getD_eq_getElem?_getD, List.getElem?_eq_getElem (by omega)]; rfl
    rw [hv]
    rcases Nat.mod_two_eq_zero_or_one t with h0 | h0
    · have e : t / 2 * 2 = t := by omega
      rw [e] at e1
      exact e1
    · have e : t / 2 * 2 + 1 = t := by omega
      rw [e] at e2
      exact e2
  · rw [List.getElem?_eq_none (by rw [flatX_length, allX_length]; omega), List.getElem?_eq_none (by omega)]
end Go.Proofs.Ytageojkepoejiaa
