/-
  Codes and their permutations, found in two ways; what is not moved at the end changes no code: plain.
-/
import Derived.Test.YtocgcgmlemoekaaGreatLead
import Derived.Test.YtocgcgmlemoekaaGreatDecode
import Derived.Test.YtocgcgmlemoekaaGreatPermOfCode
import Derived.Test.YtocgcgmlemoekaaGreatTrim
namespace Go.Proofs.YtocgcgmlemoekaaGreat
open Go.RowKit

/-! from a code to its permutation -/
def pcL : List Int → List Nat → List Int
  | _, [] => []
  | rest, x :: cs => rest.getD x 0 :: pcL (rest.eraseIdx x) cs
/-- codes that are right for n numbers that are left -/
def CodeOk : List Nat → Prop
  | [] => True
  | x :: cs => x < cs.length + 1 ∧ CodeOk cs
theorem eraseIdx_filter {l : List Int} (hn : l.Nodup) : ∀ {i : Nat} {x : Int}, l[i]? = some x → l.eraseIdx i = l.filter fun y => decide (y ≠ x) := by
  induction l with
  | nil => intro i x h; simp at h
  | cons a l ih =>
    intro i x h
    rw [List.nodup_cons] at hn
    cases i with
    | zero =>
      obtain rfl : a = x := by simpa using h
      rw [List.eraseIdx_zero, List.tail_cons, List.filter_cons]
      simp only [ne_eq, not_true, decide_false, Bool.false_eq_true, if_false]
      rw [List.filter_eq_self.2]
      intro y hy
      simp only [decide_eq_true_eq]
      intro e
      exact hn.1 (by rw [← e]; exact hy)
    | succ i =>
      have h' : l[i]? = some x := by simpa using h
      rw [List.eraseIdx_cons_succ, List.filter_cons, ih hn.2 h']
      have : a ≠ x := fun e => hn.1 (by rw [e]; exact List.mem_of_getElem? h')
      simp [this]
theorem pcL_perm {cs : List Nat} : ∀ {rest : List Int}, rest.length = cs.length → CodeOk cs → (pcL rest cs).Perm rest := by
  induction cs with
  | nil =>
    intro rest h _
    rw [List.eq_nil_of_length_eq_zero h]
    exact List.Perm.refl _
  | cons x cs ih =>
    intro rest h hc
    obtain ⟨hx, hc⟩ := hc
    simp only [List.length_cons] at h
    have hl : x < rest.length := by omega
    have e1 : rest.getD x 0 = rest[x] := by rw [List.getD_eq_getElem?_getD, List.getElem?_eq_getElem hl]; rfl
    rw [pcL, e1]
    have h2 := ih (rest := rest.eraseIdx x) (by rw [List.length_eraseIdx, if_pos hl]; omega) hc
    refine (h2.cons _).trans ?_
    rw [List.eraseIdx_eq_take_drop_succ]
    have e2 : rest = rest.take x ++ rest[x] :: rest.drop (x + 1) := by
      rw [← List.drop_eq_getElem_cons hl, List.take_append_drop]
    conv => rhs; rw [e2]
    exact List.perm_middle.symm
theorem sorted_count {rest : List Int} (hs : rest.Pairwise fun a b => a < b) : ∀ {x : Nat} {y : Int}, rest[x]? = some y → ((rest.eraseIdx x).filter fun z => decide (z < y)).length = x := by
  induction hs with
  | nil => intro x y h; simp at h
  | cons h1 h2 ih =>
    rename_i a l
    intro x y h
    cases x with
    | zero =>
      obtain rfl : a = y := by simpa using h
      rw [List.eraseIdx_zero, List.tail_cons, List.length_eq_zero_iff, List.filter_eq_nil_iff]
      intro z hz
      have := h1 z hz
      simp
      omega
    | succ x =>
      have h' : l[x]? = some y := by simpa using h
      have hay := h1 y (List.mem_of_getElem? h')
      rw [List.eraseIdx_cons_succ, List.filter_cons]
      simp only [hay, decide_true, if_true, List.length_cons]
      rw [ih h']
theorem cod_pcL {cs : List Nat} : ∀ {rest : List Int}, rest.length = cs.length → CodeOk cs → (rest.Pairwise fun a b => a < b) → cod (pcL rest cs) = cs := by
  induction cs with
  | nil => intro rest _ _ _; rfl
  | cons x cs ih =>
    intro rest h hc hs
    obtain ⟨hx, hc⟩ := hc
    simp only [List.length_cons] at h
    have hl : x < rest.length := by omega
    have hx2 : rest[x]? = some (rest.getD x 0) := by rw [List.getD_eq_getElem?_getD, List.getElem?_eq_getElem hl]; rfl
    have hl2 : (rest.eraseIdx x).length = cs.length := by rw [List.length_eraseIdx, if_pos hl]; omega
    have hs2 : (rest.eraseIdx x).Pairwise fun a b => a < b := hs.sublist (List.eraseIdx_sublist _ _)
    rw [pcL, cod, ih hl2 hc hs2, ((pcL_perm hl2 hc).filter _).length_eq, sorted_count hs hx2]
theorem ident_sorted (n : Nat) : (ident n).Pairwise fun a b => a < b := by
  unfold ident
  rw [List.pairwise_map]
  exact List.pairwise_lt_range.imp fun h => by omega
theorem ident_nodup (n : Nat) : (ident n).Nodup := (ident_sorted n).imp fun h => by omega

/-! poc -/
theorem getD_nat {ns : List Nat} {k x : Nat} (h : ns[k]? = some x) : (natL ns).getD k 0 = (x : Int) := by
  rw [List.getD_eq_getElem?_getD, natL, List.getElem?_map, h]; rfl
theorem poc_pcL (n : Nat) (ns : List Nat) : ∀ k, k ≤ ns.length → (poc n (natL ns) k).2 ++ pcL (poc n (natL ns) k).1 (ns.drop k) = pcL (ident n) ns := by
  intro k
  induction k with
  | zero => intro _; rw [poc]; simp
  | succ k ih =>
    intro hk
    have h := ih (by omega)
    have hd : ns.drop k = ns[k] :: ns.drop (k + 1) := List.drop_eq_getElem_cons (by omega)
    rw [← h, hd, pcL, poc, getD_nat (List.getElem?_eq_getElem (by omega))]
    simp
theorem poc_eq {n : Nat} {ns : List Nat} (h : ns.length = n) : (poc n (natL ns) n).2 = pcL (ident n) ns := by
  have := poc_pcL n ns n (by omega)
  rw [← this, List.drop_of_length_le (by omega)]
  cases (poc n (natL ns) n).1 <;> simp [pcL]

/-! decode -/
def freeOf (n : Nat) (out : List Int) : List Int := (ident n).filter fun v => !out.contains v
theorem seek_eq (out : List Int) : ∀ (f v x : Nat), x < (((List.range' v f).map fun k : Nat => (k : Int)).filter fun v => !out.contains v).length →
    seek out f v (x : Int) = out ++ [(((List.range' v f).map fun k : Nat => (k : Int)).filter fun v => !out.contains v).getD x 0] := by
  intro f
  induction f with
  | zero => intro v x h; simp at h
  | succ f ih =>
    intro v x h
    rw [seek]
    rw [List.range'_succ, List.map_cons, List.filter_cons] at h ⊢
    cases hc : out.contains (v : Int)
    · rw [hc] at h
      simp only [Bool.not_false, if_true, Bool.false_eq_true, if_false] at h ⊢
      cases x with
      | zero => simp
      | succ x =>
        have e : ¬ ((x + 1 : Nat) : Int) = 0 := by omega
        have e2 : ((x + 1 : Nat) : Int) - 1 = (x : Int) := by omega
        rw [if_neg e, e2, ih (v + 1) x (by simpa using h)]
        simp
    · rw [hc] at h
      simp only [Bool.not_true, Bool.false_eq_true, if_false, if_true] at h ⊢
      exact ih (v + 1) x h
theorem decode_pcL (n : Nat) : ∀ (ns : List Nat) (out : List Int), CodeOk ns → (freeOf n out).length = ns.length →
    (natL ns).foldl (fun out x => seek out n 0 x) out = out ++ pcL (freeOf n out) ns := by
  intro ns
  induction ns with
  | nil => intro out _ _; simp [natL, pcL]
  | cons x ns ih =>
    intro out hc hl
    obtain ⟨hx, hc⟩ := hc
    simp only [List.length_cons] at hl
    have hr : ((List.range' 0 n).map fun k : Nat => (k : Int)) = ident n := by rw [← List.range_eq_range']; rfl
    have h1 : seek out n 0 (x : Int) = out ++ [(freeOf n out).getD x 0] := by
      have := seek_eq out n 0 x
      rw [hr] at this
      exact this (by show x < (freeOf n out).length; omega)
    have hx2 : (freeOf n out)[x]? = some ((freeOf n out).getD x 0) := by rw [List.getD_eq_getElem?_getD, List.getElem?_eq_getElem (by omega)]; rfl
    have h2 : freeOf n (out ++ [(freeOf n out).getD x 0]) = (freeOf n out).eraseIdx x := by
      have hnd : (freeOf n out).Nodup := (ident_nodup n).filter _
      rw [eraseIdx_filter hnd hx2]
      generalize (freeOf n out).getD x 0 = y
      unfold freeOf
      rw [List.filter_filter]
      congr 1
      funext v
      simp only [List.contains_eq_mem, List.mem_append, List.mem_singleton]
      by_cases e1 : v ∈ out <;> by_cases e2 : v = y <;> simp [e1, e2]
    show List.foldl (fun out x => seek out n 0 x) (seek out n 0 (x : Int)) (natL ns) = _
    rw [h1, ih _ hc (by rw [h2, List.length_eraseIdx, if_pos (by omega)]; omega), h2, pcL]
    simp
theorem decode_eq {ns : List Nat} (hc : CodeOk ns) : decode (natL ns) = pcL (ident ns.length) ns := by
  have h : freeOf ns.length [] = ident ns.length := by unfold freeOf; rw [List.filter_eq_self.2]; simp
  have := decode_pcL ns.length ns [] hc (by rw [h]; simp [ident])
  rw [h] at this
  unfold decode decodeBy
  have hl : (natL ns).length = ns.length := by simp [natL]
  rw [hl, this]
  rfl

/-! what is not moved at the end -/
theorem trimLen_take (xs : List Int) : ∀ (m k : Nat), m ≤ k → trimLen (xs.take k) m = trimLen xs m := by
  intro m
  induction m with
  | zero => intro k _; rfl
  | succ m ih =>
    intro k hk
    rcases m with _ | m
    · rfl
    · have e : (xs.take k).getD (m + 1) 0 = xs.getD (m + 1) 0 := by rw [List.getD_eq_getElem?_getD, List.getElem?_take, if_pos (by omega), List.getD_eq_getElem?_getD]
      rw [trimLen, trimLen, e, ih k (by omega)]
theorem trimLen_idem (xs : List Int) : ∀ m, trimLen xs (trimLen xs m) = trimLen xs m := by
  intro m
  induction m with
  | zero => rfl
  | succ m ih =>
    rcases m with _ | m
    · rfl
    · by_cases h : xs.getD (m + 1) 0 = ((m + 1 : Nat) : Int)
      · have e : trimLen xs (m + 1 + 1) = trimLen xs (m + 1) := by rw [trimLen, if_pos h]
        rw [e, ih]
      · have e : trimLen xs (m + 1 + 1) = m + 1 + 1 := by rw [trimLen, if_neg h]
        rw [e, e]
theorem cod_append_max (l : List Int) (y : Int) (h : ∀ x ∈ l, x < y) : cod (l ++ [y]) = cod l ++ [0] := by
  induction l with
  | nil => rfl
  | cons a l ih =>
    have ha := h a List.mem_cons_self
    rw [List.cons_append, cod, cod, ih fun x hx => h x (List.mem_cons_of_mem _ hx), List.filter_append]
    have : ¬ y < a := by omega
    simp [this]
theorem keyL_zero (l : List Int) : keyL (l ++ [0]) = keyL l := by
  induction l with
  | nil => rfl
  | cons a l ih => rw [List.cons_append, keyL, keyL, ih]
/-- the first m numbers are those below m -/
def Pm (xs : List Int) (m : Nat) : Prop := m ≤ xs.length ∧ (xs.take m).Nodup ∧ ∀ x ∈ xs.take m, 0 ≤ x ∧ x < (m : Int)
theorem Pm.down {xs : List Int} {m : Nat} (h : Pm xs (m + 1)) (hy : xs.getD m 0 = (m : Int)) : Pm xs m ∧ xs.take (m + 1) = xs.take m ++ [(m : Int)] := by
  obtain ⟨h1, h2, h3⟩ := h
  have e : xs.take (m + 1) = xs.take m ++ [(m : Int)] := by
    have hm : m < xs.length := by omega
    rw [List.take_succ_eq_append_getElem hm]
    congr 1
    rw [List.getD_eq_getElem?_getD, List.getElem?_eq_getElem hm] at hy
    simpa using hy
  rw [e] at h2 h3
  refine ⟨⟨by omega, (List.nodup_append.1 h2).1, fun x hx => ?_⟩, e⟩
  have h4 := h3 x (List.mem_append_left _ hx)
  have h5 : x ≠ (m : Int) := fun e => (List.nodup_append.1 h2).2.2 x hx (m : Int) (by simp) e
  omega
theorem cK_trim {xs : List Int} : ∀ {m : Nat}, Pm xs m → cK (xs.take (trimLen xs m)) = cK (xs.take m) ∧ Pm xs (trimLen xs m) := by
  intro m
  induction m with
  | zero => intro h; exact ⟨rfl, h⟩
  | succ m ih =>
    intro h
    rcases m with _ | m
    · exact ⟨rfl, h⟩
    · by_cases hy : xs.getD (m + 1) 0 = ((m + 1 : Nat) : Int)
      · have e : trimLen xs (m + 1 + 1) = trimLen xs (m + 1) := by rw [trimLen, if_pos hy]
        obtain ⟨hd, e2⟩ := h.down hy
        rw [e]
        obtain ⟨g1, g2⟩ := ih hd
        refine ⟨?_, g2⟩
        rw [g1, e2]
        unfold cK
        rw [cod_append_max _ _ fun x hx => (hd.2.2 x hx).2]
        show _ = keyL (natL (cod (xs.take (m + 1)) ++ [0]))
        unfold natL
        rw [List.map_append]
        exact (keyL_zero _).symm
      · have e : trimLen xs (m + 1 + 1) = m + 1 + 1 := by rw [trimLen, if_neg hy]
        rw [e]
        exact ⟨rfl, h⟩
end Go.Proofs.YtocgcgmlemoekaaGreat
