/-
  Slices of terms: marked, held, copied; their words for lawgen.py.
  Contract of toTermS, the copy owned.
-/
import Derived.Test.YtomejjbkakpoiaaGreatBuE5
namespace Go.Proofs.YtomejjbkakpoiaaGreat
open Go.RowKit

abbrev RT := RP
abbrev Wide_T := Wide_P
abbrev Wf_T := Wf_P
abbrev Short_T := Short_P
def sz_T : List (List Int × Int) → Nat
  | [] => 0
  | p :: r => p.1.length + 1 + sz_T r
def ms_T := ms_P
def mk_T : List (List Int × Int) → Int → List (List Int × Int)
  | [], _ => []
  | p :: r, k => (iota k p.1.length, k + p.1.length) :: mk_T r (k + p.1.length + 1)
theorem sz_T_eq (xs : List (List Int × Int)) : sz_T xs = xs.length + sz_II (heads xs) := by
  induction xs with
  | nil => rfl
  | cons p r ih =>
    show p.1.length + 1 + sz_T r = (p :: r).length + sz_II (p.1 :: heads r)
    rw [ih, List.length_cons, sz_II]
    omega
theorem ms_T_len (xs : List (List Int × Int)) : xs.length ≤ ms_T xs := Nat.le_add_right _ _
theorem ms_T_sz (xs : List (List Int × Int)) : sz_T xs ≤ ms_T xs := by rw [sz_T_eq]; exact Nat.le_refl _
theorem ms_T_short (xs : List (List Int × Int)) (h : ms_T xs ≤ 1048576) : Short_T xs := ms_P_short xs h
theorem sz_T_append (xs ys : List (List Int × Int)) : sz_T (xs ++ ys) = sz_T xs + sz_T ys := by
  induction xs with
  | nil => simp [sz_T]
  | cons x xs ih => rw [List.cons_append, sz_T, sz_T, ih]; omega
theorem mk_T_length (xs : List (List Int × Int)) (k : Int) : (mk_T xs k).length = xs.length := by
  induction xs generalizing k with
  | nil => rfl
  | cons x xs ih => rw [mk_T, List.length_cons, List.length_cons, ih]
theorem mk_T_append (xs ys : List (List Int × Int)) (k : Int) : mk_T (xs ++ ys) k = mk_T xs k ++ mk_T ys (k + (sz_T xs : Int)) := by
  induction xs generalizing k with
  | nil => simp [sz_T, mk_T]
  | cons x xs ih =>
    rw [List.cons_append, mk_T, mk_T, ih, sz_T, List.cons_append]
    congr 3
    simp; omega
theorem sz_T_take {xs : List (List Int × Int)} {i : Nat} {x : List Int × Int} (h : xs[i]? = some x) : sz_T (xs.take (i + 1)) = sz_T (xs.take i) + (x.1.length + 1) := by
  rw [take_at h, sz_T_append]; rfl
theorem sz_T_le (xs : List (List Int × Int)) (i : Nat) : sz_T (xs.take i) ≤ sz_T xs := by
  conv => rhs; rw [← List.take_append_drop i xs, sz_T_append]
  omega
def markT (xs : List (List Int × Int)) (k : Int) (i : Nat) : List (List Int × Int) := mk_T (xs.take i) k ++ xs.drop i
theorem markT_zero (xs : List (List Int × Int)) (k : Int) : markT xs k 0 = xs := by simp [markT, mk_T]
theorem markT_all {xs : List (List Int × Int)} {n : Nat} (h : xs.length = n) (k : Int) : markT xs k n = mk_T xs k := by simp [markT, ← h]
theorem markT_at {xs : List (List Int × Int)} {i : Nat} {x : List Int × Int} (h : xs[i]? = some x) (k : Int) : (markT xs k i)[i]? = some x := by
  have hi := lt_of_some h
  have hl : (mk_T (xs.take i) k).length = i := by rw [mk_T_length, List.length_take]; omega
  unfold markT
  rw [List.getElem?_append_right (by omega), hl, Nat.sub_self, List.getElem?_drop, Nat.add_zero]
  exact h
theorem markT_succ {xs : List (List Int × Int)} {i : Nat} {x : List Int × Int} (h : xs[i]? = some x) (k : Int) : (markT xs k i).set i (iota (k + (sz_T (xs.take i) : Int)) x.1.length, k + (sz_T (xs.take i) : Int) + x.1.length) = markT xs k (i + 1) := by
  have hi := lt_of_some h
  have hl : (mk_T (xs.take i) k).length = i := by rw [mk_T_length, List.length_take]; omega
  unfold markT
  rw [drop_at h, List.set_append_right _ _ (by omega), hl, Nat.sub_self, take_at h, mk_T_append]
  simp [mk_T]
theorem mk_T_at {xs : List (List Int × Int)} {i : Nat} {x : List Int × Int} (h : xs[i]? = some x) (k : Int) : (mk_T xs k)[i]? = some (iota (k + (sz_T (xs.take i) : Int)) x.1.length, k + (sz_T (xs.take i) : Int) + x.1.length) := by
  have hi := lt_of_some h
  have hl : (mk_T (xs.take i) k).length = i := by rw [mk_T_length, List.length_take]; omega
  conv => lhs; rw [← List.take_append_drop i xs, mk_T_append, drop_at h]
  rw [List.getElem?_append_right (by omega), hl, Nat.sub_self, mk_T]
  rfl

theorem grown_keeps2 {w w' : World} {B e n : Nat} {v : Value} {vs : List Value} {row : Option Nat} (h : w.ownsRow B e 2 v n vs) (hg : w.grownBy w' row) (hne : ∀ k, v.ownBlock = some k → row ≠ some k) : w'.ownsRow B e 2 v n vs := by
  refine h.kept hg ?_
  cases hv : v.ownBlock with
  | none => exact .inl rfl
  | some k => exact .inr (fun e => hne k hv e.symm)
theorem row2_cell {w : World} {B e n g c : Nat} {vs : List Value} (h : w.ownsRow B e 2 (.slice (some ⟨g, 0, none⟩) n c) n vs) {j : Nat} {v : Value} (hv : vs[j]? = some v) : w.cell? ⟨g, j, none⟩ = some v ∧ w.frozen? ⟨g, j, none⟩ = false := by
  have hl := h.1
  have := lt_of_some hv
  exact ⟨by rw [h.cellAt _ (by omega)]; exact hv, h.frozenAt _⟩
theorem TO.at {w : World} {B S : Nat} {a : Option Addr} {n c : Nat} {xs : List (List Int × Int)} (h : TO w B S a n c xs) (hn : 0 < n) : ∃ g, a = some ⟨g, 0, none⟩ ∧ B ≤ g ∧ g < S := by
  obtain ⟨vs, h1, h2, _⟩ := h
  rcases row2_shape h1 with ⟨h0, _⟩ | ⟨g, rfl, hB, _⟩
  · omega
  · exact ⟨g, rfl, hB, h2 g rfl⟩
/-- one term's parts, and both of them put anew -/
theorem TO.open {w : World} {B S g n c : Nat} {xs : List (List Int × Int)} (h : TO w B S (some ⟨g, 0, none⟩) n c xs) {i : Nat} {p : List Int × Int} (hi : xs[i]? = some p) :
    ∃ a' c', w.cell? ⟨g, i * 2, none⟩ = some (.slice a' p.1.length c') ∧ w.cell? ⟨g, i * 2 + 1, none⟩ = some (.int .i64 p.2) ∧ OwI w B S a' p.1.length c' p.1 ∧
      ∀ w' ys (v : Int), ys.length = p.1.length → OS w' B a' p.1.length c' ys → w.grownBy w' (Value.slice a' p.1.length c').ownBlock →
        w'.cell? ⟨g, i * 2 + 1, none⟩ = some (.int .i64 p.2) ∧ w'.frozen? ⟨g, i * 2 + 1, none⟩ = false ∧
        TO (w'.setCell ⟨g, i * 2 + 1, none⟩ (.int .i64 v)) B S (some ⟨g, 0, none⟩) n c (xs.set i (ys, v)) ∧ w'.grownBy (w'.setCell ⟨g, i * 2 + 1, none⟩ (.int .i64 v)) (some g) := by
  obtain ⟨vs, h1, h2, h3⟩ := h
  obtain ⟨a', c', e1, e2, ho⟩ := h3.each i p hi
  have hlv : vs.length = n * 2 := h1.1
  have hil := lt_of_some hi
  have hln := h3.len
  refine ⟨a', c', (row2_cell h1 e1).1, (row2_cell h1 e2).1, ho, fun w' ys v hl hos hg => ?_⟩
  have h1' := grown_keeps2 h1 hg (fun k hk e => ne_blockT h1 ho k hk e)
  have s := h1'.stored (i * 2 + 1) (.int .i64 v)
  refine ⟨(row2_cell h1' e2).1, (row2_cell h1' e2).2, ⟨_, s.1, h2, ?_⟩, s.2⟩
  have fin : ∀ {b : Option Addr} {m d : Nat} {zs : List Int}, OwI w' B S b m d zs → OwI (w'.setCell ⟨g, i * 2 + 1, none⟩ (.int .i64 v)) B S b m d zs := fun hio => ⟨hio.1.kept s.2 (fun k hk e => ne_blockT h1' hio g rfl (by rw [hk, ← Option.some.inj e])), hio.2⟩
  refine ⟨by rw [List.length_set, List.length_set]; exact h3.len, fun k q hq => ?_, ?_⟩
  · rw [List.getElem?_set] at hq
    by_cases hk : i = k
    · subst hk
      rw [if_pos rfl, if_pos hil] at hq
      obtain rfl := Option.some.inj hq
      refine ⟨a', c', ?_, ?_, ?_⟩
      · rw [List.getElem?_set, if_neg (by omega), hl]; exact e1
      · rw [List.getElem?_set, if_pos rfl, if_pos (by omega)]
      · rw [hl]; exact fin ⟨hos, ho.2⟩
    · rw [if_neg hk] at hq
      obtain ⟨a2, c2, e3, e4, ho2⟩ := h3.each k q hq
      refine ⟨a2, c2, ?_, ?_, fin ⟨ho2.1.kept hg (fun r hr e => hk (h3.apart i k _ _ r e1 e3 e hr)), ho2.2⟩⟩
      · rw [List.getElem?_set, if_neg (by omega)]; exact e3
      · rw [List.getElem?_set, if_neg (by omega)]; exact e4
  · intro k j u v' r hu hv
    rw [List.getElem?_set, if_neg (by omega)] at hu hv
    exact h3.apart k j u v' r hu hv

end Go.Proofs.YtomejjbkakpoiaaGreat

namespace Go.Proofs.YtomejjbkakpoiaaGreat
open Go.RowKit

theorem TO.zeros {w : World} {B n : Nat} {vs : List Value} (h : w.ownsRow B 74 2 (.slice (some ⟨B, 0, none⟩) n n) n vs)
    (hv : ∀ k, k < n → vs[k * 2]? = some (.slice none 0 0) ∧ vs[k * 2 + 1]? = some (.int .i64 0)) : TO w B w.heap.size (some ⟨B, 0, none⟩) n n (List.replicate n ([], 0)) := by
  have hl : vs.length = n * 2 := h.1
  refine ⟨vs, h, fun k hk => (h.lt k hk).2, by simp; omega, fun k p hp => ?_, fun i j u v g hu hv' hug _ => ?_⟩
  · rw [List.getElem?_replicate] at hp
    split at hp
    · rename_i hk
      obtain rfl := Option.some.inj hp
      exact ⟨none, 0, (hv k hk).1, (hv k hk).2, ⟨rfl, World.ownsRow_nil _ _ _ _⟩, by simp [Value.ownBlock]⟩
    · cases hp
  · have hi := lt_of_some hu
    rw [(hv i (by omega)).1] at hu
    obtain rfl := Option.some.inj hu
    cases hug
theorem TO.put {w : World} {B S g n c : Nat} {xs : List (List Int × Int)} (h : TO w B S (some ⟨g, 0, none⟩) n c xs) {i : Nat} {p : List Int × Int} (hi : xs[i]? = some p) {S1 S' : Nat} {a' : Option Addr} {l c' : Nat} {ys : List Int} (hy : OwI w S1 S' a' l c' ys) (hS1 : S ≤ S1) (hB : B ≤ S1) (hSS : S ≤ S') (v : Int) :
    (∃ old, w.cell? ⟨g, i * 2, none⟩ = some old) ∧ w.frozen? ⟨g, i * 2, none⟩ = false ∧
    (∃ old, (w.setCell ⟨g, i * 2, none⟩ (.slice a' l c')).cell? ⟨g, i * 2 + 1, none⟩ = some old) ∧ (w.setCell ⟨g, i * 2, none⟩ (.slice a' l c')).frozen? ⟨g, i * 2 + 1, none⟩ = false ∧
    TO ((w.setCell ⟨g, i * 2, none⟩ (.slice a' l c')).setCell ⟨g, i * 2 + 1, none⟩ (.int .i64 v)) B S' (some ⟨g, 0, none⟩) n c (xs.set i (ys, v)) := by
  obtain ⟨vs, h1, h2, h3⟩ := h
  obtain ⟨b0, d0, e1, e2, ho⟩ := h3.each i p hi
  have hlv : vs.length = n * 2 := h1.1
  have hil := lt_of_some hi
  have hln := h3.len
  have s1 := h1.stored (i * 2) (.slice a' l c')
  have s2 := s1.1.stored (i * 2 + 1) (.int .i64 v)
  have e3 : (vs.set (i * 2) (.slice a' l c'))[i * 2 + 1]? = some (.int .i64 p.2) := by rw [List.getElem?_set, if_neg (by omega)]; exact e2
  refine ⟨⟨_, (row2_cell h1 e1).1⟩, (row2_cell h1 e1).2, ⟨_, (row2_cell s1.1 e3).1⟩, (row2_cell s1.1 e3).2, _, s2.1, fun k hk => Nat.lt_of_lt_of_le (h2 k hk) hSS, ?_⟩
  have fin : ∀ {B0 S0 : Nat} {b : Option Addr} {m d : Nat} {zs : List Int}, OwI w B0 S0 b m d zs → OwI ((w.setCell ⟨g, i * 2, none⟩ (.slice a' l c')).setCell ⟨g, i * 2 + 1, none⟩ (.int .i64 v)) B0 S0 b m d zs := fun hio => by
    have i1 : OwI (w.setCell ⟨g, i * 2, none⟩ (.slice a' l c')) _ _ _ _ _ _ := ⟨hio.1.kept s1.2 (fun k hk e => ne_blockT h1 hio g rfl (by rw [hk, ← Option.some.inj e])), hio.2⟩
    exact ⟨i1.1.kept s2.2 (fun k hk e => ne_blockT s1.1 i1 g rfl (by rw [hk, ← Option.some.inj e])), i1.2⟩
  have hold : ∀ k u, vs[k * 2]? = some u → ∀ r, u.ownBlock = some r → r < S := by
    intro k u hu r hur
    have hk := lt_of_some hu
    obtain ⟨q, hq⟩ := some_of (show k < xs.length by omega)
    obtain ⟨a2, c2, f1, _, f3⟩ := h3.each k q hq
    rw [hu] at f1
    obtain rfl := Option.some.inj f1
    exact f3.2 r hur
  have hnew : ∀ r, (Value.slice a' l c').ownBlock = some r → S1 ≤ r := fun r hr => hy.1.lo r hr
  refine ⟨by rw [List.length_set, List.length_set, List.length_set]; exact h3.len, fun k q hq => ?_, ?_⟩
  · rw [List.getElem?_set] at hq
    by_cases hk : i = k
    · subst hk
      rw [if_pos rfl, if_pos hil] at hq
      obtain rfl := Option.some.inj hq
      obtain rfl := hy.len
      refine ⟨a', c', ?_, ?_, ?_⟩
      · rw [List.getElem?_set, if_neg (by omega), List.getElem?_set, if_pos rfl, if_pos (by omega)]
      · rw [List.getElem?_set, if_pos rfl, if_pos (by rw [List.length_set]; omega)]
      · exact (fin hy).mono hB (Nat.le_refl _)
    · rw [if_neg hk] at hq
      obtain ⟨a2, c2, f1, f2, ho2⟩ := h3.each k q hq
      refine ⟨a2, c2, ?_, ?_, (fin ho2).mono (Nat.le_refl _) hSS⟩
      · rw [List.getElem?_set, if_neg (by omega), List.getElem?_set, if_neg (by omega)]; exact f1
      · rw [List.getElem?_set, if_neg (by omega), List.getElem?_set, if_neg (by omega)]; exact f2
  · have split : ∀ k u, ((vs.set (i * 2) (.slice a' l c')).set (i * 2 + 1) (.int .i64 v))[k * 2]? = some u → (k ≠ i ∧ vs[k * 2]? = some u) ∨ (k = i ∧ u = .slice a' l c') := by
      intro k u hu
      rw [List.getElem?_set, if_neg (by omega), List.getElem?_set] at hu
      by_cases hk : i = k
      · subst hk
        rw [if_pos rfl, if_pos (by omega)] at hu
        exact .inr ⟨rfl, (Option.some.inj hu).symm⟩
      · rw [if_neg (by omega)] at hu
        exact .inl ⟨fun e => hk e.symm, hu⟩
    intro k j u v' r hu hv hur hvr
    rcases split k u hu with ⟨_, hu2⟩ | ⟨ei, eu⟩ <;> rcases split j v' hv with ⟨_, hv2⟩ | ⟨ej, ev⟩
    · exact h3.apart k j u v' r hu2 hv2 hur hvr
    · rw [ev] at hvr
      have := hold k u hu2 r hur
      have := hnew r hvr
      omega
    · rw [eu] at hur
      have := hold j v' hv2 r hvr
      have := hnew r hur
      omega
    · omega

end Go.Proofs.YtomejjbkakpoiaaGreat
