/-
  Slices of pairs of a slice of integers and an integer: what they read as; compared, measured.
  Slices of pairs of a slice of integers and an integer: measured, compared.
  Contract of toPart.
  Contract of toTermS; what came in, opened: a slice of pairs of a slice of integers and an integer.
  Contract of toTermS.
-/
import Derived.Test.YtocgcgmlemoekaaGreatSzI
import Derived.StillTailTactics
import Derived.Laws.Rows
import Derived.Test.YtocgcgmlemoekaaGreatOpen
import Derived.Deep.SlicePairs
namespace Go.Proofs.YtocgcgmlemoekaaGreat
open Go.RowKit

/-- the slice at address a reads as pairs -/
def RP (w : World) (a : Option Addr) (xs : List (List Int × Int)) : Prop :=
  xs = [] ∨ ∃ b off, a = some ⟨b, off, none⟩ ∧ ∀ k p, xs[k]? = some p → ∃ a' c', w.cell? ⟨b, off + k * 2, none⟩ = some (.slice a' p.1.length c') ∧ w.cell? ⟨b, off + k * 2 + 1, none⟩ = some (.int .i64 p.2) ∧ RI w a' p.1 ∧ p.1.length ≤ c'
theorem RP.at {w : World} {a : Option Addr} {xs : List (List Int × Int)} (h : RP w a xs) {k : Nat} (hk : k < xs.length) :
    ∃ b off, a = some ⟨b, off, none⟩ ∧ ∀ k p, xs[k]? = some p → ∃ a' c', w.cell? ⟨b, off + k * 2, none⟩ = some (.slice a' p.1.length c') ∧ w.cell? ⟨b, off + k * 2 + 1, none⟩ = some (.int .i64 p.2) ∧ RI w a' p.1 ∧ p.1.length ≤ c' := by
  rcases h with rfl | h
  · simp at hk
  · exact h
theorem RP.below {w w' : World} {a : Option Addr} {xs : List (List Int × Int)} (h : RP w a xs) (hb : Below w.heap.size w w') : RP w' a xs := by
  rcases h with h | ⟨b, off, ha, hc⟩
  · exact .inl h
  · exact .inr ⟨b, off, ha, fun k x hx => by
      obtain ⟨a', c', h1, h2, h3, h4⟩ := hc k x hx
      exact ⟨a', c', by rw [hb.cell (World.block_lt_of_cell? w _ h1)]; exact h1, by rw [hb.cell (World.block_lt_of_cell? w _ h2)]; exact h2, h3.below hb, h4⟩⟩
theorem part_at {xs : List (List Int × Int)} {n k : Nat} (h : xs.length = n) (hk : k < n) : ∃ p q, xs[k]? = some (p, q) := ⟨(xs[k]'(by omega)).1, (xs[k]'(by omega)).2, List.getElem?_eq_getElem (by omega)⟩

end Go.Proofs.YtocgcgmlemoekaaGreat

namespace Go.Proofs.YtocgcgmlemoekaaGreat
open Go.RowKit

def heads (xs : List (List Int × Int)) : List (List Int) := xs.map fun p => p.1
def Wide_P (n : Nat) (xs : List (List Int × Int)) : Prop := n ≤ 9223372036854775807 ∧ ∀ p ∈ xs, p.1.length ≤ 9223372036854775807
def ms_P (xs : List (List Int × Int)) : Nat := xs.length + sz_II (heads xs)
theorem heads_at {xs : List (List Int × Int)} {k : Nat} {p : List Int × Int} (h : xs[k]? = some p) : (heads xs)[k]? = some p.1 := by simp [heads, h]
theorem heads_length (xs : List (List Int × Int)) : (heads xs).length = xs.length := by simp [heads]

theorem eqq_of_all {xs ys : List (List Int × Int)} (hl : xs.length = ys.length) (h : ∀ j, j < xs.length → xs[j]? = ys[j]?) : decide (xs = ys) = true := by
  rw [decide_eq_true_iff]
  apply List.ext_getElem?
  intro j
  rcases Nat.lt_or_ge j xs.length with h1 | h1
  · exact h j h1
  · rw [List.getElem?_eq_none h1, List.getElem?_eq_none (by omega)]
theorem neq_of_at {xs ys : List (List Int × Int)} {k : Nat} {x y : List Int × Int} (hx : xs[k]? = some x) (hy : ys[k]? = some y) (h : x ≠ y) : decide (xs = ys) = false := by
  rw [decide_eq_false_iff_not]
  rintro rfl
  rw [hx] at hy
  exact h (by simpa using hy)

end Go.Proofs.YtocgcgmlemoekaaGreat

namespace Go.Proofs.YtocgcgmlemoekaaGreat
open Go.RowKit

theorem Only.setCell {B S : Nat} (w : World) (g j : Nat) (v : Value) (h1 : B ≤ g) (h2 : g < S) : Only B S w (w.setCell ⟨g, j, none⟩ v) :=
  ⟨rfl, rfl, rfl, by simp, fun k _ hk => heap_setCell_other w ⟨g, j, none⟩ k v (fun e => hk (by simp at e; omega))⟩
theorem Tryz.sizePart : (Tryz.prog.info? 64).map (·.size) = some 2 := by kernel_rfl

end Go.Proofs.YtocgcgmlemoekaaGreat

namespace Go.Proofs.YtocgcgmlemoekaaGreat
open Go.RowKit Go.ChangeShapes

/-- the row in block B holds the pairs, their slices lie in blocks behind B and below S -/
def PR (w : World) (B S n : Nat) (xs : List (List Int × Int)) : Prop :=
  ∃ vs, w.ownsRow B 64 2 (.slice (some ⟨B, 0, none⟩) n n) n vs ∧ xs.length = n ∧
    ∀ k p, xs[k]? = some p → ∃ a' c', vs[k * 2]? = some (.slice a' p.1.length c') ∧ vs[k * 2 + 1]? = some (.int .i64 p.2) ∧ OwI w (B + 1) S a' p.1.length c' p.1
theorem PR.rd {w : World} {B S n : Nat} {xs : List (List Int × Int)} (h : PR w B S n xs) : RP w (some ⟨B, 0, none⟩) xs := by
  obtain ⟨vs, h1, h2, h3⟩ := h
  refine .inr ⟨B, 0, rfl, fun k p hp => ?_⟩
  obtain ⟨a', c', e1, e2, e3⟩ := h3 k p hp
  have hk := (List.getElem?_eq_some_iff.1 hp).1
  exact ⟨a', c', by rw [Nat.zero_add, h1.cellAt _ (by omega)]; exact e1, by rw [Nat.zero_add, h1.cellAt _ (by omega)]; exact e2, e3.rd, e3.1.lt⟩
theorem PR.below {w w' : World} {B S n : Nat} {xs : List (List Int × Int)} (h : PR w B S n xs) (hb : Below w.heap.size w w') : PR w' B S n xs := by
  obtain ⟨vs, h1, h2, h3⟩ := h
  refine ⟨vs, ⟨h1.1, ?_⟩, h2, fun k p hp => ?_⟩
  · rcases h1.2 with e | ⟨g, cap, cur, hv, hg, hh, r⟩
    · exact .inl e
    · exact .inr ⟨g, cap, cur, hv, hg, by rw [hb.block g (Array.getElem?_eq_some_iff.1 hh).1]; exact hh, r⟩
  · obtain ⟨a', c', e1, e2, e3⟩ := h3 k p hp
    exact ⟨a', c', e1, e2, e3.below hb⟩
theorem PR.put {w : World} {B S n : Nat} {xs : List (List Int × Int)} (h : PR w B S n xs) {k : Nat} (hk : k < n) {S1 S' : Nat} {a' : Option Addr} {l c' : Nat} {ys : List Int} (hy : OwI w S1 S' a' l c' ys) (hB : B + 1 ≤ S1) (hS : S ≤ S') (x : Int) :
    (∃ old, w.cell? ⟨B, k * 2, none⟩ = some old) ∧ w.frozen? ⟨B, k * 2, none⟩ = false ∧
    (∃ old, (w.setCell ⟨B, k * 2, none⟩ (.slice a' l c')).cell? ⟨B, k * 2 + 1, none⟩ = some old) ∧ (w.setCell ⟨B, k * 2, none⟩ (.slice a' l c')).frozen? ⟨B, k * 2 + 1, none⟩ = false ∧
    PR ((w.setCell ⟨B, k * 2, none⟩ (.slice a' l c')).setCell ⟨B, k * 2 + 1, none⟩ (.int .i64 x)) B S' n (xs.set k (ys, x)) := by
  obtain ⟨vs, h1, h2, h3⟩ := h
  have hlv : vs.length = n * 2 := h1.1
  have s1 := h1.stored (k * 2) (.slice a' l c')
  have s2 := s1.1.stored (k * 2 + 1) (.int .i64 x)
  refine ⟨⟨vs[k * 2]'(by omega), by rw [h1.cellAt _ (by omega)]; exact List.getElem?_eq_getElem (by omega)⟩, h1.frozenAt _,
    ⟨(vs.set (k * 2) (.slice a' l c'))[k * 2 + 1]'(by rw [List.length_set]; omega), by rw [s1.1.cellAt _ (by omega)]; exact List.getElem?_eq_getElem _⟩, s1.1.frozenAt _, _, s2.1, by rw [List.length_set]; exact h2, fun j p hp => ?_⟩
  have hin : ∀ {b : Option Addr} {m d S2 S3 : Nat} {zs : List Int}, B + 1 ≤ S2 → OwI w S2 S3 b m d zs → OwI ((w.setCell ⟨B, k * 2, none⟩ (.slice a' l c')).setCell ⟨B, k * 2 + 1, none⟩ (.int .i64 x)) S2 S3 b m d zs := by
    intro b m d S2 S3 zs hb hz
    exact hz.only ((Only.setCell w B (k * 2) (.slice a' l c') (Nat.le_refl _) (Nat.lt_succ_self _)).trans (Only.setCell _ B (k * 2 + 1) (.int .i64 x) (Nat.le_refl _) (Nat.lt_succ_self _))) (.inr hb)
  rw [List.getElem?_set] at hp
  by_cases hj : k = j
  · subst hj
    rw [if_pos rfl, if_pos (by omega)] at hp
    obtain rfl := Option.some.inj hp
    obtain rfl := hy.len
    refine ⟨a', c', ?_, ?_, ?_⟩
    · rw [List.getElem?_set, if_neg (by omega), List.getElem?_set, if_pos rfl, if_pos (by omega)]
    · rw [List.getElem?_set, if_pos rfl, if_pos (by rw [List.length_set]; omega)]
    · exact (hin hB hy).mono hB (Nat.le_refl _)
  · rw [if_neg hj] at hp
    obtain ⟨a2, c2, e1, e2, e3⟩ := h3 j p hp
    refine ⟨a2, c2, ?_, ?_, (hin (Nat.le_refl _) e3).mono (Nat.le_refl _) hS⟩
    · rw [List.getElem?_set, if_neg (by omega), List.getElem?_set, if_neg (by omega)]; exact e1
    · rw [List.getElem?_set, if_neg (by omega), List.getElem?_set, if_neg (by omega)]; exact e2

def fillP (xs : List (List Int × Int)) (n k : Nat) : List (List Int × Int) := xs.take k ++ List.replicate (n - k) ([], 0)
theorem fillP_length {xs : List (List Int × Int)} {n k : Nat} (h : xs.length = n) (hk : k ≤ n) : (fillP xs n k).length = n := by simp [fillP]; omega
theorem fillP_all {xs : List (List Int × Int)} {n : Nat} (h : xs.length = n) : fillP xs n n = xs := by simp [fillP, ← h]
theorem fillP_succ {xs : List (List Int × Int)} {n k : Nat} {x : List Int × Int} (h : xs.length = n) (hk : k < n) (hx : xs[k]? = some x) : (fillP xs n k).set k x = fillP xs n (k + 1) := by
  subst h
  apply List.ext_getElem?
  intro j
  obtain ⟨_, rfl⟩ := List.getElem?_eq_some_iff.1 hx
  rw [List.getElem?_set]
  by_cases hj : k = j
  · subst hj
    rw [if_pos rfl, if_pos (by rw [fillP_length rfl (by omega)]; exact hk)]
    unfold fillP
    rw [List.getElem?_append_left (by simp; omega), List.getElem?_take, if_pos (by omega), List.getElem?_eq_getElem hk]
  · simp only [if_neg hj, fillP]
    rw [List.getElem?_append, List.getElem?_append]
    simp only [List.length_take, List.getElem?_take, List.getElem?_replicate]
    repeat' split
    all_goals first | rfl | omega
theorem PR.made {w : World} {B n : Nat} {vs : List Value} (h : w.ownsRow B 64 2 (.slice (some ⟨B, 0, none⟩) n n) n vs)
    (hv : ∀ k, k < n → vs[k * 2]? = some (.slice none 0 0) ∧ vs[k * 2 + 1]? = some (.int .i64 0)) : PR w B w.heap.size n (List.replicate n ([], 0)) := by
  refine ⟨vs, h, by simp, fun k p hp => ?_⟩
  rw [List.getElem?_replicate] at hp
  split at hp
  · rename_i hk
    obtain rfl := Option.some.inj hp
    exact ⟨none, 0, (hv k hk).1, (hv k hk).2, ⟨rfl, World.ownsRow_nil _ _ _ _⟩, by simp [Value.ownBlock]⟩
  · cases hp

def Wf_P (xs : List (List Int × Int)) : Prop := ∀ p ∈ xs, (∀ n ∈ p.1, (Lit.int .i64 n).wf = true) ∧ (Lit.int .i64 p.2).wf = true
def sz_P (xs : List (List Int × Int)) : Nat := xs.length + sz_II (heads xs)
def Short_P (xs : List (List Int × Int)) : Prop := ∀ p ∈ xs, p.1.length ≤ 1048576
theorem ms_P_len (xs : List (List Int × Int)) : xs.length ≤ ms_P xs := Nat.le_add_right _ _
theorem ms_P_sz (xs : List (List Int × Int)) : sz_P xs ≤ ms_P xs := Nat.le_refl _
theorem ms_P_short (xs : List (List Int × Int)) (h : ms_P xs ≤ 1048576) : Short_P xs := by
  intro p hp
  have h1 : p.1 ∈ heads xs := List.mem_map_of_mem hp
  have := sz_II_each h1
  unfold ms_P at h
  omega
theorem add_of' (b off k : Nat) : (⟨b, off, none⟩ : Addr).add k = ⟨b, off + k, none⟩ := by
  unfold Addr.add; split <;> simp_all
theorem plain_addr' {w : World} {x : Addr} {v : Value} (h : w.cell? (x.add 0) = some v) : ∃ b off, x = ⟨b, off, none⟩ := by
  obtain ⟨b, off, spot⟩ := x
  have : spot = none := by simpa [Addr.add] using World.cell?_spot h
  exact ⟨b, off, by rw [this]⟩
end Go.Proofs.YtocgcgmlemoekaaGreat

namespace Go.Proofs.YtocgcgmlemoekaaGreat
open Go.RowKit

/-- a slice of pairs, as a call has made it -/
def PO (w : World) (_B _S : Nat) (a : Option Addr) (n _c : Nat) (xs : List (List Int × Int)) : Prop := xs.length = n ∧ RP w a xs
theorem PO.rd {w : World} {B S : Nat} {a : Option Addr} {n c : Nat} {xs : List (List Int × Int)} (h : PO w B S a n c xs) : RP w a xs := h.2
theorem PO.len {w : World} {B S : Nat} {a : Option Addr} {n c : Nat} {xs : List (List Int × Int)} (h : PO w B S a n c xs) : xs.length = n := h.1
theorem PO.below {w w' : World} {B S : Nat} {a : Option Addr} {n c : Nat} {xs : List (List Int × Int)} (h : PO w B S a n c xs) (hb : Below w.heap.size w w') : PO w' B S a n c xs := ⟨h.1, h.2.below hb⟩
theorem Tryz.info64 : (Tryz.prog.info? 64).map (fun i => (i.zero, i.size, i.bytes)) = some (some (.agg #[.slice none 0 0, .int .i64 0]), 2, 32) := by kernel_rfl
theorem madeP_at {n k : Nat} (h : k < n) : (madeCells (Value.agg #[.slice none 0 0, .int .i64 0]).cells (n * 2)).toList[k * 2]? = some (.slice none 0 0) ∧ (madeCells (Value.agg #[.slice none 0 0, .int .i64 0]).cells (n * 2)).toList[k * 2 + 1]? = some (.int .i64 0) := by
  have e1 : k * 2 < n * 2 := by omega
  have e2 : k * 2 + 1 < n * 2 := by omega
  have m1 : (k * 2) % 2 = 0 := by omega
  have m2 : (k * 2 + 1) % 2 = 1 := by omega
  have e : (Value.agg #[.slice none 0 0, .int .i64 0]).cells = #[.slice none 0 0, .int .i64 0] := rfl
  rw [e]
  constructor
  · simp [madeCells, e1]
  · simp [madeCells, e2, m2]

end Go.Proofs.YtocgcgmlemoekaaGreat
