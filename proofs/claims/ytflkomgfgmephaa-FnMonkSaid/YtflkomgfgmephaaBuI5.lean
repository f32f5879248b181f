/-
  slices.SortFunc at impl.Class: the kit's shelf, laid at this program's numbers.
  Slices of pairs of a slice of integers and an integer, for classes beside terms. Printed by a program of ours (clsgen.py) from KP .. KT4.
  Classes put in ascending order of their permutations: slices.SortFunc with the comparison of sortClasses.
  Slices of classes whose row is a call's own and whose lists lie in its blocks, two of them perhaps in one block: read, appended to.
  Classes in ascending order: one such list of them.
-/
import Derived.Test.YtflkomgfgmephaaFacts
import Derived.Shelf.SlSortCmp.NoneTotal
import Derived.Test.YtflkomgfgmephaaSzI
import Derived.StillTailTactics
import Derived.Laws.Rows
import Derived.Test.YtflkomgfgmephaaOpen
import Derived.Deep.SlicePairs
import Derived.Test.YtflkomgfgmephaaBuA
import Derived.Test.YtflkomgfgmephaaBuI2
import Derived.Test.YtflkomgfgmephaaBuB
import Derived.Test.YtflkomgfgmephaaBuH6
import Derived.Test.YtflkomgfgmephaaLessP
import Derived.Test.YtflkomgfgmephaaLess
namespace Go.Proofs.Ytflkomgfgmephaa
open Go.RowKit Go.Shelf

def renSortK : Ren := ⟨fun k => if k = 6 then 84 else if k = 14 then 106 else if k = 15 then 80 else if k = 20 then 128 else if k = 21 then 129 else if k = 22 then 130 else if k = 23 then 131 else if k = 24 then 132 else if k = 25 then 133 else if k = 26 then 134 else if k = 27 then 135 else if k = 28 then 103 else if k = 29 then 104 else if k = 46 then 143 else if k = 47 then 124 else if k = 48 then 125 else if k = 49 then 144 else if k = 50 then 145 else if k = 57 then 148 else 0, fun k => if k = 22 then 44 else if k = 24 then 81 else if k = 25 then 109 else if k = 39 then 50 else if k = 45 then 115 else if k = 46 then 116 else if k = 50 then 120 else if k = 53 then 123 else if k = 55 then 125 else if k = 66 then 137 else if k = 70 then 141 else if k = 76 then 152 else if k = 77 then 153 else k, fun k => k⟩
theorem laysSortK : SlLaysF0.n6 Try.prog renSortK where
  mixed := by kernel_rfl
  f6 := ⟨Try.f84.name, by kernel_rfl, by kernel_rfl⟩
  f14 := ⟨Try.f106.name, by kernel_rfl, by kernel_rfl⟩
  f15 := by kernel_rfl
  f20 := ⟨Try.f128.name, by kernel_rfl, by kernel_rfl⟩
  f21 := ⟨Try.f129.name, by kernel_rfl, by kernel_rfl⟩
  f22 := ⟨Try.f130.name, by kernel_rfl, by kernel_rfl⟩
  f23 := ⟨Try.f131.name, by kernel_rfl, by kernel_rfl⟩
  f24 := ⟨Try.f132.name, by kernel_rfl, by kernel_rfl⟩
  f25 := ⟨Try.f133.name, by kernel_rfl, by kernel_rfl⟩
  f26 := ⟨Try.f134.name, by kernel_rfl, by kernel_rfl⟩
  f27 := ⟨Try.f135.name, by kernel_rfl, by kernel_rfl⟩
  f28 := by kernel_rfl
  f29 := by kernel_rfl
  f46 := ⟨Try.f143.name, by kernel_rfl, by kernel_rfl⟩
  f47 := by kernel_rfl
  f48 := by kernel_rfl
  f49 := ⟨Try.f144.name, by kernel_rfl, by kernel_rfl⟩
  f50 := ⟨Try.f145.name, by kernel_rfl, by kernel_rfl⟩
  f57 := ⟨Try.f148.name, by kernel_rfl, by kernel_rfl⟩
  t0 := by kernel_rfl
  a0 := fun w => by kernel_rfl
  z0 := fun w => by kernel_rfl
  v0 := fun w => by kernel_rfl
  t3 := by kernel_rfl
  a3 := fun w => by kernel_rfl
  z3 := fun w => by kernel_rfl
  v3 := fun w => by kernel_rfl
  t4 := by kernel_rfl
  a4 := fun w => by kernel_rfl
  z4 := fun w => by kernel_rfl
  v4 := fun w => by kernel_rfl
  t5 := by kernel_rfl
  a5 := fun w => by kernel_rfl
  z5 := fun w => by kernel_rfl
  v5 := fun w => by kernel_rfl
  t9 := by kernel_rfl
  a9 := fun w => by kernel_rfl
  z9 := fun w => by kernel_rfl
  v9 := fun w => by kernel_rfl
  t22 := by kernel_rfl
  a22 := fun w => by kernel_rfl
  z22 := fun w => by kernel_rfl
  v22 := fun w => by kernel_rfl
  t25 := by kernel_rfl
  a25 := fun w => by kernel_rfl
  z25 := fun w => by kernel_rfl
  v25 := fun w => by kernel_rfl
  t39 := by kernel_rfl
  a39 := fun w => by kernel_rfl
  z39 := fun w => by kernel_rfl
  v39 := fun w => by kernel_rfl
  t45 := by kernel_rfl
  a45 := fun w => by kernel_rfl
  z45 := fun w => by kernel_rfl
  v45 := fun w => by kernel_rfl
  t46 := by kernel_rfl
  a46 := fun w => by kernel_rfl
  z46 := fun w => by kernel_rfl
  v46 := fun w => by kernel_rfl
  t50 := by kernel_rfl
  a50 := fun w => by kernel_rfl
  z50 := fun w => by kernel_rfl
  v50 := fun w => by kernel_rfl
  t53 := by kernel_rfl
  a53 := fun w => by kernel_rfl
  z53 := fun w => by kernel_rfl
  v53 := fun w => by kernel_rfl
  t55 := by kernel_rfl
  a55 := fun w => by kernel_rfl
  z55 := fun w => by kernel_rfl
  v55 := fun w => by kernel_rfl
  t66 := by kernel_rfl
  a66 := fun w => by kernel_rfl
  z66 := fun w => by kernel_rfl
  v66 := fun w => by kernel_rfl
  t70 := by kernel_rfl
  a70 := fun w => by kernel_rfl
  z70 := fun w => by kernel_rfl
  v70 := fun w => by kernel_rfl
  t76 := by kernel_rfl
  a76 := fun w => by kernel_rfl
  z76 := fun w => by kernel_rfl
  v76 := fun w => by kernel_rfl
  t77 := by kernel_rfl
  a77 := fun w => by kernel_rfl
  z77 := fun w => by kernel_rfl
  v77 := fun w => by kernel_rfl
end Go.Proofs.Ytflkomgfgmephaa

namespace Go.Proofs.Ytflkomgfgmephaa
open Go.RowKit Go.ChangeShapes Go.ChangeAt

abbrev RK := RP
abbrev Wide_K := Wide_P
abbrev Wf_K := Wf_P
abbrev Short_K := Short_P
abbrev sz_K := sz_T
abbrev ms_K := ms_P
abbrev mk_K := mk_T
theorem ms_K_len (xs : List (List Int × Int)) : xs.length ≤ ms_K xs := ms_T_len xs
theorem ms_K_sz (xs : List (List Int × Int)) : sz_K xs ≤ ms_K xs := ms_T_sz xs
theorem ms_K_short (xs : List (List Int × Int)) (h : ms_K xs ≤ 1048576) : Short_K xs := ms_T_short xs h
theorem Try.sizePartK : (Try.prog.info? 81).map (·.size) = some 2 := by kernel_rfl

/-- the row in block B holds the pairs, their slices lie in blocks behind B and below S -/
def PRK (w : World) (B S n : Nat) (xs : List (List Int × Int)) : Prop :=
  ∃ vs, w.ownsRow B 81 2 (.slice (some ⟨B, 0, none⟩) n n) n vs ∧ xs.length = n ∧
    ∀ k p, xs[k]? = some p → ∃ a' c', vs[k * 2]? = some (.slice a' p.1.length c') ∧ vs[k * 2 + 1]? = some (.int .i64 p.2) ∧ OwI w (B + 1) S a' p.1.length c' p.1
theorem PRK.rd {w : World} {B S n : Nat} {xs : List (List Int × Int)} (h : PRK w B S n xs) : RP w (some ⟨B, 0, none⟩) xs := by
  obtain ⟨vs, h1, h2, h3⟩ := h
  refine .inr ⟨B, 0, rfl, fun k p hp => ?_⟩
  obtain ⟨a', c', e1, e2, e3⟩ := h3 k p hp
  have hk := (List.getElem?_eq_some_iff.1 hp).1
  exact ⟨a', c', by rw [Nat.zero_add, h1.cellAt _ (by omega)]; exact e1, by rw [Nat.zero_add, h1.cellAt _ (by omega)]; exact e2, e3.rd, e3.1.lt⟩
theorem PRK.below {w w' : World} {B S n : Nat} {xs : List (List Int × Int)} (h : PRK w B S n xs) (hb : Below w.heap.size w w') : PRK w' B S n xs := by
  obtain ⟨vs, h1, h2, h3⟩ := h
  refine ⟨vs, ⟨h1.1, ?_⟩, h2, fun k p hp => ?_⟩
  · rcases h1.2 with e | ⟨g, cap, cur, hv, hg, hh, r⟩
    · exact .inl e
    · exact .inr ⟨g, cap, cur, hv, hg, by rw [hb.block g (Array.getElem?_eq_some_iff.1 hh).1]; exact hh, r⟩
  · obtain ⟨a', c', e1, e2, e3⟩ := h3 k p hp
    exact ⟨a', c', e1, e2, e3.below hb⟩
theorem PRK.put {w : World} {B S n : Nat} {xs : List (List Int × Int)} (h : PRK w B S n xs) {k : Nat} (hk : k < n) {S1 S' : Nat} {a' : Option Addr} {l c' : Nat} {ys : List Int} (hy : OwI w S1 S' a' l c' ys) (hB : B + 1 ≤ S1) (hS : S ≤ S') (x : Int) :
    (∃ old, w.cell? ⟨B, k * 2, none⟩ = some old) ∧ w.frozen? ⟨B, k * 2, none⟩ = false ∧
    (∃ old, (w.setCell ⟨B, k * 2, none⟩ (.slice a' l c')).cell? ⟨B, k * 2 + 1, none⟩ = some old) ∧ (w.setCell ⟨B, k * 2, none⟩ (.slice a' l c')).frozen? ⟨B, k * 2 + 1, none⟩ = false ∧
    PRK ((w.setCell ⟨B, k * 2, none⟩ (.slice a' l c')).setCell ⟨B, k * 2 + 1, none⟩ (.int .i64 x)) B S' n (xs.set k (ys, x)) := by
  obtain ⟨vs, h1, h2, h3⟩ := h
  have hlv : vs.length = n * 2 := h1.1
  have s1 := h1.stored (k * 2) (.slice a' l c')
  have s2 := s1.1.stored (k * 2 + 1) (.int .i64 x)
  refine ⟨⟨vs[k * 2]'(by omega), by rw [h1.cellAt _ (by omega)]; exact List.getElem?_eq_getElem (by omega)⟩, h1.frozenAt _,
    ⟨(vs.set (k * 2) (.slice a' l c'))[k * 2 + 1]'(by rw [List.length_set]; omega), by rw [s1.1.cellAt _ (by omega)]; exact List.getElem?_eq_getElem _⟩, s1.1.frozenAt _, _, s2.1, by rw [List.length_set]; exact h2, fun j p hp => ?_⟩
  have hin : ∀ {b : Option Addr} {m d S2 S3 : Nat} {zs : List Int}, B + 1 ≤ S2 → OwI w S2 S3 b m d zs → OwI ((w.setCell ⟨B, k * 2, none⟩ (.slice a' l c')).setCell ⟨B, k * 2 + 1, none⟩ (.int .i64 x)) S2 S3 b m d zs := by
    intro b m d S2 S3 zs hb hz
    exact hz.only ((Only.setCell w B (k * 2) (.slice a' l c') (Nat.le_refl _) (Nat.lt_succ_self _)).trans (Only.setCell _ B (k * 2 + 1) (.int .i64 x) (Nat.le_refl _) (Nat.lt_succ_self _))) (.inr hb)
  rw [List.getElem?_set] at hp
  by_cases hj : k = j
  · subst hj
    rw [if_pos rfl, if_pos (by omega)] at hp
    obtain rfl := Option.some.inj hp
    obtain rfl := hy.len
    refine ⟨a', c', ?_, ?_, ?_⟩
    · rw [List.getElem?_set, if_neg (by omega), List.getElem?_set, if_pos rfl, if_pos (by omega)]
    · rw [List.getElem?_set, if_pos rfl, if_pos (by rw [List.length_set]; omega)]
    · exact (hin hB hy).mono hB (Nat.le_refl _)
  · rw [if_neg hj] at hp
    obtain ⟨a2, c2, e1, e2, e3⟩ := h3 j p hp
    refine ⟨a2, c2, ?_, ?_, (hin (Nat.le_refl _) e3).mono (Nat.le_refl _) hS⟩
    · rw [List.getElem?_set, if_neg (by omega), List.getElem?_set, if_neg (by omega)]; exact e1
    · rw [List.getElem?_set, if_neg (by omega), List.getElem?_set, if_neg (by omega)]; exact e2

theorem PRK.made {w : World} {B n : Nat} {vs : List Value} (h : w.ownsRow B 81 2 (.slice (some ⟨B, 0, none⟩) n n) n vs)
    (hv : ∀ k, k < n → vs[k * 2]? = some (.slice none 0 0) ∧ vs[k * 2 + 1]? = some (.int .i64 0)) : PRK w B w.heap.size n (List.replicate n ([], 0)) := by
  refine ⟨vs, h, by simp, fun k p hp => ?_⟩
  rw [List.getElem?_replicate] at hp
  split at hp
  · rename_i hk
    obtain rfl := Option.some.inj hp
    exact ⟨none, 0, (hv k hk).1, (hv k hk).2, ⟨rfl, World.ownsRow_nil _ _ _ _⟩, by simp [Value.ownBlock]⟩
  · cases hp

theorem Try.info81 : (Try.prog.info? 81).map (fun i => (i.zero, i.size, i.bytes)) = some (some (.agg #[.slice none 0 0, .int .i64 0]), 2, 32) := by kernel_rfl
def KO (w : World) (B S : Nat) (a : Option Addr) (n c : Nat) (xs : List (List Int × Int)) : Prop :=
  ∃ vs, w.ownsRow B 81 2 (.slice a n c) n vs ∧ (∀ k, (Value.slice a n c).ownBlock = some k → k < S) ∧ InT w B S vs xs
theorem KO.len {w : World} {B S : Nat} {a : Option Addr} {n c : Nat} {xs : List (List Int × Int)} (h : KO w B S a n c xs) : xs.length = n := by
  obtain ⟨vs, h1, _, h3⟩ := h
  have := h1.1
  have := h3.len
  omega
theorem KO.rd {w : World} {B S : Nat} {a : Option Addr} {n c : Nat} {xs : List (List Int × Int)} (h : KO w B S a n c xs) : RP w a xs := by
  obtain ⟨vs, h1, _, h3⟩ := h
  rcases row2_shape h1 with ⟨_, _, _, hv⟩ | ⟨g, rfl, _, _, _, hc, _⟩
  · left
    have := h3.len
    rw [hv] at this
    simp at this
    exact List.eq_nil_of_length_eq_zero (by omega)
  · refine .inr ⟨g, 0, rfl, fun k p hp => ?_⟩
    obtain ⟨a', c', e1, e2, ho⟩ := h3.each k p hp
    exact ⟨a', c', by rw [Nat.zero_add]; exact hc _ _ e1, by rw [Nat.zero_add]; exact hc _ _ e2, ho.rd, ho.1.lt⟩
theorem KO.only {w w' : World} {B S B' S' : Nat} {a : Option Addr} {n c : Nat} {xs : List (List Int × Int)} (h : KO w B S a n c xs) (ho : Only B' S' w w') (hd : S ≤ B' ∨ S' ≤ B) : KO w' B S a n c xs := by
  obtain ⟨vs, h1, h2, h3⟩ := h
  exact ⟨vs, row2_only h1 h2 ho hd, h2, h3.len, fun k p hp => by obtain ⟨a, c, e1, e2, e3⟩ := h3.each k p hp; exact ⟨a, c, e1, e2, e3.only ho hd⟩, h3.apart⟩
theorem KO.below {w w' : World} {B S : Nat} {a : Option Addr} {n c : Nat} {xs : List (List Int × Int)} (h : KO w B S a n c xs) (hb : Below w.heap.size w w') : KO w' B S a n c xs := h.only (Only.of_below hb) (.inr (Nat.zero_le _))
theorem KO.mono {w : World} {B S B' S' : Nat} {a : Option Addr} {n c : Nat} {xs : List (List Int × Int)} (h : KO w B S a n c xs) (hB : B' ≤ B) (hS : S ≤ S') : KO w B' S' a n c xs := by
  obtain ⟨vs, h1, h2, h3⟩ := h
  refine ⟨vs, ⟨h1.1, ?_⟩, fun k hk => Nat.lt_of_lt_of_le (h2 k hk) hS, h3.len, fun k p hp => by obtain ⟨a, c, e1, e2, e3⟩ := h3.each k p hp; exact ⟨a, c, e1, e2, e3.mono hB hS⟩, h3.apart⟩
  rcases h1.2 with h2 | ⟨g, cap, cur, hv, hg, r⟩
  · exact .inl h2
  · exact .inr ⟨g, cap, cur, hv, Nat.le_trans hB hg, r⟩
theorem KO.lo {w : World} {B S : Nat} {a : Option Addr} {n c : Nat} {xs : List (List Int × Int)} (h : KO w B S a n c xs) : ∀ k, (Value.slice a n c).ownBlock = some k → B ≤ k := by
  obtain ⟨vs, h1, _⟩ := h
  exact fun k hk => (h1.lt k hk).1
theorem KO.nil {w : World} {B S : Nat} : KO w B S none 0 0 [] := ⟨[], ⟨rfl, .inl ⟨rfl, rfl⟩⟩, fun k hk => by simp [Value.ownBlock] at hk, rfl, by simp, by simp⟩
theorem KO.made (w : World) : KO (w.alloc (.cells #[] 81)) w.heap.size (w.alloc (.cells #[] 81)).heap.size (some ⟨w.heap.size, 0, none⟩) 0 0 [] := by
  have h := World.ownsRow_made (base := w.heap.size) (e := 81) (size := 2) w #[] 0 (Nat.le_refl _) (Nat.zero_le _) rfl
  exact ⟨[], h, fun k hk => (h.lt k hk).2, rfl, by simp, by simp⟩
/-- a row of integers lies in another block than a row of terms -/
theorem ne_blockTK {w : World} {B S B' n l : Nat} {a a' : Option Addr} {c c' : Nat} {vs : List Value} {xs : List Int} (h : w.ownsRow B' 81 2 (.slice a n c) n vs) (hi : OwI w B S a' l c' xs) :
    ∀ k, (Value.slice a n c).ownBlock = some k → (Value.slice a' l c').ownBlock ≠ some k := by
  intro k hk hk'
  rcases row2_shape h with ⟨_, rfl, _⟩ | ⟨g, rfl, _, _, _, _, cur, hg⟩
  · cases hk
  · rcases ownsRow_shape hi.1.own with ⟨_, rfl, _⟩ | ⟨g', rfl, _, _, _, cur', hg'⟩
    · cases hk'
    · have e1 : g = k := by simpa [Value.ownBlock] using hk
      have e2 : g' = k := by simpa [Value.ownBlock] using hk'
      subst e1 e2
      rw [hg] at hg'
      simp at hg'
/-- append of one term whose list lies in a newer block than all that are there -/
theorem wpList_pushTK {w W : World} {b : Option Addr} {m d : Nat} {y : Int} (hW : W = w.alloc (.cells #[.slice b m d, .int .i64 y] 81)) {ops : Array Oper} {rest : List Oper} {o : Oper} {ac : Act} {Q : Exit → Act → World → Prop} (hgd : o.guard = none) (s x : Operand)
    (ho : o.op = .call { callee := .builtin .append, args := #[s, x], argTypes := #[44, 44] })
    {B S : Nat} {a : Option Addr} {n c : Nat} {xs : List (List Int × Int)} (hown : KO w B S a n c xs) (hs : ac.eval s = .slice a n c)
    {ys : List Int} {S' : Nat} (hr : OwI w S S' b m d ys) (hBS : B ≤ S) {z : Nat} (hx : ac.eval x = .slice (some ⟨z, 0, none⟩) 1 1) (hz : z = w.heap.size) (hn : n + 1 ≤ 1048576) (hbase : B ≤ w.heap.size) (hS : S ≤ w.heap.size) (hS' : S' ≤ w.heap.size)
    (h : ∀ a' c' w', KO w' B w'.heap.size a' (n + 1) c' (xs ++ [(ys, y)]) → w.grownBy w' (Value.slice a n c).ownBlock → wpList Try.prog ops Q rest (ac.put o.dst (.slice a' (n + 1) c')) w') :
    wpList Try.prog ops Q (o :: rest) ac W := by
  subst hW
  subst hz
  obtain ⟨i0, hi, hz0, hz1, hz2⟩ := info_parts Try.info81
  obtain ⟨vs, h1, h2, h3⟩ := hown
  have hlen := hr.len
  have hvl := h3.len
  have h10 := h1.1
  have h1a := h1.alloc (.cells #[.slice b m d, .int .i64 y] 81)
  refine wpList_append_own _ hgd s x 44 ho B 81 i0 (.agg #[.slice none 0 0, .int .i64 0]) 2 32 Try.underlying44 hi hz0 hz1 hz2 rfl (by decide) _ n vs hs h1a ⟨w.heap.size, 0, none⟩ 1 1 [.slice b m d, .int .i64 y] hx rfl ?_ ?_ (by unfold maxLen; omega) (by omega) (by simp; omega) ?_
  · intro j u hj
    match j, hj with
    | 0, hj => simp at hj; subst hj; simp [Addr.add]
    | 1, hj => simp at hj; subst hj; simp [Addr.add]
  · intro u hu
    simp at hu
    rcases hu with rfl | rfl <;> rfl
  · intro v' w' h4 h5 _
    obtain ⟨a', c', rfl⟩ := slice_ofT h4
    have hg := grownBy.trans (World.grownBy_alloc w (.cells #[.slice b m d, .int .i64 y] 81) (Value.slice a n c).ownBlock) h5
    have hsz := hg.size
    have keep : ∀ {B0 S0 : Nat} {a0 : Option Addr} {l0 c0 : Nat} {zs : List Int}, OwI w B0 S0 a0 l0 c0 zs → OwI w' B0 S0 a0 l0 c0 zs := fun hio => ⟨hio.1.kept hg (fun k hk e => ne_blockTK h1 hio k e hk), hio.2⟩
    have hold : ∀ i v, vs[i * 2]? = some v → ∀ g, v.ownBlock = some g → g < S := by
      intro i v hv g hvg
      have hi := lt_of_some hv
      obtain ⟨p, hp⟩ := some_of (show i < xs.length by omega)
      obtain ⟨a2, c2, e1, _, e3⟩ := h3.each i p hp
      rw [hv] at e1
      obtain rfl := Option.some.inj e1
      exact e3.2 g hvg
    have hnew : ∀ g, (Value.slice b m d).ownBlock = some g → S ≤ g := fun g hg => hr.1.lo g hg
    refine h a' c' w' ⟨vs ++ [.slice b m d, .int .i64 y], h4, fun k hk => (h4.lt k hk).2, by simp; omega, fun k p hp => ?_, ?_⟩ hg
    · rcases Nat.lt_or_ge k xs.length with hk | hk
      · rw [List.getElem?_append_left hk] at hp
        obtain ⟨a2, c2, e1, e2, e3⟩ := h3.each k p hp
        exact ⟨a2, c2, by rw [List.getElem?_append_left (by omega)]; exact e1, by rw [List.getElem?_append_left (by omega)]; exact e2, (keep e3).mono (Nat.le_refl _) (by omega)⟩
      · rw [List.getElem?_append_right hk] at hp
        have hk0 : k - xs.length = 0 := by have := lt_of_some hp; simp at this; omega
        rw [hk0] at hp
        obtain rfl : (ys, y) = p := by simpa using hp
        have hkx : k = xs.length := by omega
        refine ⟨b, d, ?_, ?_, ?_⟩
        · rw [List.getElem?_append_right (by omega), show k * 2 - vs.length = 0 by omega, hlen]; rfl
        · rw [List.getElem?_append_right (by omega), show k * 2 + 1 - vs.length = 1 by omega]; rfl
        · show OwI w' B w'.heap.size b ys.length d ys
          rw [hlen]
          exact (keep hr).mono hBS (by omega)
    · intro i j u v g hu hv hug hvg
      have split : ∀ i u, (vs ++ [Value.slice b m d, .int .i64 y])[i * 2]? = some u → (i * 2 < vs.length ∧ vs[i * 2]? = some u) ∨ (i * 2 = vs.length ∧ u = .slice b m d) := by
        intro i u hu
        rcases Nat.lt_or_ge (i * 2) vs.length with hi | hi
        · rw [List.getElem?_append_left hi] at hu
          exact .inl ⟨hi, hu⟩
        · rw [List.getElem?_append_right hi] at hu
          have hlt := lt_of_some hu
          simp at hlt
          have e0 : i * 2 - vs.length = 0 := by omega
          rw [e0] at hu
          simp at hu
          exact .inr ⟨by omega, hu.symm⟩
      rcases split i u hu with ⟨_, hu⟩ | ⟨e1, rfl⟩ <;> rcases split j v hv with ⟨_, hv⟩ | ⟨e2, rfl⟩
      · exact h3.apart i j u v g hu hv hug hvg
      · have := hold i u hu g hug
        have := hnew g hvg
        omega
      · have := hold j v hv g hvg
        have := hnew g hug
        omega
      · omega

theorem KO.at {w : World} {B S : Nat} {a : Option Addr} {n c : Nat} {xs : List (List Int × Int)} (h : KO w B S a n c xs) (hn : 0 < n) : ∃ g, a = some ⟨g, 0, none⟩ ∧ B ≤ g ∧ g < S := by
  obtain ⟨vs, h1, h2, _⟩ := h
  rcases row2_shape h1 with ⟨h0, _⟩ | ⟨g, rfl, hB, _⟩
  · omega
  · exact ⟨g, rfl, hB, h2 g rfl⟩
/-- one term's parts, and both of them put anew -/
theorem KO.open {w : World} {B S g n c : Nat} {xs : List (List Int × Int)} (h : KO w B S (some ⟨g, 0, none⟩) n c xs) {i : Nat} {p : List Int × Int} (hi : xs[i]? = some p) :
    ∃ a' c', w.cell? ⟨g, i * 2, none⟩ = some (.slice a' p.1.length c') ∧ w.cell? ⟨g, i * 2 + 1, none⟩ = some (.int .i64 p.2) ∧ OwI w B S a' p.1.length c' p.1 ∧
      ∀ w' ys (v : Int), ys.length = p.1.length → OS w' B a' p.1.length c' ys → w.grownBy w' (Value.slice a' p.1.length c').ownBlock →
        w'.cell? ⟨g, i * 2 + 1, none⟩ = some (.int .i64 p.2) ∧ w'.frozen? ⟨g, i * 2 + 1, none⟩ = false ∧
        KO (w'.setCell ⟨g, i * 2 + 1, none⟩ (.int .i64 v)) B S (some ⟨g, 0, none⟩) n c (xs.set i (ys, v)) ∧ w'.grownBy (w'.setCell ⟨g, i * 2 + 1, none⟩ (.int .i64 v)) (some g) := by
  obtain ⟨vs, h1, h2, h3⟩ := h
  obtain ⟨a', c', e1, e2, ho⟩ := h3.each i p hi
  have hlv : vs.length = n * 2 := h1.1
  have hil := lt_of_some hi
  have hln := h3.len
  refine ⟨a', c', (row2_cell h1 e1).1, (row2_cell h1 e2).1, ho, fun w' ys v hl hos hg => ?_⟩
  have h1' := grown_keeps2 h1 hg (fun k hk e => ne_blockTK h1 ho k hk e)
  have s := h1'.stored (i * 2 + 1) (.int .i64 v)
  refine ⟨(row2_cell h1' e2).1, (row2_cell h1' e2).2, ⟨_, s.1, h2, ?_⟩, s.2⟩
  have fin : ∀ {b : Option Addr} {m d : Nat} {zs : List Int}, OwI w' B S b m d zs → OwI (w'.setCell ⟨g, i * 2 + 1, none⟩ (.int .i64 v)) B S b m d zs := fun hio => ⟨hio.1.kept s.2 (fun k hk e => ne_blockTK h1' hio g rfl (by rw [hk, ← Option.some.inj e])), hio.2⟩
  refine ⟨by rw [List.length_set, List.length_set]; exact h3.len, fun k q hq => ?_, ?_⟩
  · rw [List.getElem?_set] at hq
    by_cases hk : i = k
    · subst hk
      rw [if_pos rfl, if_pos hil] at hq
      obtain rfl := Option.some.inj hq
      refine ⟨a', c', ?_, ?_, ?_⟩
      · rw [List.getElem?_set, if_neg (by omega), hl]; exact e1
      · rw [List.getElem?_set, if_pos rfl, if_pos (by omega)]
      · rw [hl]; exact fin ⟨hos, ho.2⟩
    · rw [if_neg hk] at hq
      obtain ⟨a2, c2, e3, e4, ho2⟩ := h3.each k q hq
      refine ⟨a2, c2, ?_, ?_, fin ⟨ho2.1.kept hg (fun r hr e => hk (h3.apart i k _ _ r e1 e3 e hr)), ho2.2⟩⟩
      · rw [List.getElem?_set, if_neg (by omega)]; exact e3
      · rw [List.getElem?_set, if_neg (by omega)]; exact e4
  · intro k j u v' r hu hv
    rw [List.getElem?_set, if_neg (by omega)] at hu hv
    exact h3.apart k j u v' r hu hv

theorem KO.zeros {w : World} {B n : Nat} {vs : List Value} (h : w.ownsRow B 81 2 (.slice (some ⟨B, 0, none⟩) n n) n vs)
    (hv : ∀ k, k < n → vs[k * 2]? = some (.slice none 0 0) ∧ vs[k * 2 + 1]? = some (.int .i64 0)) : KO w B w.heap.size (some ⟨B, 0, none⟩) n n (List.replicate n ([], 0)) := by
  have hl : vs.length = n * 2 := h.1
  refine ⟨vs, h, fun k hk => (h.lt k hk).2, by simp; omega, fun k p hp => ?_, fun i j u v g hu hv' hug _ => ?_⟩
  · rw [List.getElem?_replicate] at hp
    split at hp
    · rename_i hk
      obtain rfl := Option.some.inj hp
      exact ⟨none, 0, (hv k hk).1, (hv k hk).2, ⟨rfl, World.ownsRow_nil _ _ _ _⟩, by simp [Value.ownBlock]⟩
    · cases hp
  · have hi := lt_of_some hu
    rw [(hv i (by omega)).1] at hu
    obtain rfl := Option.some.inj hu
    cases hug
theorem KO.put {w : World} {B S g n c : Nat} {xs : List (List Int × Int)} (h : KO w B S (some ⟨g, 0, none⟩) n c xs) {i : Nat} {p : List Int × Int} (hi : xs[i]? = some p) {S1 S' : Nat} {a' : Option Addr} {l c' : Nat} {ys : List Int} (hy : OwI w S1 S' a' l c' ys) (hS1 : S ≤ S1) (hB : B ≤ S1) (hSS : S ≤ S') (v : Int) :
    (∃ old, w.cell? ⟨g, i * 2, none⟩ = some old) ∧ w.frozen? ⟨g, i * 2, none⟩ = false ∧
    (∃ old, (w.setCell ⟨g, i * 2, none⟩ (.slice a' l c')).cell? ⟨g, i * 2 + 1, none⟩ = some old) ∧ (w.setCell ⟨g, i * 2, none⟩ (.slice a' l c')).frozen? ⟨g, i * 2 + 1, none⟩ = false ∧
    KO ((w.setCell ⟨g, i * 2, none⟩ (.slice a' l c')).setCell ⟨g, i * 2 + 1, none⟩ (.int .i64 v)) B S' (some ⟨g, 0, none⟩) n c (xs.set i (ys, v)) := by
  obtain ⟨vs, h1, h2, h3⟩ := h
  obtain ⟨b0, d0, e1, e2, ho⟩ := h3.each i p hi
  have hlv : vs.length = n * 2 := h1.1
  have hil := lt_of_some hi
  have hln := h3.len
  have s1 := h1.stored (i * 2) (.slice a' l c')
  have s2 := s1.1.stored (i * 2 + 1) (.int .i64 v)
  have e3 : (vs.set (i * 2) (.slice a' l c'))[i * 2 + 1]? = some (.int .i64 p.2) := by rw [List.getElem?_set, if_neg (by omega)]; exact e2
  refine ⟨⟨_, (row2_cell h1 e1).1⟩, (row2_cell h1 e1).2, ⟨_, (row2_cell s1.1 e3).1⟩, (row2_cell s1.1 e3).2, _, s2.1, fun k hk => Nat.lt_of_lt_of_le (h2 k hk) hSS, ?_⟩
  have fin : ∀ {B0 S0 : Nat} {b : Option Addr} {m d : Nat} {zs : List Int}, OwI w B0 S0 b m d zs → OwI ((w.setCell ⟨g, i * 2, none⟩ (.slice a' l c')).setCell ⟨g, i * 2 + 1, none⟩ (.int .i64 v)) B0 S0 b m d zs := fun hio => by
    have i1 : OwI (w.setCell ⟨g, i * 2, none⟩ (.slice a' l c')) _ _ _ _ _ _ := ⟨hio.1.kept s1.2 (fun k hk e => ne_blockTK h1 hio g rfl (by rw [hk, ← Option.some.inj e])), hio.2⟩
    exact ⟨i1.1.kept s2.2 (fun k hk e => ne_blockTK s1.1 i1 g rfl (by rw [hk, ← Option.some.inj e])), i1.2⟩
  have hold : ∀ k u, vs[k * 2]? = some u → ∀ r, u.ownBlock = some r → r < S := by
    intro k u hu r hur
    have hk := lt_of_some hu
    obtain ⟨q, hq⟩ := some_of (show k < xs.length by omega)
    obtain ⟨a2, c2, f1, _, f3⟩ := h3.each k q hq
    rw [hu] at f1
    obtain rfl := Option.some.inj f1
    exact f3.2 r hur
  have hnew : ∀ r, (Value.slice a' l c').ownBlock = some r → S1 ≤ r := fun r hr => hy.1.lo r hr
  refine ⟨by rw [List.length_set, List.length_set, List.length_set]; exact h3.len, fun k q hq => ?_, ?_⟩
  · rw [List.getElem?_set] at hq
    by_cases hk : i = k
    · subst hk
      rw [if_pos rfl, if_pos hil] at hq
      obtain rfl := Option.some.inj hq
      obtain rfl := hy.len
      refine ⟨a', c', ?_, ?_, ?_⟩
      · rw [List.getElem?_set, if_neg (by omega), List.getElem?_set, if_pos rfl, if_pos (by omega)]
      · rw [List.getElem?_set, if_pos rfl, if_pos (by rw [List.length_set]; omega)]
      · exact (fin hy).mono hB (Nat.le_refl _)
    · rw [if_neg hk] at hq
      obtain ⟨a2, c2, f1, f2, ho2⟩ := h3.each k q hq
      refine ⟨a2, c2, ?_, ?_, (fin ho2).mono (Nat.le_refl _) hSS⟩
      · rw [List.getElem?_set, if_neg (by omega), List.getElem?_set, if_neg (by omega)]; exact f1
      · rw [List.getElem?_set, if_neg (by omega), List.getElem?_set, if_neg (by omega)]; exact f2
  · have split : ∀ k u, ((vs.set (i * 2) (.slice a' l c')).set (i * 2 + 1) (.int .i64 v))[k * 2]? = some u → (k ≠ i ∧ vs[k * 2]? = some u) ∨ (k = i ∧ u = .slice a' l c') := by
      intro k u hu
      rw [List.getElem?_set, if_neg (by omega), List.getElem?_set] at hu
      by_cases hk : i = k
      · subst hk
        rw [if_pos rfl, if_pos (by omega)] at hu
        exact .inr ⟨rfl, (Option.some.inj hu).symm⟩
      · rw [if_neg (by omega)] at hu
        exact .inl ⟨fun e => hk e.symm, hu⟩
    intro k j u v' r hu hv hur hvr
    rcases split k u hu with ⟨_, hu2⟩ | ⟨ei, eu⟩ <;> rcases split j v' hv with ⟨_, hv2⟩ | ⟨ej, ev⟩
    · exact h3.apart k j u v' r hu2 hv2 hur hvr
    · rw [ev] at hvr
      have := hold k u hu2 r hur
      have := hnew r hvr
      omega
    · rw [eu] at hur
      have := hold j v' hv2 r hvr
      have := hnew r hur
      omega
    · omega

end Go.Proofs.Ytflkomgfgmephaa

namespace Go.Proofs.Ytflkomgfgmephaa
open Go.RowKit Go.Shelf Go.Sort

theorem sizeOf_Class (w : World) : (Go.sizeOf 81).run Try.prog w = .ok 2 w := by kernel_rfl
theorem isAgg_Class (w : World) : (isAgg 81).run Try.prog w = .ok true w := by kernel_rfl
theorem sortXK_any {n : Nat} (cf : Ix n → Ix n → Int) (hO : SWO (ltOf cf)) (hT : ∀ x y, (ltOf cf) x y = false → (ltOf cf) y x = false → x = y)
    (f : Nat) (ef : ∀ args w, (callFunc f args).run Try.prog w = .ok (.enter f args) w) (B S g c : Nat) (vs : List Value) (w : World) (ho : w.ownsRow B 81 2 (.slice (some ⟨g, 0, none⟩) n c) n vs) (_hS : g < S) (hpos : 0 < n)
    (h1 : ∀ v ∈ vs, v.oneCell' = true) (hcmp : ∀ (W : World), w.grownBy W (some g) → ∀ x y : Ix n, Calls Try.prog f #[.agg (encX vs x).toArray, .agg (encX vs y).toArray] W fun e w' => e = .returned (.int .i64 (cf x y)) ∧ Laid W w') (hb : n ≤ 1048576) :
    Calls Try.prog 84 #[.slice (some ⟨g, 0, none⟩) n c, .func (.func f) #[] #[]] w fun e w' => e = .returned (.tuple #[]) ∧
      w'.ownsRow B 81 2 (.slice (some ⟨g, 0, none⟩) n c) n (flatX vs ((allX n).mergeSort fun x y => !(ltOf cf) y x)) ∧ w.grownBy w' (some g) := by
  haveI : Inhabited (Ix n) := ⟨⟨0, hpos⟩⟩
  have hvl := ho.1
  rcases ho.2 with ⟨_, h2⟩ | ⟨g', cap, cur, hv, hg, hh, hn, hm, hs, ht⟩
  · omega
  · simp only [Value.slice.injEq, Option.some.injEq, Addr.mk.injEq] at hv
    obtain ⟨⟨rfl, _⟩, _, rfl⟩ := hv
    have hgz : g < w.heap.size := (Array.getElem?_eq_some_iff.1 hh).1
    have hll : (allX n).toArray.size = n := by simp [allX_length]
    have hfl : flatK (encX vs) 2 (allX n).toArray = vs.toArray := by rw [flat_X, flatX_all hvl]
    have hH : HoldsK (encX vs) 2 w g 0 (allX n).toArray := by
      unfold HoldsK
      rw [hfl]
      intro j hj
      have hj' : j < n * 2 := by simpa [hvl] using hj
      rw [Nat.zero_add]
      refine ⟨?_, ho.frozenAt _⟩
      rw [ho.cellAt _ (by simpa using hj')]
      simp [hvl, hj']
    have h1' : ∀ (x : Ix n), ∀ v ∈ encX vs x, v.oneCell' = true := by
      intro x v hv
      have hx := x.2
      have hget : ∀ t, t < vs.length → vs.getD t undef ∈ vs := fun t ht => by rw [List.getD_eq_getElem?_getD, List.getElem?_eq_getElem ht]; exact List.getElem_mem ht
      simp only [encX, List.mem_cons, List.not_mem_nil, or_false] at hv
      rcases hv with rfl | rfl
      · exact h1 _ (hget _ (by omega))
      · exact h1 _ (hget _ (by omega))
    have key := AnyQ.slices_SortFunc_total laysSortK 2 isAgg_Class sizeOf_Class (encX vs) (fun _ => rfl) h1' cf hO f #[] g 0 c (allX n).toArray w ef
      (by
        intro m os dk hdk x y
        refine (hcmp _ ?_ x y).mono ?_
        · unfold sortWorldK putRowK
          exact grownBy_sortedV _
        · rintro e w' ⟨he, q, os', hw⟩
          exact ⟨he, q, os', hw⟩) hH hgz (by rw [hll]; omega) hT
    rw [hll] at key
    refine Calls.mono key ?_
    rintro e w' ⟨rfl, m, os, rfl⟩
    generalize hso : ((allX n).mergeSort fun x y => !(ltOf cf) y x) = so
    have hsl : so.length = n := by rw [← hso, List.length_mergeSort, allX_length]
    have hlen : (flatX vs so).length = n * 2 := by rw [flatX_length, hsl]
    have hnew := heap_sortedV (n := m) (os := os) (flatX vs so).toArray hh
    have hgr := grownBy_sortedV (w := w) (g := g) (n := m) (os := os) (flatX vs so).toArray
    unfold sortWorldK putRowK
    rw [flat_X]
    refine ⟨rfl, ⟨hlen, .inr ⟨g, c, _, rfl, hg, hnew, hn, hm, by simp [putCells, hs], ?_⟩⟩, hgr⟩
    rw [← hlen]
    exact take_putCellsV cur _ (by rw [hlen, hs]; exact Nat.mul_le_mul_right 2 hn)

set_option maxRecDepth 100000 in
set_option maxHeartbeats 800000 in
theorem clsCmp_any (a b : Option Addr) (n m c d : Nat) (x y : Int) (xs ys : List Int) (w : World) (hr : RI w a xs) (hs : RI w b ys) (hn : xs.length = n) (hm : ys.length = m) (hb : n ≤ 1048576) (hb2 : m ≤ 1048576) :
    Calls Try.prog 85 #[.agg #[.slice a n c, .int .i64 x], .agg #[.slice b m d, .int .i64 y]] w fun e w' => e = .returned (.int .i64 (order xs ys)) ∧ Laid w w' := by
  have hL := ((Laid.refl w).alloc (.cells #[.slice a n c, .int .i64 x] 81)).alloc (.cells #[.slice b m d, .int .i64 y] 81)
  have hB := ((Below.refl w.heap.size w).alloc (Nat.le_refl _) (.cells #[.slice a n c, .int .i64 x] 81)).alloc (by simp only [World.alloc, Array.size_push]; omega) (.cells #[.slice b m d, .int .i64 y] 81)
  have hr1 := hr.below hB
  have hs1 := hs.below hB
  have HL := Lib.hid hL
  have Hn := Lib.hid hn
  have Hm := Lib.hid hm
  obtain ⟨R, hR⟩ : ∃ R, order xs ys = R := ⟨_, rfl⟩
  rw [hR]
  have HR := Lib.hid hR
  clear hL hB hn hm hR
  go_enter Try.func85, Try.ntmps85
  go_wp2_with fail
  refine (isInt (compare_any _ _ _ _ _ _ xs ys _ hr1 hs1 Hn.out Hm.out (by omega) (by omega)) HR.out).mono ?_
  rintro e w1 ⟨rfl, hw⟩
  subst hw
  go_wp2
  go_ret
  exact ⟨rfl, HL.out⟩
/-- lists of moderate length, no two alike -/
structure GoodK (xs : List (List Int × Int)) : Prop where
  each : ∀ p ∈ xs, p.1.length ≤ 1048576
  apart : ∀ (i j : Nat) (p q : List Int × Int), xs[i]? = some p → xs[j]? = some q → p.1 = q.1 → i = j
theorem sortClsF_any (B S : Nat) (a : Option Addr) (n c : Nat) (xs : List (List Int × Int)) (w : World) (ho : KO w B S a n c xs) (hg : GoodK xs) (hb : n ≤ 1048576) :
    Calls Try.prog 84 #[.slice a n c, .func (.func 85) #[] #[]] w fun e w' => e = .returned (.tuple #[]) ∧
      ∃ xs', xs'.Perm xs ∧ xs'.Pairwise (fun p q => less p.1 q.1 = true) ∧ KO w' B S a n c xs' ∧ Only B S w w' := by
  have hlen := ho.len
  rcases Nat.eq_zero_or_pos n with h0 | h0
  · subst h0
    have hx : xs = [] := List.length_eq_zero_iff.1 hlen
    subst hx
    refine Calls.mono (AnyF.slices_SortFunc_none laysSortK a c _ w) ?_
    rintro e w' ⟨rfl, rfl⟩
    exact ⟨rfl, [], List.Perm.refl _, List.Pairwise.nil, ho, Only.refl _ _ _⟩
  obtain ⟨vs, h1, h2, h3⟩ := ho
  rcases row2_shape h1 with ⟨hn0, _⟩ | ⟨g, rfl, hBg, hgw, hnc, hcell, cur, hcur⟩
  · omega
  have hgS : g < S := h2 g rfl
  have hvl := h3.len
  have ev : ∀ k, k < n → ∃ a' c', vs.getD (k * 2) undef = .slice a' (termOfT xs k).1.length c' ∧ vs.getD (k * 2 + 1) undef = .int .i64 (termOfT xs k).2 ∧ OwI w B S a' (termOfT xs k).1.length c' (termOfT xs k).1 := by
    intro k hk
    have hx := termT_ex hlen hk
    obtain ⟨a', c', e1, e2, e3⟩ := h3.each k _ hx
    exact ⟨a', c', by rw [List.getD_eq_getElem?_getD, e1]; rfl, by rw [List.getD_eq_getElem?_getD, e2]; rfl, e3⟩
  have hdig : ∀ k, k < n → (termOfT xs k).1.length ≤ 1048576 := fun k hk => hg.each _ (List.mem_of_getElem? (termT_ex hlen hk))
  let cf : Ix n → Ix n → Int := fun i j => order (termOfT xs i.1).1 (termOfT xs j.1).1
  have hlt : ∀ i j : Ix n, ltOf cf i j = less (termOfT xs i.1).1 (termOfT xs j.1).1 := by
    intro i j
    rw [less_order]
    rfl
  have hO : SWO (ltOf cf) := by
    refine ⟨fun x => ?_, fun x y z p q => ?_, fun x y z p q => ?_⟩
    · rw [hlt]; exact less_irrefl _
    · rw [hlt] at *; exact less_trans p q
    · rw [hlt] at *; exact less_neg p q
  have hT : ∀ x y : Ix n, ltOf cf x y = false → ltOf cf y x = false → x = y := by
    intro x y p q
    rw [hlt] at *
    exact Subtype.ext (hg.apart x.1 y.1 _ _ (termT_ex hlen x.2) (termT_ex hlen y.2) (less_total p q))
  have hone : ∀ v ∈ vs, v.oneCell' = true := by
    intro v hv
    obtain ⟨t, ht⟩ := List.getElem?_of_mem hv
    have htl := lt_of_some ht
    obtain ⟨a', c', e1, e2, _⟩ := ev (t / 2) (by omega)
    have hvd : vs.getD t undef = v := by rw [List.getD_eq_getElem?_getD, ht]; rfl
    rcases Nat.mod_two_eq_zero_or_one t with hm | hm
    · have e : t / 2 * 2 = t := by omega
      rw [e, hvd] at e1
      rw [e1]; rfl
    · have e : t / 2 * 2 + 1 = t := by omega
      rw [e, hvd] at e2
      rw [e2]; rfl
  have hcmp : ∀ (W : World), w.grownBy W (some g) → ∀ x y : Ix n, Calls Try.prog 85 #[.agg (encX vs x).toArray, .agg (encX vs y).toArray] W fun e w' => e = .returned (.int .i64 (cf x y)) ∧ Laid W w' := by
    intro W hW x y
    obtain ⟨a1, c1, e1, e2, e3⟩ := ev x.1 x.2
    obtain ⟨a2, c2, f1, f2, f3⟩ := ev y.1 y.2
    have keep : ∀ {a0 : Option Addr} {l0 c0 : Nat} {zs : List Int}, OwI w B S a0 l0 c0 zs → RI W a0 zs := fun hio => (hio.1.kept hW (fun k hk e => ne_blockTK h1 hio k e hk)).ri
    unfold encX
    rw [e1, e2, f1, f2]
    exact clsCmp_any a1 a2 _ _ c1 c2 _ _ _ _ W (keep e3) (keep f3) rfl rfl (hdig x.1 x.2) (hdig y.1 y.2)
  refine (sortXK_any cf hO hT 85 (fun args w => by kernel_rfl) B S g c vs w h1 hgS h0 hone hcmp hb).mono ?_
  rintro e w' ⟨rfl, hown, hgr⟩
  generalize hso : ((allX n).mergeSort fun x y => !(ltOf cf) y x) = so at hown
  have hperm : so.Perm (allX n) := by rw [← hso]; exact List.mergeSort_perm _ _
  have hsl : so.length = n := by rw [hperm.length_eq, allX_length]
  have hsorted : so.Pairwise fun x y => (!(ltOf cf) y x) = true := by
    rw [← hso]
    refine List.pairwise_mergeSort (fun x y z p q => ?_) (fun x y => ?_) _
    · simp only [Bool.not_eq_true'] at *
      rw [hlt] at *
      exact less_neg q p
    · simp only [Bool.or_eq_true, Bool.not_eq_true']
      rw [hlt, hlt]
      cases h1 : less (termOfT xs y.1).1 (termOfT xs x.1).1 with
      | false => exact .inl rfl
      | true =>
        right
        cases h2 : less (termOfT xs x.1).1 (termOfT xs y.1).1 with
        | false => rfl
        | true => have := less_trans h1 h2; rw [less_irrefl] at this; cases this
  have hnd : so.Nodup := by
    rw [hperm.nodup_iff]
    have h9 : ((allX n).map fun i => i.1).Nodup := by rw [allX_val]; exact List.nodup_range
    rw [List.Nodup, List.pairwise_map] at h9
    exact h9.imp fun h e => h (by rw [e])
  have hxs : (allX n).map (fun i => termOfT xs i.1) = xs := by
    have : (allX n).map (fun i => termOfT xs i.1) = (List.range n).map (termOfT xs) := by rw [← allX_val n, List.map_map]; rfl
    rw [this]
    apply List.ext_getElem?
    intro k
    rcases Nat.lt_or_ge k n with hk | hk
    · rw [List.getElem?_map, List.getElem?_range hk, termT_ex hlen hk]; rfl
    · rw [List.getElem?_eq_none (by simp; omega), List.getElem?_eq_none (by omega)]
  refine ⟨rfl, so.map (fun i => termOfT xs i.1), ?_, ?_, ⟨_, hown, h2, ?_, ?_, ?_⟩, ?_⟩
  · have := hperm.map (fun i : Ix n => termOfT xs i.1)
    rw [hxs] at this
    exact this
  · rw [List.pairwise_map]
    refine (hsorted.and hnd).imp fun {x y} ⟨p, q⟩ => ?_
    simp only [Bool.not_eq_true'] at p
    rw [hlt] at p
    cases h2 : less (termOfT xs x.1).1 (termOfT xs y.1).1 with
    | true => rfl
    | false => exact absurd (Subtype.ext (hg.apart x.1 y.1 _ _ (termT_ex hlen x.2) (termT_ex hlen y.2) (less_total h2 p))) q
  · rw [flatX_length, List.length_map]
  · intro k p hp
    rw [List.getElem?_map] at hp
    obtain ⟨i, hi, rfl⟩ := Option.map_eq_some_iff.1 hp
    obtain ⟨f1, f2⟩ := flatX_at vs so k i hi
    obtain ⟨a', c', e1, e2, e3⟩ := ev i.1 i.2
    rw [e1] at f1
    rw [e2] at f2
    refine ⟨a', c', ?_, f2, ?_⟩
    · exact f1
    · exact ⟨e3.1.kept hgr (fun k hk e => ne_blockTK h1 e3 k e hk), e3.2⟩
  · intro i j u v b hu hv hub hvb
    have get : ∀ i u, (flatX vs so)[i * 2]? = some u → ∃ x : Ix n, so[i]? = some x ∧ vs[x.1 * 2]? = some u := by
      intro i u hu
      have hil := lt_of_some hu
      rw [flatX_length, hsl] at hil
      obtain ⟨x, hx⟩ := some_of (show i < so.length by omega)
      obtain ⟨f1, _⟩ := flatX_at vs so i x hx
      rw [hu] at f1
      refine ⟨x, hx, ?_⟩
      have hx2 := x.2
      rw [List.getD_eq_getElem?_getD] at f1
      have hlt2 : x.1 * 2 < vs.length := by omega
      rw [List.getElem?_eq_getElem hlt2] at f1 ⊢
      rw [f1]
      rfl
    obtain ⟨x, hx, hxu⟩ := get i u hu
    obtain ⟨y, hy, hyv⟩ := get j v hv
    have hxy := h3.apart x.1 y.1 u v b hxu hyv hub hvb
    have : x = y := Subtype.ext hxy
    subst this
    obtain ⟨hi, rfl⟩ := List.getElem?_eq_some_iff.1 hx
    obtain ⟨hj, hje⟩ := List.getElem?_eq_some_iff.1 hy
    have hpw := List.pairwise_iff_getElem.1 hnd
    rcases Nat.lt_trichotomy i j with h | h | h
    · exact absurd hje.symm (hpw i j hi hj h)
    · exact h
    · exact absurd hje (hpw j i hj hi h)
  · exact Only.of_grown (v := .slice (some ⟨g, 0, none⟩) n c) hgr (fun k hk => by simp [Value.ownBlock] at hk; omega) (fun k hk => by simp [Value.ownBlock] at hk; omega)

theorem sortCls_any (B S : Nat) (a : Option Addr) (n c : Nat) (xs : List (List Int × Int)) (w : World) (ho : KO w B S a n c xs) (hg : GoodK xs) (hb : n ≤ 1048576) :
    Calls Try.prog 53 #[.slice a n c] w fun e w' => e = .returned (.tuple #[]) ∧
      ∃ xs', xs'.Perm xs ∧ xs'.Pairwise (fun p q => less p.1 q.1 = true) ∧ KO w' B S a n c xs' ∧ Only B S w w' := by
  have Ho := Lib.hid ho
  have Hg := Lib.hid hg
  clear ho hg
  go_enter Try.func53, Try.ntmps53
  go_wp2_with fail
  refine (sortClsF_any B S a n c xs _ Ho.out Hg.out hb).mono ?_
  rintro e w1 ⟨rfl, HV⟩
  have HV := Lib.hid HV
  go_wp2
  go_end0
  exact ⟨rfl, HV.out⟩
end Go.Proofs.Ytflkomgfgmephaa

namespace Go.Proofs.Ytflkomgfgmephaa
open Go.RowKit

structure InN (w : World) (B S : Nat) (vs : List Value) (xs : List (List Int × Int)) : Prop where
  len : vs.length = xs.length * 2
  each : ∀ (k : Nat) (p : List Int × Int), xs[k]? = some p → ∃ (a : Option Addr) (c : Nat), vs[k * 2]? = some (Value.slice a p.1.length c) ∧ vs[k * 2 + 1]? = some (Value.int .i64 p.2) ∧ OwI w B S a p.1.length c p.1
def KN (w : World) (B S : Nat) (a : Option Addr) (n c : Nat) (xs : List (List Int × Int)) : Prop :=
  ∃ vs, w.ownsRow B 81 2 (.slice a n c) n vs ∧ (∀ k, (Value.slice a n c).ownBlock = some k → k < S) ∧ InN w B S vs xs
theorem KN.len {w : World} {B S : Nat} {a : Option Addr} {n c : Nat} {xs : List (List Int × Int)} (h : KN w B S a n c xs) : xs.length = n := by
  obtain ⟨vs, h1, _, h3⟩ := h
  have := h1.1
  have := h3.len
  omega
theorem KN.rd {w : World} {B S : Nat} {a : Option Addr} {n c : Nat} {xs : List (List Int × Int)} (h : KN w B S a n c xs) : RP w a xs := by
  obtain ⟨vs, h1, _, h3⟩ := h
  rcases row2_shape h1 with ⟨_, _, _, hv⟩ | ⟨g, rfl, _, _, _, hc, _⟩
  · left
    have := h3.len
    rw [hv] at this
    simp at this
    exact List.eq_nil_of_length_eq_zero (by omega)
  · refine .inr ⟨g, 0, rfl, fun k p hp => ?_⟩
    obtain ⟨a', c', e1, e2, ho⟩ := h3.each k p hp
    exact ⟨a', c', by rw [Nat.zero_add]; exact hc _ _ e1, by rw [Nat.zero_add]; exact hc _ _ e2, ho.rd, ho.1.lt⟩
theorem KN.only {w w' : World} {B S B' S' : Nat} {a : Option Addr} {n c : Nat} {xs : List (List Int × Int)} (h : KN w B S a n c xs) (ho : Only B' S' w w') (hd : S ≤ B' ∨ S' ≤ B) : KN w' B S a n c xs := by
  obtain ⟨vs, h1, h2, h3⟩ := h
  exact ⟨vs, row2_only h1 h2 ho hd, h2, h3.len, fun k p hp => by obtain ⟨a, c, e1, e2, e3⟩ := h3.each k p hp; exact ⟨a, c, e1, e2, e3.only ho hd⟩⟩
theorem KN.below {w w' : World} {B S : Nat} {a : Option Addr} {n c : Nat} {xs : List (List Int × Int)} (h : KN w B S a n c xs) (hb : Below w.heap.size w w') : KN w' B S a n c xs := h.only (Only.of_below hb) (.inr (Nat.zero_le _))
theorem KN.mono {w : World} {B S B' S' : Nat} {a : Option Addr} {n c : Nat} {xs : List (List Int × Int)} (h : KN w B S a n c xs) (hB : B' ≤ B) (hS : S ≤ S') : KN w B' S' a n c xs := by
  obtain ⟨vs, h1, h2, h3⟩ := h
  refine ⟨vs, ⟨h1.1, ?_⟩, fun k hk => Nat.lt_of_lt_of_le (h2 k hk) hS, h3.len, fun k p hp => by obtain ⟨a, c, e1, e2, e3⟩ := h3.each k p hp; exact ⟨a, c, e1, e2, e3.mono hB hS⟩⟩
  rcases h1.2 with h2 | ⟨g, cap, cur, hv, hg, r⟩
  · exact .inl h2
  · exact .inr ⟨g, cap, cur, hv, Nat.le_trans hB hg, r⟩
theorem KN.lo {w : World} {B S : Nat} {a : Option Addr} {n c : Nat} {xs : List (List Int × Int)} (h : KN w B S a n c xs) : ∀ k, (Value.slice a n c).ownBlock = some k → B ≤ k := by
  obtain ⟨vs, h1, _⟩ := h
  exact fun k hk => (h1.lt k hk).1
theorem KN.nil {w : World} {B S : Nat} : KN w B S none 0 0 [] := ⟨[], ⟨rfl, .inl ⟨rfl, rfl⟩⟩, fun k hk => by simp [Value.ownBlock] at hk, rfl, by simp⟩
theorem KN.made (w : World) : KN (w.alloc (.cells #[] 81)) w.heap.size (w.alloc (.cells #[] 81)).heap.size (some ⟨w.heap.size, 0, none⟩) 0 0 [] := by
  have h := World.ownsRow_made (base := w.heap.size) (e := 81) (size := 2) w #[] 0 (Nat.le_refl _) (Nat.zero_le _) rfl
  exact ⟨[], h, fun k hk => (h.lt k hk).2, rfl, by simp⟩
theorem KO.kn {w : World} {B S : Nat} {a : Option Addr} {n c : Nat} {xs : List (List Int × Int)} (h : KO w B S a n c xs) : KN w B S a n c xs := by
  obtain ⟨vs, h1, h2, h3⟩ := h
  exact ⟨vs, h1, h2, h3.len, h3.each⟩
/-- the append itself -/
theorem run_pushN {w : World} {ty : TypeId} {b : Option Addr} {m d : Nat} {y : Int} {B S : Nat} {a : Option Addr} {n c : Nat} {xs : List (List Int × Int)} (hown : KN w B S a n c xs)
    {ys : List Int} {B0 S0 : Nat} (hr : OwI w B0 S0 b m d ys) (hB0 : B ≤ B0) (hn : n + 1 ≤ 1048576) (hbase : B ≤ w.heap.size) (hS : S ≤ w.heap.size) (hS0 : S0 ≤ w.heap.size) :
    ∃ a' c' w', (Builtin.append_ #[44, 44] ty #[.slice a n c, .slice (some ⟨w.heap.size, 0, none⟩) 1 1]).run Try.prog (w.alloc (.cells #[.slice b m d, .int .i64 y] 81)) = .ok (.slice a' (n + 1) c') w' ∧ KN w' B w'.heap.size a' (n + 1) c' (xs ++ [(ys, y)]) ∧ w.grownBy w' (Value.slice a n c).ownBlock := by
  obtain ⟨i0, hi, hz0, hz1, hz2⟩ := info_parts Try.info81
  obtain ⟨vs, h1, h2, h3⟩ := hown
  have hlen := hr.len
  have hvl := h3.len
  have h10 := h1.1
  have h1a := h1.alloc (.cells #[.slice b m d, .int .i64 y] 81)
  obtain ⟨v', w', hrun, h4, h5, _⟩ := run_append_own (P := Try.prog) (w.alloc (.cells #[.slice b m d, .int .i64 y] 81)) B 44 ty 81 i0 (.agg #[.slice none 0 0, .int .i64 0]) 2 32 Try.underlying44 hi hz0 hz1 hz2 rfl (by decide) (.slice a n c) n vs h1a ⟨w.heap.size, 0, none⟩ 1 1 [.slice b m d, .int .i64 y] rfl
    (by
      intro j u hj
      match j, hj with
      | 0, hj => simp at hj; subst hj; simp [Addr.add]
      | 1, hj => simp at hj; subst hj; simp [Addr.add])
    (by
      intro u hu
      simp at hu
      rcases hu with rfl | rfl <;> rfl) (by unfold maxLen; omega) (by omega) (by simp; omega)
  obtain ⟨a', c', rfl⟩ := slice_ofT h4
  have hg := grownBy.trans (World.grownBy_alloc w (.cells #[.slice b m d, .int .i64 y] 81) (Value.slice a n c).ownBlock) h5
  have hsz := hg.size
  have keep : ∀ {B0 S0 : Nat} {a0 : Option Addr} {l0 c0 : Nat} {zs : List Int}, OwI w B0 S0 a0 l0 c0 zs → OwI w' B0 S0 a0 l0 c0 zs := fun hio => ⟨hio.1.kept hg (fun k hk e => ne_blockTK h1 hio k e hk), hio.2⟩
  refine ⟨a', c', w', hrun, ⟨vs ++ [.slice b m d, .int .i64 y], h4, fun k hk => (h4.lt k hk).2, by simp; omega, fun k p hp => ?_⟩, hg⟩
  rcases Nat.lt_or_ge k xs.length with hk | hk
  · rw [List.getElem?_append_left hk] at hp
    obtain ⟨a2, c2, e1, e2, e3⟩ := h3.each k p hp
    exact ⟨a2, c2, by rw [List.getElem?_append_left (by omega)]; exact e1, by rw [List.getElem?_append_left (by omega)]; exact e2, (keep e3).mono (Nat.le_refl _) (by omega)⟩
  · rw [List.getElem?_append_right hk] at hp
    have hk0 : k - xs.length = 0 := by have := lt_of_some hp; simp at this; omega
    rw [hk0] at hp
    obtain rfl : (ys, y) = p := by simpa using hp
    have hkx : k = xs.length := by omega
    refine ⟨b, d, ?_, ?_, ?_⟩
    · rw [List.getElem?_append_right (by omega), show k * 2 - vs.length = 0 by omega, hlen]; rfl
    · rw [List.getElem?_append_right (by omega), show k * 2 + 1 - vs.length = 1 by omega]; rfl
    · show OwI w' B w'.heap.size b ys.length d ys
      rw [hlen]
      exact (keep hr).mono hB0 (by omega)
theorem wpList_pushN {w W : World} {b : Option Addr} {m d : Nat} {y : Int} (hW : W = w.alloc (.cells #[.slice b m d, .int .i64 y] 81)) {ops : Array Oper} {rest : List Oper} {o : Oper} {ac : Act} {Q : Exit → Act → World → Prop} (hgd : o.guard = none) (s x : Operand)
    (ho : o.op = .call { callee := .builtin .append, args := #[s, x], argTypes := #[44, 44] })
    {B S : Nat} {a : Option Addr} {n c : Nat} {xs : List (List Int × Int)} (hown : KN w B S a n c xs) (hs : ac.eval s = .slice a n c)
    {ys : List Int} {B0 S0 : Nat} (hr : OwI w B0 S0 b m d ys) (hB0 : B ≤ B0) {z : Nat} (hx : ac.eval x = .slice (some ⟨z, 0, none⟩) 1 1) (hz : z = w.heap.size) (hn : n + 1 ≤ 1048576) (hbase : B ≤ w.heap.size) (hS : S ≤ w.heap.size) (hS0 : S0 ≤ w.heap.size)
    (h : ∀ a' c' w', KN w' B w'.heap.size a' (n + 1) c' (xs ++ [(ys, y)]) → w.grownBy w' (Value.slice a n c).ownBlock → wpList Try.prog ops Q rest (ac.put o.dst (.slice a' (n + 1) c')) w') :
    wpList Try.prog ops Q (o :: rest) ac W :=
  wpList_plain hgd fun _ hK => by
    subst hW
    subst hz
    obtain ⟨a', c', w', hrun, h2, h3⟩ := run_pushN (ty := o.type) (y := y) hown hr hB0 hn hbase hS hS0
    unfold Oper.wp execOp
    simp only [ho, resolve, invoke, builtin, Sem.run_bind, Sem.run_pure, Result.andThen_ok, List.map_toArray, List.map_cons, List.map_nil, hs, hx, hrun]
    exact hK _ _ (h a' c' w' h2 h3)
theorem step_pushN {w W : World} {b : Option Addr} {m d : Nat} {y : Int} (hW : W = w.alloc (.cells #[.slice b m d, .int .i64 y] 81)) {ops : Array Oper} {o : Oper} {ac : Act} {K : Act → World → Prop} {Q : Exit → Act → World → Prop} (hwant : Region.wanted o (yielded ops ac.tmps) = true) (s x : Operand)
    (ho : o.op = .call { callee := .builtin .append, args := #[s, x], argTypes := #[44, 44] })
    {B S : Nat} {a : Option Addr} {n c : Nat} {xs : List (List Int × Int)} (hown : KN w B S a n c xs) (hs : ac.eval s = .slice a n c)
    {ys : List Int} {B0 S0 : Nat} (hr : OwI w B0 S0 b m d ys) (hB0 : B ≤ B0) (hx : ac.eval x = .slice (some ⟨w.heap.size, 0, none⟩) 1 1) (hn : n + 1 ≤ 1048576) (hbase : B ≤ w.heap.size) (hS : S ≤ w.heap.size) (hS0 : S0 ≤ w.heap.size)
    (h : ∀ a' c' w', KN w' B w'.heap.size a' (n + 1) c' (xs ++ [(ys, y)]) → w.grownBy w' (Value.slice a n c).ownBlock → K (ac.put o.dst (.slice a' (n + 1) c')) w') :
    if Region.wanted o (yielded ops ac.tmps) = true then Oper.wp Try.prog o ac W K Q else K (ac.put o.dst undef) W := by
  rw [if_pos hwant]
  subst hW
  obtain ⟨a', c', w', hrun, h2, h3⟩ := run_pushN (ty := o.type) (y := y) hown hr hB0 hn hbase hS hS0
  unfold Oper.wp execOp
  simp only [ho, resolve, invoke, builtin, Sem.run_bind, Sem.run_pure, Result.andThen_ok, List.map_toArray, List.map_cons, List.map_nil, hs, hx, hrun]
  exact h a' c' w' h2 h3

theorem KN.keep {w w' : World} {B S B0 S0 : Nat} {a b : Option Addr} {n c m d : Nat} {xs : List (List Int × Int)} {ys : List Int} (h : KN w B S a n c xs) (hi : OwI w B0 S0 b m d ys) (hg : w.grownBy w' (Value.slice a n c).ownBlock) : OwI w' B0 S0 b m d ys := by
  obtain ⟨vs, h1, _⟩ := h
  exact ⟨hi.1.kept hg (fun k hk e => ne_blockTK h1 hi k e hk), hi.2⟩

/-! a class put into an ascending list -/
def insK (v : List Int) (x : Int) (xs : List (List Int × Int)) : List (List Int × Int) := xs.takeWhile (fun p => less p.1 v) ++ (v, x) :: xs.dropWhile fun p => less p.1 v
end Go.Proofs.Ytflkomgfgmephaa

namespace Go.Proofs.Ytflkomgfgmephaa
open Go.RowKit

/-- classes of the call's own, and whether they are fine -/
def PostK (w : World) (T : List (List Int × Int)) (ok : Bool) (e : Ending) (w' : World) : Prop :=
  ∃ a' n' c' r, e = .returned (.tuple #[.slice a' n' c', .bool r]) ∧ KO w' w.heap.size w'.heap.size a' n' c' T ∧ Hid (r = ok) ∧ Below w.heap.size w w'
/-- classes readable in the call's blocks, and whether they are fine -/
def PostN (w : World) (T : List (List Int × Int)) (ok : Bool) (e : Ending) (w' : World) : Prop :=
  ∃ a' n' c' r, e = .returned (.tuple #[.slice a' n' c', .bool r]) ∧ KN w' w.heap.size w'.heap.size a' n' c' T ∧ Hid (r = ok) ∧ Below w.heap.size w w'
/-! ascending lists -/
def Asc (L : List (List Int × Int)) : Prop := L.Pairwise fun p q => less p.1 q.1 = true
theorem asc_unique {L M : List (List Int × Int)} (hL : Asc L) (hM : Asc M) (h : L.Perm M) : L = M :=
  List.Perm.eq_of_pairwise (le := fun (p q : List Int × Int) => less p.1 q.1 = true) (fun x y _ _ h1 h2 => by
    have := less_trans h1 h2
    rw [less_irrefl] at this
    cases this) hL hM h
theorem insK_perm (v : List Int) (x : Int) (xs : List (List Int × Int)) : (insK v x xs).Perm ((v, x) :: xs) := by
  unfold insK
  refine List.perm_middle.trans (List.Perm.cons _ ?_)
  rw [List.takeWhile_append_dropWhile]
theorem insK_asc {v : List Int} {x : Int} {xs : List (List Int × Int)} (h : Asc xs) (hne : ∀ q ∈ xs, q.1 ≠ v) : Asc (insK v x xs) := by
  unfold insK Asc
  induction xs with
  | nil => exact List.pairwise_singleton _ _
  | cons p xs ih =>
    have hp := List.pairwise_cons.1 h
    rw [List.takeWhile_cons, List.dropWhile_cons]
    split
    · rename_i hl
      have ih' := ih hp.2 fun q hq => hne q (List.mem_cons_of_mem _ hq)
      rw [List.cons_append, List.pairwise_cons]
      refine ⟨fun q hq => ?_, ih'⟩
      have hq' : q ∈ (v, x) :: xs := (insK_perm v x xs).mem_iff.1 hq
      rcases List.mem_cons.1 hq' with rfl | hq'
      · exact hl
      · exact hp.1 q hq'
    · rename_i hl
      have hvp : less v p.1 = true := by
        cases h1 : less v p.1 with
        | true => rfl
        | false => exact absurd (less_total (by simpa using hl) h1) (hne p List.mem_cons_self)
      rw [List.nil_append, List.pairwise_cons]
      refine ⟨fun q hq => ?_, h⟩
      rcases List.mem_cons.1 hq with rfl | hq
      · exact hvp
      · exact less_trans hvp (hp.1 q hq)
/-- put into ascending order -/
def sortK : List (List Int × Int) → List (List Int × Int)
  | [] => []
  | p :: L => insK p.1 p.2 (sortK L)
theorem sortK_perm (L : List (List Int × Int)) : (sortK L).Perm L := by
  induction L with
  | nil => exact List.Perm.refl _
  | cons p L ih => exact (insK_perm _ _ _).trans (ih.cons _)
def Dst (L : List (List Int × Int)) : Prop := L.Pairwise fun p q => p.1 ≠ q.1
theorem sortK_asc {L : List (List Int × Int)} (h : Dst L) : Asc (sortK L) := by
  induction L with
  | nil => exact List.Pairwise.nil
  | cons p L ih =>
    have hp := List.pairwise_cons.1 h
    exact insK_asc (ih hp.2) fun q hq => Ne.symm (hp.1 q ((sortK_perm L).mem_iff.1 hq))
theorem GoodK.dst {L : List (List Int × Int)} (h : GoodK L) : Dst L := by
  unfold Dst
  rw [List.pairwise_iff_getElem]
  intro i j hi hj hij e
  have := h.apart i j _ _ (List.getElem?_eq_getElem hi) (List.getElem?_eq_getElem hj) e
  omega
theorem sortK_snoc {L : List (List Int × Int)} {p : List Int × Int} (h : Dst (L ++ [p])) : insK p.1 p.2 (sortK L) = sortK (L ++ [p]) := by
  have hp : Dst L ∧ ∀ q ∈ L, q.1 ≠ p.1 := by
    obtain ⟨h1, _, h3⟩ := List.pairwise_append.1 h
    exact ⟨h1, fun q hq => h3 q hq p (by simp)⟩
  refine asc_unique (insK_asc (sortK_asc hp.1) fun q hq => hp.2 q ((sortK_perm L).mem_iff.1 hq)) (sortK_asc h) ?_
  refine (insK_perm _ _ _).trans (((sortK_perm L).cons _).trans ?_)
  exact (List.perm_append_singleton p L).symm.trans (sortK_perm _).symm
theorem sz_T_bound {L : List (List Int × Int)} {B : Nat} (h : ∀ p ∈ L, p.1.length ≤ B) : sz_T L ≤ L.length * (B + 1) := by
  induction L with
  | nil => exact Nat.zero_le _
  | cons p L ih =>
    have h1 := ih fun q hq => h q (List.mem_cons_of_mem _ hq)
    have h2 := h p List.mem_cons_self
    rw [sz_T, List.length_cons, Nat.succ_mul]
    omega
end Go.Proofs.Ytflkomgfgmephaa
