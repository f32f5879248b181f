/-
  Slices of terms (a slice of integers, an integer) that a call owns, each in a block of its own; appended to, marked, held, copied.
  slices.SortFunc at impl.Term: the kit's shelf, laid at this program's numbers.
  Contract of slices.SortFunc at a row of terms of the call's own, by an order that parts whatever two of them; given by the kit's shelf.
-/
import Derived.Test.YtomejjbkakpoiaaGreatBuY20
import Derived.Test.YtomejjbkakpoiaaGreatApp
import Derived.Test.YtomejjbkakpoiaaGreatFacts
import Derived.Shelf.SlSortCmp.NoneTotal
import Derived.Test.YtomejjbkakpoiaaGreatBuY13
namespace Go.Proofs.YtomejjbkakpoiaaGreat
open Go.RowKit

structure InT (w : World) (B S : Nat) (vs : List Value) (xs : List (List Int × Int)) : Prop where
  len : vs.length = xs.length * 2
  each : ∀ (k : Nat) (p : List Int × Int), xs[k]? = some p → ∃ (a : Option Addr) (c : Nat), vs[k * 2]? = some (Value.slice a p.1.length c) ∧ vs[k * 2 + 1]? = some (Value.int .i64 p.2) ∧ OwI w B S a p.1.length c p.1
  apart : ∀ (i j : Nat) (u v : Value) (g : Nat), vs[i * 2]? = some u → vs[j * 2]? = some v → u.ownBlock = some g → v.ownBlock = some g → i = j
def TO (w : World) (B S : Nat) (a : Option Addr) (n c : Nat) (xs : List (List Int × Int)) : Prop :=
  ∃ vs, w.ownsRow B 74 2 (.slice a n c) n vs ∧ (∀ k, (Value.slice a n c).ownBlock = some k → k < S) ∧ InT w B S vs xs
theorem TO.len {w : World} {B S : Nat} {a : Option Addr} {n c : Nat} {xs : List (List Int × Int)} (h : TO w B S a n c xs) : xs.length = n := by
  obtain ⟨vs, h1, _, h3⟩ := h
  have := h1.1
  have := h3.len
  omega
theorem row2_shape {w : World} {B e n : Nat} {a : Option Addr} {c : Nat} {vs : List Value} (h : w.ownsRow B e 2 (.slice a n c) n vs) :
    (n = 0 ∧ a = none ∧ c = 0 ∧ vs = []) ∨ ∃ g, a = some ⟨g, 0, none⟩ ∧ B ≤ g ∧ g < w.heap.size ∧ n ≤ c ∧ (∀ k v, vs[k]? = some v → w.cell? ⟨g, k, none⟩ = some v) ∧ (∃ cur, w.heap[g]? = some (.cells cur e (0, 0))) := by
  have h' := h
  rcases h.2 with ⟨hv, h2⟩ | ⟨g, cap, cur, hv, hb, hh, hn, _⟩
  · simp only [Value.slice.injEq] at hv
    have hl := h.1
    rw [h2] at hl
    exact .inl ⟨h2, hv.1, hv.2.2, List.eq_nil_of_length_eq_zero (by simpa using hl)⟩
  · simp only [Value.slice.injEq] at hv
    obtain ⟨rfl, _, rfl⟩ := hv
    refine .inr ⟨g, rfl, hb, (Array.getElem?_eq_some_iff.1 hh).1, hn, fun k v hk => ?_, cur, hh⟩
    have hl := lt_of_some hk
    have := h'.1
    rw [h'.cellAt k (by omega)]
    exact hk
theorem TO.rd {w : World} {B S : Nat} {a : Option Addr} {n c : Nat} {xs : List (List Int × Int)} (h : TO w B S a n c xs) : RP w a xs := by
  obtain ⟨vs, h1, _, h3⟩ := h
  rcases row2_shape h1 with ⟨_, _, _, hv⟩ | ⟨g, rfl, _, _, _, hc, _⟩
  · left
    have := h3.len
    rw [hv] at this
    simp at this
    exact List.eq_nil_of_length_eq_zero (by omega)
  · refine .inr ⟨g, 0, rfl, fun k p hp => ?_⟩
    obtain ⟨a', c', e1, e2, ho⟩ := h3.each k p hp
    exact ⟨a', c', by rw [Nat.zero_add]; exact hc _ _ e1, by rw [Nat.zero_add]; exact hc _ _ e2, ho.rd, ho.1.lt⟩
theorem row2_only {w w' : World} {B S B' S' e n : Nat} {v : Value} {vs : List Value} (h : w.ownsRow B e 2 v n vs) (hh : ∀ k, v.ownBlock = some k → k < S) (ho : Only B' S' w w') (hd : S ≤ B' ∨ S' ≤ B) : w'.ownsRow B e 2 v n vs := by
  refine ⟨h.1, ?_⟩
  have hl := h.lt
  rcases h.2 with h2 | ⟨g, cap, cur, hv, hg, hb, r⟩
  · exact .inl h2
  · subst hv
    have h1 := hh g rfl
    have h3 := (hl g rfl).1
    exact .inr ⟨g, cap, cur, rfl, hg, by rw [ho.block g (Array.getElem?_eq_some_iff.1 hb).1 (by omega)]; exact hb, r⟩
theorem TO.only {w w' : World} {B S B' S' : Nat} {a : Option Addr} {n c : Nat} {xs : List (List Int × Int)} (h : TO w B S a n c xs) (ho : Only B' S' w w') (hd : S ≤ B' ∨ S' ≤ B) : TO w' B S a n c xs := by
  obtain ⟨vs, h1, h2, h3⟩ := h
  exact ⟨vs, row2_only h1 h2 ho hd, h2, h3.len, fun k p hp => by obtain ⟨a, c, e1, e2, e3⟩ := h3.each k p hp; exact ⟨a, c, e1, e2, e3.only ho hd⟩, h3.apart⟩
theorem TO.below {w w' : World} {B S : Nat} {a : Option Addr} {n c : Nat} {xs : List (List Int × Int)} (h : TO w B S a n c xs) (hb : Below w.heap.size w w') : TO w' B S a n c xs := h.only (Only.of_below hb) (.inr (Nat.zero_le _))
theorem TO.mono {w : World} {B S B' S' : Nat} {a : Option Addr} {n c : Nat} {xs : List (List Int × Int)} (h : TO w B S a n c xs) (hB : B' ≤ B) (hS : S ≤ S') : TO w B' S' a n c xs := by
  obtain ⟨vs, h1, h2, h3⟩ := h
  refine ⟨vs, ⟨h1.1, ?_⟩, fun k hk => Nat.lt_of_lt_of_le (h2 k hk) hS, h3.len, fun k p hp => by obtain ⟨a, c, e1, e2, e3⟩ := h3.each k p hp; exact ⟨a, c, e1, e2, e3.mono hB hS⟩, h3.apart⟩
  rcases h1.2 with h2 | ⟨g, cap, cur, hv, hg, r⟩
  · exact .inl h2
  · exact .inr ⟨g, cap, cur, hv, Nat.le_trans hB hg, r⟩
theorem TO.lo {w : World} {B S : Nat} {a : Option Addr} {n c : Nat} {xs : List (List Int × Int)} (h : TO w B S a n c xs) : ∀ k, (Value.slice a n c).ownBlock = some k → B ≤ k := by
  obtain ⟨vs, h1, _⟩ := h
  exact fun k hk => (h1.lt k hk).1
theorem TO.nil {w : World} {B S : Nat} : TO w B S none 0 0 [] := ⟨[], ⟨rfl, .inl ⟨rfl, rfl⟩⟩, fun k hk => by simp [Value.ownBlock] at hk, rfl, by simp, by simp⟩
theorem TO.made (w : World) : TO (w.alloc (.cells #[] 74)) w.heap.size (w.alloc (.cells #[] 74)).heap.size (some ⟨w.heap.size, 0, none⟩) 0 0 [] := by
  have h := World.ownsRow_made (base := w.heap.size) (e := 74) (size := 2) w #[] 0 (Nat.le_refl _) (Nat.zero_le _) rfl
  exact ⟨[], h, fun k hk => (h.lt k hk).2, rfl, by simp, by simp⟩
/-- a row of integers lies in another block than a row of terms -/
theorem ne_blockT {w : World} {B S B' n l : Nat} {a a' : Option Addr} {c c' : Nat} {vs : List Value} {xs : List Int} (h : w.ownsRow B' 74 2 (.slice a n c) n vs) (hi : OwI w B S a' l c' xs) :
    ∀ k, (Value.slice a n c).ownBlock = some k → (Value.slice a' l c').ownBlock ≠ some k := by
  intro k hk hk'
  rcases row2_shape h with ⟨_, rfl, _⟩ | ⟨g, rfl, _, _, _, _, cur, hg⟩
  · cases hk
  · rcases ownsRow_shape hi.1.own with ⟨_, rfl, _⟩ | ⟨g', rfl, _, _, _, cur', hg'⟩
    · cases hk'
    · have e1 : g = k := by simpa [Value.ownBlock] using hk
      have e2 : g' = k := by simpa [Value.ownBlock] using hk'
      subst e1 e2
      rw [hg] at hg'
      simp at hg'
theorem slice_ofT {w : World} {B e n : Nat} {v : Value} {xs : List Value} (h : w.ownsRow B e 2 v n xs) : ∃ a c, v = .slice a n c := by
  rcases h.2 with ⟨rfl, rfl⟩ | ⟨g, cap, cur, rfl, _⟩
  · exact ⟨none, 0, rfl⟩
  · exact ⟨_, cap, rfl⟩
/-- append of one term whose list lies in a newer block than all that are there -/
theorem wpList_pushT {w W : World} {b : Option Addr} {m d : Nat} {y : Int} (hW : W = w.alloc (.cells #[.slice b m d, .int .i64 y] 74)) {ops : Array Oper} {rest : List Oper} {o : Oper} {ac : Act} {Q : Exit → Act → World → Prop} (hgd : o.guard = none) (s x : Operand)
    (ho : o.op = .call { callee := .builtin .append, args := #[s, x], argTypes := #[30, 30] })
    {B S : Nat} {a : Option Addr} {n c : Nat} {xs : List (List Int × Int)} (hown : TO w B S a n c xs) (hs : ac.eval s = .slice a n c)
    {ys : List Int} {S' : Nat} (hr : OwI w S S' b m d ys) (hBS : B ≤ S) {z : Nat} (hx : ac.eval x = .slice (some ⟨z, 0, none⟩) 1 1) (hz : z = w.heap.size) (hn : n + 1 ≤ 1048576) (hbase : B ≤ w.heap.size) (hS : S ≤ w.heap.size) (hS' : S' ≤ w.heap.size)
    (h : ∀ a' c' w', TO w' B w'.heap.size a' (n + 1) c' (xs ++ [(ys, y)]) → w.grownBy w' (Value.slice a n c).ownBlock → wpList Tryz.prog ops Q rest (ac.put o.dst (.slice a' (n + 1) c')) w') :
    wpList Tryz.prog ops Q (o :: rest) ac W := by
  subst hW
  subst hz
  obtain ⟨i0, hi, hz0, hz1, hz2⟩ := info_parts Tryz.info74
  obtain ⟨vs, h1, h2, h3⟩ := hown
  have hlen := hr.len
  have hvl := h3.len
  have h10 := h1.1
  have h1a := h1.alloc (.cells #[.slice b m d, .int .i64 y] 74)
  refine wpList_append_own _ hgd s x 30 ho B 74 i0 (.agg #[.slice none 0 0, .int .i64 0]) 2 32 Tryz.underlying30 hi hz0 hz1 hz2 rfl (by decide) _ n vs hs h1a ⟨w.heap.size, 0, none⟩ 1 1 [.slice b m d, .int .i64 y] hx rfl ?_ ?_ (by unfold maxLen; omega) (by omega) (by simp; omega) ?_
  · intro j u hj
    match j, hj with
    | 0, hj => simp at hj; subst hj; simp [Addr.add]
    | 1, hj => simp at hj; subst hj; simp [Addr.add]
  · intro u hu
    simp at hu
    rcases hu with rfl | rfl <;> rfl
  · intro v' w' h4 h5 _
    obtain ⟨a', c', rfl⟩ := slice_ofT h4
    have hg := grownBy.trans (World.grownBy_alloc w (.cells #[.slice b m d, .int .i64 y] 74) (Value.slice a n c).ownBlock) h5
    have hsz := hg.size
    have keep : ∀ {B0 S0 : Nat} {a0 : Option Addr} {l0 c0 : Nat} {zs : List Int}, OwI w B0 S0 a0 l0 c0 zs → OwI w' B0 S0 a0 l0 c0 zs := fun hio => ⟨hio.1.kept hg (fun k hk e => ne_blockT h1 hio k e hk), hio.2⟩
    have hold : ∀ i v, vs[i * 2]? = some v → ∀ g, v.ownBlock = some g → g < S := by
      intro i v hv g hvg
      have hi := lt_of_some hv
      obtain ⟨p, hp⟩ := some_of (show i < xs.length by omega)
      obtain ⟨a2, c2, e1, _, e3⟩ := h3.each i p hp
      rw [hv] at e1
      obtain rfl := Option.some.inj e1
      exact e3.2 g hvg
    have hnew : ∀ g, (Value.slice b m d).ownBlock = some g → S ≤ g := fun g hg => hr.1.lo g hg
    refine h a' c' w' ⟨vs ++ [.slice b m d, .int .i64 y], h4, fun k hk => (h4.lt k hk).2, by simp; omega, fun k p hp => ?_, ?_⟩ hg
    · rcases Nat.lt_or_ge k xs.length with hk | hk
      · rw [List.getElem?_append_left hk] at hp
        obtain ⟨a2, c2, e1, e2, e3⟩ := h3.each k p hp
        exact ⟨a2, c2, by rw [List.getElem?_append_left (by omega)]; exact e1, by rw [List.getElem?_append_left (by omega)]; exact e2, (keep e3).mono (Nat.le_refl _) (by omega)⟩
      · rw [List.getElem?_append_right hk] at hp
        have hk0 : k - xs.length = 0 := by have := lt_of_some hp; simp at this; omega
        rw [hk0] at hp
        obtain rfl : (ys, y) = p := by simpa using hp
        have hkx : k = xs.length := by omega
        refine ⟨b, d, ?_, ?_, ?_⟩
        · rw [List.getElem?_append_right (by omega), show k * 2 - vs.length = 0 by omega, hlen]; rfl
        · rw [List.getElem?_append_right (by omega), show k * 2 + 1 - vs.length = 1 by omega]; rfl
        · show OwI w' B w'.heap.size b ys.length d ys
          rw [hlen]
          exact (keep hr).mono hBS (by omega)
    · intro i j u v g hu hv hug hvg
      have split : ∀ i u, (vs ++ [Value.slice b m d, .int .i64 y])[i * 2]? = some u → (i * 2 < vs.length ∧ vs[i * 2]? = some u) ∨ (i * 2 = vs.length ∧ u = .slice b m d) := by
        intro i u hu
        rcases Nat.lt_or_ge (i * 2) vs.length with hi | hi
        · rw [List.getElem?_append_left hi] at hu
          exact .inl ⟨hi, hu⟩
        · rw [List.getElem?_append_right hi] at hu
          have hlt := lt_of_some hu
          simp at hlt
          have e0 : i * 2 - vs.length = 0 := by omega
          rw [e0] at hu
          simp at hu
          exact .inr ⟨by omega, hu.symm⟩
      rcases split i u hu with ⟨_, hu⟩ | ⟨e1, rfl⟩ <;> rcases split j v hv with ⟨_, hv⟩ | ⟨e2, rfl⟩
      · exact h3.apart i j u v g hu hv hug hvg
      · have := hold i u hu g hug
        have := hnew g hvg
        omega
      · have := hold j v hv g hvg
        have := hnew g hug
        omega
      · omega
end Go.Proofs.YtomejjbkakpoiaaGreat

namespace Go.Proofs.YtomejjbkakpoiaaGreat
open Go.RowKit Go.Shelf

def renSortT : Ren := ⟨fun k => if k = 6 then 92 else if k = 14 then 116 else if k = 15 then 110 else if k = 20 then 144 else if k = 21 then 145 else if k = 22 then 146 else if k = 23 then 147 else if k = 24 then 148 else if k = 25 then 149 else if k = 26 then 150 else if k = 27 then 151 else if k = 28 then 133 else if k = 29 then 134 else if k = 46 then 170 else if k = 47 then 163 else if k = 48 then 164 else if k = 49 then 171 else if k = 50 then 172 else if k = 57 then 178 else 0, fun k => if k = 22 then 30 else if k = 24 then 74 else if k = 25 then 112 else if k = 39 then 123 else if k = 45 then 140 else if k = 46 then 141 else if k = 50 then 145 else if k = 53 then 148 else if k = 55 then 150 else if k = 66 then 167 else if k = 70 then 171 else if k = 76 then 179 else if k = 77 then 180 else k, fun k => k⟩
theorem laysSortT : SlLaysF0.n6 Tryz.prog renSortT where
  mixed := by kernel_rfl
  f6 := ⟨Tryz.f92.name, by kernel_rfl, by kernel_rfl⟩
  f14 := ⟨Tryz.f116.name, by kernel_rfl, by kernel_rfl⟩
  f15 := by kernel_rfl
  f20 := ⟨Tryz.f144.name, by kernel_rfl, by kernel_rfl⟩
  f21 := ⟨Tryz.f145.name, by kernel_rfl, by kernel_rfl⟩
  f22 := ⟨Tryz.f146.name, by kernel_rfl, by kernel_rfl⟩
  f23 := ⟨Tryz.f147.name, by kernel_rfl, by kernel_rfl⟩
  f24 := ⟨Tryz.f148.name, by kernel_rfl, by kernel_rfl⟩
  f25 := ⟨Tryz.f149.name, by kernel_rfl, by kernel_rfl⟩
  f26 := ⟨Tryz.f150.name, by kernel_rfl, by kernel_rfl⟩
  f27 := ⟨Tryz.f151.name, by kernel_rfl, by kernel_rfl⟩
  f28 := by kernel_rfl
  f29 := by kernel_rfl
  f46 := ⟨Tryz.f170.name, by kernel_rfl, by kernel_rfl⟩
  f47 := by kernel_rfl
  f48 := by kernel_rfl
  f49 := ⟨Tryz.f171.name, by kernel_rfl, by kernel_rfl⟩
  f50 := ⟨Tryz.f172.name, by kernel_rfl, by kernel_rfl⟩
  f57 := ⟨Tryz.f178.name, by kernel_rfl, by kernel_rfl⟩
  t0 := by kernel_rfl
  a0 := fun w => by kernel_rfl
  z0 := fun w => by kernel_rfl
  v0 := fun w => by kernel_rfl
  t3 := by kernel_rfl
  a3 := fun w => by kernel_rfl
  z3 := fun w => by kernel_rfl
  v3 := fun w => by kernel_rfl
  t4 := by kernel_rfl
  a4 := fun w => by kernel_rfl
  z4 := fun w => by kernel_rfl
  v4 := fun w => by kernel_rfl
  t5 := by kernel_rfl
  a5 := fun w => by kernel_rfl
  z5 := fun w => by kernel_rfl
  v5 := fun w => by kernel_rfl
  t9 := by kernel_rfl
  a9 := fun w => by kernel_rfl
  z9 := fun w => by kernel_rfl
  v9 := fun w => by kernel_rfl
  t22 := by kernel_rfl
  a22 := fun w => by kernel_rfl
  z22 := fun w => by kernel_rfl
  v22 := fun w => by kernel_rfl
  t25 := by kernel_rfl
  a25 := fun w => by kernel_rfl
  z25 := fun w => by kernel_rfl
  v25 := fun w => by kernel_rfl
  t39 := by kernel_rfl
  a39 := fun w => by kernel_rfl
  z39 := fun w => by kernel_rfl
  v39 := fun w => by kernel_rfl
  t45 := by kernel_rfl
  a45 := fun w => by kernel_rfl
  z45 := fun w => by kernel_rfl
  v45 := fun w => by kernel_rfl
  t46 := by kernel_rfl
  a46 := fun w => by kernel_rfl
  z46 := fun w => by kernel_rfl
  v46 := fun w => by kernel_rfl
  t50 := by kernel_rfl
  a50 := fun w => by kernel_rfl
  z50 := fun w => by kernel_rfl
  v50 := fun w => by kernel_rfl
  t53 := by kernel_rfl
  a53 := fun w => by kernel_rfl
  z53 := fun w => by kernel_rfl
  v53 := fun w => by kernel_rfl
  t55 := by kernel_rfl
  a55 := fun w => by kernel_rfl
  z55 := fun w => by kernel_rfl
  v55 := fun w => by kernel_rfl
  t66 := by kernel_rfl
  a66 := fun w => by kernel_rfl
  z66 := fun w => by kernel_rfl
  v66 := fun w => by kernel_rfl
  t70 := by kernel_rfl
  a70 := fun w => by kernel_rfl
  z70 := fun w => by kernel_rfl
  v70 := fun w => by kernel_rfl
  t76 := by kernel_rfl
  a76 := fun w => by kernel_rfl
  z76 := fun w => by kernel_rfl
  v76 := fun w => by kernel_rfl
  t77 := by kernel_rfl
  a77 := fun w => by kernel_rfl
  z77 := fun w => by kernel_rfl
  v77 := fun w => by kernel_rfl
end Go.Proofs.YtomejjbkakpoiaaGreat

namespace Go.Proofs.YtomejjbkakpoiaaGreat
open Go.RowKit Go.Shelf Go.Sort

theorem sizeOf_Term (w : World) : (Go.sizeOf 74).run Tryz.prog w = .ok 2 w := by kernel_rfl
theorem isAgg_Term (w : World) : (isAgg 74).run Tryz.prog w = .ok true w := by kernel_rfl
theorem sortX_any {n : Nat} (cf : Ix n → Ix n → Int) (hO : SWO (ltOf cf)) (hT : ∀ x y, (ltOf cf) x y = false → (ltOf cf) y x = false → x = y)
    (f : Nat) (ef : ∀ args w, (callFunc f args).run Tryz.prog w = .ok (.enter f args) w) (B S g c : Nat) (vs : List Value) (w : World) (ho : w.ownsRow B 74 2 (.slice (some ⟨g, 0, none⟩) n c) n vs) (_hS : g < S) (hpos : 0 < n)
    (h1 : ∀ v ∈ vs, v.oneCell' = true) (hcmp : ∀ (W : World), w.grownBy W (some g) → ∀ x y : Ix n, Calls Tryz.prog f #[.agg (encX vs x).toArray, .agg (encX vs y).toArray] W fun e w' => e = .returned (.int .i64 (cf x y)) ∧ Laid W w') (hb : n ≤ 1048576) :
    Calls Tryz.prog 92 #[.slice (some ⟨g, 0, none⟩) n c, .func (.func f) #[] #[]] w fun e w' => e = .returned (.tuple #[]) ∧
      w'.ownsRow B 74 2 (.slice (some ⟨g, 0, none⟩) n c) n (flatX vs ((allX n).mergeSort fun x y => !(ltOf cf) y x)) ∧ w.grownBy w' (some g) := by
  haveI : Inhabited (Ix n) := ⟨⟨0, hpos⟩⟩
  have hvl := ho.1
  rcases ho.2 with ⟨_, h2⟩ | ⟨g', cap, cur, hv, hg, hh, hn, hm, hs, ht⟩
  · omega
  · simp only [Value.slice.injEq, Option.some.injEq, Addr.mk.injEq] at hv
    obtain ⟨⟨rfl, _⟩, _, rfl⟩ := hv
    have hgz : g < w.heap.size := (Array.getElem?_eq_some_iff.1 hh).1
    have hll : (allX n).toArray.size = n := by simp [allX_length]
    have hfl : flatK (encX vs) 2 (allX n).toArray = vs.toArray := by rw [flat_X, flatX_all hvl]
    have hH : HoldsK (encX vs) 2 w g 0 (allX n).toArray := by
      unfold HoldsK
      rw [hfl]
      intro j hj
      have hj' : j < n * 2 := by simpa [hvl] using hj
      rw [Nat.zero_add]
      refine ⟨?_, ho.frozenAt _⟩
      rw [ho.cellAt _ (by simpa using hj')]
      simp [hvl, hj']
    have h1' : ∀ (x : Ix n), ∀ v ∈ encX vs x, v.oneCell' = true := by
      intro x v hv
      have hx := x.2
      have hget : ∀ t, t < vs.length → vs.getD t undef ∈ vs := fun t ht => by rw [List.getD_eq_getElem?_getD, List.getElem?_eq_getElem ht]; exact List.getElem_mem ht
      simp only [encX, List.mem_cons, List.not_mem_nil, or_false] at hv
      rcases hv with rfl | rfl
      · exact h1 _ (hget _ (by omega))
      · exact h1 _ (hget _ (by omega))
    have key := AnyQ.slices_SortFunc_total laysSortT 2 isAgg_Term sizeOf_Term (encX vs) (fun _ => rfl) h1' cf hO f #[] g 0 c (allX n).toArray w ef
      (by
        intro m os dk hdk x y
        refine (hcmp _ ?_ x y).mono ?_
        · unfold sortWorldK putRowK
          exact grownBy_sortedV _
        · rintro e w' ⟨he, q, os', hw⟩
          exact ⟨he, q, os', hw⟩) hH hgz (by rw [hll]; omega) hT
    rw [hll] at key
    refine Calls.mono key ?_
    rintro e w' ⟨rfl, m, os, rfl⟩
    generalize hso : ((allX n).mergeSort fun x y => !(ltOf cf) y x) = so
    have hsl : so.length = n := by rw [← hso, List.length_mergeSort, allX_length]
    have hlen : (flatX vs so).length = n * 2 := by rw [flatX_length, hsl]
    have hnew := heap_sortedV (n := m) (os := os) (flatX vs so).toArray hh
    have hgr := grownBy_sortedV (w := w) (g := g) (n := m) (os := os) (flatX vs so).toArray
    unfold sortWorldK putRowK
    rw [flat_X]
    refine ⟨rfl, ⟨hlen, .inr ⟨g, c, _, rfl, hg, hnew, hn, hm, by simp [putCells, hs], ?_⟩⟩, hgr⟩
    rw [← hlen]
    exact take_putCellsV cur _ (by rw [hlen, hs]; exact Nat.mul_le_mul_right 2 hn)
end Go.Proofs.YtomejjbkakpoiaaGreat
