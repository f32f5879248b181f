/-
  Slices of terms (a slice of integers, an integer) that a call owns, each in a block of its own; appended to, marked, held, copied.
-/
import Derived.Test.YtiiiiolifpaehaaKP5
import Derived.Test.YtiiiiolifpaehaaApp
namespace Go.Proofs.Ytiiiiolifpaehaa
open Go.RowKit

structure InT (w : World) (B S : Nat) (vs : List Value) (xs : List (List Int × Int)) : Prop where
  len : vs.length = xs.length * 2
  each : ∀ (k : Nat) (p : List Int × Int), xs[k]? = some p → ∃ (a : Option Addr) (c : Nat), vs[k * 2]? = some (Value.slice a p.1.length c) ∧ vs[k * 2 + 1]? = some (Value.int .i64 p.2) ∧ OwI w B S a p.1.length c p.1
  apart : ∀ (i j : Nat) (u v : Value) (g : Nat), vs[i * 2]? = some u → vs[j * 2]? = some v → u.ownBlock = some g → v.ownBlock = some g → i = j
def TO (w : World) (B S : Nat) (a : Option Addr) (n c : Nat) (xs : List (List Int × Int)) : Prop :=
  ∃ vs, w.ownsRow B 121 2 (.slice a n c) n vs ∧ (∀ k, (Value.slice a n c).ownBlock = some k → k < S) ∧ InT w B S vs xs
theorem TO.len {w : World} {B S : Nat} {a : Option Addr} {n c : Nat} {xs : List (List Int × Int)} (h : TO w B S a n c xs) : xs.length = n := by
  obtain ⟨vs, h1, _, h3⟩ := h
  have := h1.1
  have := h3.len
  omega
theorem row2_shape {w : World} {B e n : Nat} {a : Option Addr} {c : Nat} {vs : List Value} (h : w.ownsRow B e 2 (.slice a n c) n vs) :
    (n = 0 ∧ a = none ∧ c = 0 ∧ vs = []) ∨ ∃ g, a = some ⟨g, 0, none⟩ ∧ B ≤ g ∧ g < w.heap.size ∧ n ≤ c ∧ (∀ k v, vs[k]? = some v → w.cell? ⟨g, k, none⟩ = some v) ∧ (∃ cur, w.heap[g]? = some (.cells cur e (0, 0))) := by
  have h' := h
  rcases h.2 with ⟨hv, h2⟩ | ⟨g, cap, cur, hv, hb, hh, hn, _⟩
  · simp only [Value.slice.injEq] at hv
    have hl := h.1
    rw [h2] at hl
    exact .inl ⟨h2, hv.1, hv.2.2, List.eq_nil_of_length_eq_zero (by simpa using hl)⟩
  · simp only [Value.slice.injEq] at hv
    obtain ⟨rfl, _, rfl⟩ := hv
    refine .inr ⟨g, rfl, hb, (Array.getElem?_eq_some_iff.1 hh).1, hn, fun k v hk => ?_, cur, hh⟩
    have hl := lt_of_some hk
    have := h'.1
    rw [h'.cellAt k (by omega)]
    exact hk
theorem TO.rd {w : World} {B S : Nat} {a : Option Addr} {n c : Nat} {xs : List (List Int × Int)} (h : TO w B S a n c xs) : RP w a xs := by
  obtain ⟨vs, h1, _, h3⟩ := h
  rcases row2_shape h1 with ⟨_, _, _, hv⟩ | ⟨g, rfl, _, _, _, hc, _⟩
  · left
    have := h3.len
    rw [hv] at this
    simp at this
    exact List.eq_nil_of_length_eq_zero (by omega)
  · refine .inr ⟨g, 0, rfl, fun k p hp => ?_⟩
    obtain ⟨a', c', e1, e2, ho⟩ := h3.each k p hp
    exact ⟨a', c', by rw [Nat.zero_add]; exact hc _ _ e1, by rw [Nat.zero_add]; exact hc _ _ e2, ho.rd, ho.1.lt⟩
theorem row2_only {w w' : World} {B S B' S' e n : Nat} {v : Value} {vs : List Value} (h : w.ownsRow B e 2 v n vs) (hh : ∀ k, v.ownBlock = some k → k < S) (ho : Only B' S' w w') (hd : S ≤ B' ∨ S' ≤ B) : w'.ownsRow B e 2 v n vs := by
  refine ⟨h.1, ?_⟩
  have hl := h.lt
  rcases h.2 with h2 | ⟨g, cap, cur, hv, hg, hb, r⟩
  · exact .inl h2
  · subst hv
    have h1 := hh g rfl
    have h3 := (hl g rfl).1
    exact .inr ⟨g, cap, cur, rfl, hg, by rw [ho.block g (Array.getElem?_eq_some_iff.1 hb).1 (by omega)]; exact hb, r⟩
theorem TO.only {w w' : World} {B S B' S' : Nat} {a : Option Addr} {n c : Nat} {xs : List (List Int × Int)} (h : TO w B S a n c xs) (ho : Only B' S' w w') (hd : S ≤ B' ∨ S' ≤ B) : TO w' B S a n c xs := by
  obtain ⟨vs, h1, h2, h3⟩ := h
  exact ⟨vs, row2_only h1 h2 ho hd, h2, h3.len, fun k p hp => by obtain ⟨a, c, e1, e2, e3⟩ := h3.each k p hp; exact ⟨a, c, e1, e2, e3.only ho hd⟩, h3.apart⟩
theorem TO.below {w w' : World} {B S : Nat} {a : Option Addr} {n c : Nat} {xs : List (List Int × Int)} (h : TO w B S a n c xs) (hb : Below w.heap.size w w') : TO w' B S a n c xs := h.only (Only.of_below hb) (.inr (Nat.zero_le _))
theorem TO.mono {w : World} {B S B' S' : Nat} {a : Option Addr} {n c : Nat} {xs : List (List Int × Int)} (h : TO w B S a n c xs) (hB : B' ≤ B) (hS : S ≤ S') : TO w B' S' a n c xs := by
  obtain ⟨vs, h1, h2, h3⟩ := h
  refine ⟨vs, ⟨h1.1, ?_⟩, fun k hk => Nat.lt_of_lt_of_le (h2 k hk) hS, h3.len, fun k p hp => by obtain ⟨a, c, e1, e2, e3⟩ := h3.each k p hp; exact ⟨a, c, e1, e2, e3.mono hB hS⟩, h3.apart⟩
  rcases h1.2 with h2 | ⟨g, cap, cur, hv, hg, r⟩
  · exact .inl h2
  · exact .inr ⟨g, cap, cur, hv, Nat.le_trans hB hg, r⟩
theorem TO.lo {w : World} {B S : Nat} {a : Option Addr} {n c : Nat} {xs : List (List Int × Int)} (h : TO w B S a n c xs) : ∀ k, (Value.slice a n c).ownBlock = some k → B ≤ k := by
  obtain ⟨vs, h1, _⟩ := h
  exact fun k hk => (h1.lt k hk).1
theorem TO.nil {w : World} {B S : Nat} : TO w B S none 0 0 [] := ⟨[], ⟨rfl, .inl ⟨rfl, rfl⟩⟩, fun k hk => by simp [Value.ownBlock] at hk, rfl, by simp, by simp⟩
theorem TO.made (w : World) : TO (w.alloc (.cells #[] 121)) w.heap.size (w.alloc (.cells #[] 121)).heap.size (some ⟨w.heap.size, 0, none⟩) 0 0 [] := by
  have h := World.ownsRow_made (base := w.heap.size) (e := 121) (size := 2) w #[] 0 (Nat.le_refl _) (Nat.zero_le _) rfl
  exact ⟨[], h, fun k hk => (h.lt k hk).2, rfl, by simp, by simp⟩
/-- a row of integers lies in another block than a row of terms -/
theorem ne_blockT {w : World} {B S B' n l : Nat} {a a' : Option Addr} {c c' : Nat} {vs : List Value} {xs : List Int} (h : w.ownsRow B' 121 2 (.slice a n c) n vs) (hi : OwI w B S a' l c' xs) :
    ∀ k, (Value.slice a n c).ownBlock = some k → (Value.slice a' l c').ownBlock ≠ some k := by
  intro k hk hk'
  rcases row2_shape h with ⟨_, rfl, _⟩ | ⟨g, rfl, _, _, _, _, cur, hg⟩
  · cases hk
  · rcases ownsRow_shape hi.1.own with ⟨_, rfl, _⟩ | ⟨g', rfl, _, _, _, cur', hg'⟩
    · cases hk'
    · have e1 : g = k := by simpa [Value.ownBlock] using hk
      have e2 : g' = k := by simpa [Value.ownBlock] using hk'
      subst e1 e2
      rw [hg] at hg'
      simp at hg'
theorem slice_ofT {w : World} {B e n : Nat} {v : Value} {xs : List Value} (h : w.ownsRow B e 2 v n xs) : ∃ a c, v = .slice a n c := by
  rcases h.2 with ⟨rfl, rfl⟩ | ⟨g, cap, cur, rfl, _⟩
  · exact ⟨none, 0, rfl⟩
  · exact ⟨_, cap, rfl⟩
/-- append of one term whose list lies in a newer block than all that are there -/
theorem wpList_pushT {w W : World} {b : Option Addr} {m d : Nat} {y : Int} (hW : W = w.alloc (.cells #[.slice b m d, .int .i64 y] 121)) {ops : Array Oper} {rest : List Oper} {o : Oper} {ac : Act} {Q : Exit → Act → World → Prop} (hgd : o.guard = none) (s x : Operand)
    (ho : o.op = .call { callee := .builtin .append, args := #[s, x], argTypes := #[61, 61] })
    {B S : Nat} {a : Option Addr} {n c : Nat} {xs : List (List Int × Int)} (hown : TO w B S a n c xs) (hs : ac.eval s = .slice a n c)
    {ys : List Int} {S' : Nat} (hr : OwI w S S' b m d ys) (hBS : B ≤ S) {z : Nat} (hx : ac.eval x = .slice (some ⟨z, 0, none⟩) 1 1) (hz : z = w.heap.size) (hn : n + 1 ≤ 1048576) (hbase : B ≤ w.heap.size) (hS : S ≤ w.heap.size) (hS' : S' ≤ w.heap.size)
    (h : ∀ a' c' w', TO w' B w'.heap.size a' (n + 1) c' (xs ++ [(ys, y)]) → w.grownBy w' (Value.slice a n c).ownBlock → wpList Try.prog ops Q rest (ac.put o.dst (.slice a' (n + 1) c')) w') :
    wpList Try.prog ops Q (o :: rest) ac W := by
  subst hW
  subst hz
  obtain ⟨i0, hi, hz0, hz1, hz2⟩ := info_parts Try.info121
  obtain ⟨vs, h1, h2, h3⟩ := hown
  have hlen := hr.len
  have hvl := h3.len
  have h10 := h1.1
  have h1a := h1.alloc (.cells #[.slice b m d, .int .i64 y] 121)
  refine wpList_append_own _ hgd s x 61 ho B 121 i0 (.agg #[.slice none 0 0, .int .i64 0]) 2 32 Try.underlying61 hi hz0 hz1 hz2 rfl (by decide) _ n vs hs h1a ⟨w.heap.size, 0, none⟩ 1 1 [.slice b m d, .int .i64 y] hx rfl ?_ ?_ (by unfold maxLen; omega) (by omega) (by simp; omega) ?_
  · intro j u hj
    match j, hj with
    | 0, hj => simp at hj; subst hj; simp [Addr.add]
    | 1, hj => simp at hj; subst hj; simp [Addr.add]
  · intro u hu
    simp at hu
    rcases hu with rfl | rfl <;> rfl
  · intro v' w' h4 h5 _
    obtain ⟨a', c', rfl⟩ := slice_ofT h4
    have hg := grownBy.trans (World.grownBy_alloc w (.cells #[.slice b m d, .int .i64 y] 121) (Value.slice a n c).ownBlock) h5
    have hsz := hg.size
    have keep : ∀ {B0 S0 : Nat} {a0 : Option Addr} {l0 c0 : Nat} {zs : List Int}, OwI w B0 S0 a0 l0 c0 zs → OwI w' B0 S0 a0 l0 c0 zs := fun hio => ⟨hio.1.kept hg (fun k hk e => ne_blockT h1 hio k e hk), hio.2⟩
    have hold : ∀ i v, vs[i * 2]? = some v → ∀ g, v.ownBlock = some g → g < S := by
      intro i v hv g hvg
      have hi := lt_of_some hv
      obtain ⟨p, hp⟩ := some_of (show i < xs.length by omega)
      obtain ⟨a2, c2, e1, _, e3⟩ := h3.each i p hp
      rw [hv] at e1
      obtain rfl := Option.some.inj e1
      exact e3.2 g hvg
    have hnew : ∀ g, (Value.slice b m d).ownBlock = some g → S ≤ g := fun g hg => hr.1.lo g hg
    refine h a' c' w' ⟨vs ++ [.slice b m d, .int .i64 y], h4, fun k hk => (h4.lt k hk).2, by simp; omega, fun k p hp => ?_, ?_⟩ hg
    · rcases Nat.lt_or_ge k xs.length with hk | hk
      · rw [List.getElem?_append_left hk] at hp
        obtain ⟨a2, c2, e1, e2, e3⟩ := h3.each k p hp
        exact ⟨a2, c2, by rw [List.getElem?_append_left (by omega)]; exact e1, by rw [List.getElem?_append_left (by omega)]; exact e2, (keep e3).mono (Nat.le_refl _) (by omega)⟩
      · rw [List.getElem?_append_right hk] at hp
        have hk0 : k - xs.length = 0 := by have := lt_of_some hp; simp at this; omega
        rw [hk0] at hp
        obtain rfl : (ys, y) = p := by simpa using hp
        have hkx : k = xs.length := by omega
        refine ⟨b, d, ?_, ?_, ?_⟩
        · rw [List.getElem?_append_right (by omega), show k * 2 - vs.length = 0 by omega, hlen]; rfl
        · rw [List.getElem?_append_right (by omega), show k * 2 + 1 - vs.length = 1 by omega]; rfl
        · show OwI w' B w'.heap.size b ys.length d ys
          rw [hlen]
          exact (keep hr).mono hBS (by omega)
    · intro i j u v g hu hv hug hvg
      have split : ∀ i u, (vs ++ [Value.slice b m d, .int .i64 y])[i * 2]? = some u → (i * 2 < vs.length ∧ vs[i * 2]? = some u) ∨ (i * 2 = vs.length ∧ u = .slice b m d) := by
        intro i u hu
        rcases Nat.lt_or_ge (i * 2) vs.length with hi | hi
        · rw [List.getElem?_append_left hi] at hu
          exact .inl ⟨hi, hu⟩
        · rw [List.getElem?_append_right hi] at hu
          have hlt := lt_of_some hu
          simp at hlt
          have e0 : i * 2 - vs.length = 0 := by omega
          rw [e0] at hu
          simp at hu
          exact .inr ⟨by omega, hu.symm⟩
      rcases split i u hu with ⟨_, hu⟩ | ⟨e1, rfl⟩ <;> rcases split j v hv with ⟨_, hv⟩ | ⟨e2, rfl⟩
      · exact h3.apart i j u v g hu hv hug hvg
      · have := hold i u hu g hug
        have := hnew g hvg
        omega
      · have := hold j v hv g hvg
        have := hnew g hug
        omega
      · omega
end Go.Proofs.Ytiiiiolifpaehaa
