/-
  Slices of slices whose blocks obey a predicate: two of them may lie in blocks that are mixed.
-/
import Derived.Test.YtleehkgfoicmdaaInserted
namespace Go.Proofs.Ytleehkgfoicmdaa
open Go.RowKit

/-- w' is w with new blocks, and with writes to blocks of Q alone -/
structure OnlyQ (Q : Nat → Prop) (w w' : World) : Prop where
  os : w'.os = w.os
  tape : w'.tape = w.tape
  output : w'.output = w.output
  size : w.heap.size ≤ w'.heap.size
  block : ∀ k, k < w.heap.size → ¬ Q k → w'.heap[k]? = w.heap[k]?
theorem OnlyQ.refl (Q : Nat → Prop) (w : World) : OnlyQ Q w w := ⟨rfl, rfl, rfl, Nat.le_refl _, fun _ _ _ => rfl⟩
theorem OnlyQ.trans {Q : Nat → Prop} {a b c : World} (h : OnlyQ Q a b) (k : OnlyQ Q b c) : OnlyQ Q a c :=
  ⟨k.os.trans h.os, k.tape.trans h.tape, k.output.trans h.output, Nat.le_trans h.size k.size, fun i hi hn => (k.block i (Nat.lt_of_lt_of_le hi h.size) hn).trans (h.block i hi hn)⟩
theorem OnlyQ.of_grown {Q : Nat → Prop} {w w' : World} {v : Value} (h : w.grownBy w' v.ownBlock) (hq : ∀ k, v.ownBlock = some k → Q k) : OnlyQ Q w w' :=
  ⟨h.os, h.tape, h.output, h.size, fun k hk hn => h.block k hk (fun e => hn (hq k e.symm))⟩
theorem OnlyQ.of_below {Q : Nat → Prop} {w w' : World} (h : Below w.heap.size w w') : OnlyQ Q w w' := ⟨h.os, h.tape, h.output, h.size, fun k hk _ => h.block k hk⟩
theorem OnlyQ.to {Q : Nat → Prop} {B S : Nat} {w w' : World} (h : OnlyQ Q w w') (hq : ∀ k, k < w.heap.size → Q k → B ≤ k ∧ k < S) : Only B S w w' :=
  ⟨h.os, h.tape, h.output, h.size, fun k hk hn => h.block k hk (fun e => hn (hq k hk e))⟩
theorem Only.toQ {B S : Nat} {w w' : World} (h : Only B S w w') : OnlyQ (fun k => B ≤ k ∧ k < S) w w' := ⟨h.os, h.tape, h.output, h.size, h.block⟩

structure InnerQ (w : World) (Q : Nat → Prop) (vs : List Value) (xss : List (List Int)) : Prop where
  len : vs.length = xss.length
  each : ∀ (k : Nat) (xs : List Int), xss[k]? = some xs → ∃ (a : Option Addr) (c : Nat), vs[k]? = some (Value.slice a xs.length c) ∧ OS w 0 a xs.length c xs
  home : ∀ (i : Nat) (v : Value) (g : Nat), vs[i]? = some v → v.ownBlock = some g → Q g
  apart : ∀ (i j : Nat) (u v : Value) (g : Nat), vs[i]? = some u → vs[j]? = some v → u.ownBlock = some g → v.ownBlock = some g → i = j
def IIQ (w : World) (Q : Nat → Prop) (a : Option Addr) (n c : Nat) (xss : List (List Int)) : Prop :=
  ∃ vs, w.ownsRow 0 22 1 (.slice a n c) n vs ∧ (∀ k, (Value.slice a n c).ownBlock = some k → Q k) ∧ InnerQ w Q vs xss
theorem IIO.toQ {w : World} {B S : Nat} {a : Option Addr} {n c : Nat} {xss : List (List Int)} (h : IIO w B S a n c xss) : IIQ w (fun k => B ≤ k ∧ k < S) a n c xss := by
  have hlo := h.lo
  obtain ⟨vs, h1, h2, h3⟩ := h
  refine ⟨vs, ownsRow_base h1 (Nat.zero_le _), fun k hk => ⟨hlo k hk, h2 k hk⟩, h3.len, fun k xs hx => ?_, fun i v g hv hg => ?_, h3.apart⟩
  · obtain ⟨a, c, e, ho⟩ := h3.each k xs hx
    exact ⟨a, c, e, (ho.mono (Nat.zero_le _) (Nat.le_refl _)).1⟩
  · obtain ⟨xs, hx⟩ := some_of (show i < xss.length by rw [← h3.len]; exact lt_of_some hv)
    obtain ⟨a, c, e, ho⟩ := h3.each i xs hx
    rw [hv] at e
    obtain rfl := Option.some.inj e
    exact ⟨ho.1.lo g hg, ho.2 g hg⟩
theorem IIQ.mono {w : World} {Q P : Nat → Prop} {a : Option Addr} {n c : Nat} {xss : List (List Int)} (h : IIQ w Q a n c xss) (hq : ∀ k, k < w.heap.size → Q k → P k) : IIQ w P a n c xss := by
  obtain ⟨vs, h1, h2, h3⟩ := h
  refine ⟨vs, h1, fun k hk => hq k (h1.lt k hk).2 (h2 k hk), h3.len, h3.each, fun i v g hv hg => ?_, h3.apart⟩
  obtain ⟨xs, hx⟩ := some_of (show i < xss.length by rw [← h3.len]; exact lt_of_some hv)
  obtain ⟨a, c, e, ho⟩ := h3.each i xs hx
  rw [hv] at e
  obtain rfl := Option.some.inj e
  exact hq g (ho.hi g hg) (h3.home i _ g hv hg)
theorem IIQ.len {w : World} {Q : Nat → Prop} {a : Option Addr} {n c : Nat} {xss : List (List Int)} (h : IIQ w Q a n c xss) : xss.length = n := by
  obtain ⟨vs, h1, _, h3⟩ := h
  rw [← h3.len]; have := h1.1; omega
theorem IIQ.rd {w : World} {Q : Nat → Prop} {a : Option Addr} {n c : Nat} {xss : List (List Int)} (h : IIQ w Q a n c xss) : RII w a xss := by
  obtain ⟨vs, h1, _, h3⟩ := h
  rcases ownsRow_shape h1 with ⟨_, _, _, hv⟩ | ⟨g, rfl, _, _, hc, _⟩
  · left
    have := h3.len
    rw [hv] at this
    exact List.eq_nil_of_length_eq_zero this.symm
  · refine .inr ⟨g, 0, rfl, fun k xs hx => ?_⟩
    obtain ⟨a', c', hk, ho⟩ := h3.each k xs hx
    exact ⟨a', c', by rw [Nat.zero_add]; exact hc k _ hk, ho.ri⟩
theorem ownsRow_onlyQ {w w' : World} {P : Nat → Prop} {B e n : Nat} {v : Value} {vs : List Value} (h : w.ownsRow B e 1 v n vs) (ho : OnlyQ P w w') (hd : ∀ k, v.ownBlock = some k → ¬ P k) : w'.ownsRow B e 1 v n vs := by
  refine ⟨h.1, ?_⟩
  rcases h.2 with h2 | ⟨g, cap, cur, hv, hg, hb, r⟩
  · exact .inl h2
  · subst hv
    exact .inr ⟨g, cap, cur, rfl, hg, by rw [ho.block g (Array.getElem?_eq_some_iff.1 hb).1 (hd g rfl)]; exact hb, r⟩
theorem OS.onlyQ {w w' : World} {P : Nat → Prop} {B : Nat} {a : Option Addr} {n c : Nat} {xs : List Int} (h : OS w B a n c xs) (ho : OnlyQ P w w') (hd : ∀ k, (Value.slice a n c).ownBlock = some k → ¬ P k) : OS w' B a n c xs :=
  OS.of (ownsRow_onlyQ h.own ho hd)
theorem IIQ.only {w w' : World} {Q P : Nat → Prop} {a : Option Addr} {n c : Nat} {xss : List (List Int)} (h : IIQ w Q a n c xss) (ho : OnlyQ P w w') (hd : ∀ k, k < w.heap.size → Q k → ¬ P k) : IIQ w' Q a n c xss := by
  obtain ⟨vs, h1, h2, h3⟩ := h
  refine ⟨vs, ownsRow_onlyQ h1 ho (fun k hk => hd k (h1.lt k hk).2 (h2 k hk)), h2, h3.len, fun k xs hx => ?_, h3.home, h3.apart⟩
  obtain ⟨a, c, e, hos⟩ := h3.each k xs hx
  exact ⟨a, c, e, hos.onlyQ ho (fun g hg => hd g (hos.hi g hg) (h3.home k _ g e hg))⟩
theorem IIQ.below {w w' : World} {Q : Nat → Prop} {a : Option Addr} {n c : Nat} {xss : List (List Int)} (h : IIQ w Q a n c xss) (hb : Below w.heap.size w w') : IIQ w' Q a n c xss :=
  h.only (OnlyQ.of_below (Q := fun _ => False) hb) (fun _ _ _ h => h)
/-- a row of integers lies in another block than a row of slices -/
theorem ne_blockS {w : World} {B B' n l : Nat} {a a' : Option Addr} {c c' : Nat} {vs : List Value} {xs : List Int} (h : w.ownsRow B' 22 1 (.slice a n c) n vs) (hi : OS w B a' l c' xs) :
    ∀ k, (Value.slice a n c).ownBlock = some k → (Value.slice a' l c').ownBlock ≠ some k := ne_block h (S := w.heap.size) ⟨hi, hi.hi⟩
theorem IIQ.open {w : World} {Q : Nat → Prop} {a : Option Addr} {n c : Nat} {yss : List (List Int)} (h : IIQ w Q a n c yss) {i : Nat} {xs : List Int} (hi : yss[i]? = some xs) :
    ∃ g a' c', a = some ⟨g, 0, none⟩ ∧ w.cell? ⟨g, i, none⟩ = some (.slice a' xs.length c') ∧ OS w 0 a' xs.length c' xs ∧ (∀ k, (Value.slice a' xs.length c').ownBlock = some k → Q k) ∧
      ∀ w' ys, ys.length = xs.length → OS w' 0 a' xs.length c' ys → w.grownBy w' (Value.slice a' xs.length c').ownBlock → IIQ w' Q a n c (yss.set i ys) := by
  obtain ⟨vs, h1, h2, h3⟩ := h
  obtain ⟨a', c', hv, ho⟩ := h3.each i xs hi
  rcases ownsRow_shape h1 with ⟨_, _, _, hv0⟩ | ⟨g, rfl, hB, hlt, hc, _⟩
  · rw [hv0] at hv; cases hv
  · refine ⟨g, a', c', rfl, hc i _ hv, ho, fun k hk => h3.home i _ k hv hk, fun w' ys hl hos hg => ?_⟩
    refine ⟨vs, grown_keeps h1 hg (fun k hk e => ne_blockS h1 ho k hk e), h2, ?_⟩
    refine ⟨by rw [List.length_set]; exact h3.len, fun k zs hz => ?_, h3.home, h3.apart⟩
    rw [List.getElem?_set] at hz
    by_cases hk : i = k
    · subst hk
      rw [if_pos rfl, if_pos (lt_of_some hi)] at hz
      obtain rfl := Option.some.inj hz
      exact ⟨a', c', by rw [hl]; exact hv, by rw [hl]; exact hos⟩
    · rw [if_neg hk] at hz
      obtain ⟨a2, c2, hv2, ho2⟩ := h3.each k zs hz
      exact ⟨a2, c2, hv2, ho2.kept hg (fun q hq e => hk (h3.apart i k _ _ q hv hv2 e hq))⟩

/-- Q, or a block that is new in w' -/
def OrNew (Q : Nat → Prop) (w w' : World) : Nat → Prop := fun k => Q k ∨ (w.heap.size ≤ k ∧ k < w'.heap.size)
theorem IIQ.grow {w : World} {Q : Nat → Prop} {a : Option Addr} {n c : Nat} {yss : List (List Int)} (h : IIQ w Q a n c yss) {i : Nat} {xs : List Int} (hi : yss[i]? = some xs) :
    ∃ g a' c', a = some ⟨g, 0, none⟩ ∧ w.cell? ⟨g, i, none⟩ = some (.slice a' xs.length c') ∧ w.frozen? ⟨g, i, none⟩ = false ∧ OwI w 0 w.heap.size a' xs.length c' xs ∧
      ∀ w1 a2 l2 c2 ys, OwI w1 0 w1.heap.size a2 l2 c2 ys → Grows w w1 (.slice a' xs.length c') (.slice a2 l2 c2) →
        w1.cell? ⟨g, i, none⟩ = some (.slice a' xs.length c') ∧ w1.frozen? ⟨g, i, none⟩ = false ∧
        IIQ (w1.setCell ⟨g, i, none⟩ (.slice a2 l2 c2)) (OrNew Q w w1) a n c (yss.set i ys) ∧ OnlyQ Q w (w1.setCell ⟨g, i, none⟩ (.slice a2 l2 c2)) := by
  obtain ⟨vs, h1, h2, h3⟩ := h
  obtain ⟨a', c', hv, ho⟩ := h3.each i xs hi
  rcases ownsRow_shape h1 with ⟨_, _, _, hv0⟩ | ⟨g, rfl, hB, hlt, hc, _⟩
  · rw [hv0] at hv; cases hv
  · refine ⟨g, a', c', rfl, hc i _ hv, h1.frozenAt i, ⟨ho, ho.hi⟩, fun w1 a2 l2 c2 ys hn hg => ?_⟩
    have k1 : w1.ownsRow 0 22 1 (.slice (some ⟨g, 0, none⟩) n c) n vs := grown_keeps h1 hg.grown (fun k hk e => ne_blockS h1 ho k hk e)
    have hs := k1.stored i (.slice a2 l2 c2)
    have hin : i < n * 1 := by have := lt_of_some hv; have := k1.1; omega
    have hbl : ∀ (k : Nat) (v : Value), vs[k]? = some v → ∀ q, v.ownBlock = some q → q < w.heap.size := by
      intro k v hv q hq
      obtain ⟨zs, hz⟩ := some_of (show k < yss.length by rw [← h3.len]; exact lt_of_some hv)
      obtain ⟨a3, c3, e1, e2⟩ := h3.each k zs hz
      rw [hv] at e1
      obtain rfl := Option.some.inj e1
      exact e2.hi q hq
    have hnew : ∀ q, (Value.slice a2 l2 c2).ownBlock = some q → (Value.slice a' xs.length c').ownBlock = some q ∨ w.heap.size ≤ q := by
      intro q hq
      rcases hg.home with e | e
      · left; rw [← e]; exact hq
      · right; exact e q hq
    refine ⟨by rw [k1.cellAt i hin]; exact hv, k1.frozenAt i, ⟨vs.set i (.slice a2 l2 c2), hs.1, fun k hk => .inl (h2 k hk), ?_, ?_, ?_, ?_⟩, ?_⟩
    · rw [List.length_set, List.length_set]; exact h3.len
    · intro k zs hz
      rw [List.getElem?_set] at hz
      by_cases hk : i = k
      · subst hk
        rw [if_pos rfl, if_pos (lt_of_some hi)] at hz
        obtain rfl := Option.some.inj hz
        refine ⟨a2, c2, by rw [List.getElem?_set, if_pos rfl, if_pos (lt_of_some hv), hn.len], ?_⟩
        rw [hn.len]
        exact hn.1.kept hs.2 (fun q hq e => ne_block k1 hn g rfl (by rw [hq, ← e]))
      · rw [if_neg hk] at hz
        obtain ⟨a3, c3, hv2, ho2⟩ := h3.each k zs hz
        refine ⟨a3, c3, by rw [List.getElem?_set, if_neg hk]; exact hv2, ?_⟩
        have k2 : OS w1 0 a3 zs.length c3 zs := ho2.kept hg.grown (fun q hq e => hk (h3.apart i k _ _ q hv hv2 e hq))
        exact k2.kept hs.2 (fun q hq e => ne_blockS k1 k2 g rfl (by rw [hq, ← e]))
    · intro p v q hu hq
      rw [List.getElem?_set] at hu
      by_cases hp : i = p
      · rw [if_pos hp] at hu
        split at hu
        · obtain rfl := Option.some.inj hu
          rcases hnew q hq with e | e
          · exact .inl (h3.home i _ q hv e)
          · exact .inr ⟨e, hn.2 q hq⟩
        · cases hu
      · rw [if_neg hp] at hu
        exact .inl (h3.home p v q hu hq)
    · intro p j u v q hu hv' hpu hpv
      rw [List.getElem?_set] at hu hv'
      by_cases hp : i = p <;> by_cases hj : i = j
      · omega
      · rw [if_pos hp] at hu
        rw [if_neg hj] at hv'
        split at hu
        · obtain rfl := Option.some.inj hu
          rcases hnew q hpu with e | e
          · exact absurd (h3.apart i j _ _ q hv hv' e hpv) hj
          · have := hbl j v hv' q hpv; omega
        · cases hu
      · rw [if_neg hp] at hu
        rw [if_pos hj] at hv'
        split at hv'
        · obtain rfl := Option.some.inj hv'
          rcases hnew q hpv with e | e
          · exact absurd (h3.apart i p _ _ q hv hu e hpu) hp
          · have := hbl p u hu q hpu; omega
        · cases hv'
      · rw [if_neg hp] at hu
        rw [if_neg hj] at hv'
        exact h3.apart p j u v q hu hv' hpu hpv
    · refine (OnlyQ.of_grown hg.grown (fun k hk => h3.home i _ k hv hk)).trans (OnlyQ.of_grown (v := .slice (some ⟨g, 0, none⟩) n c) hs.2 h2)
end Go.Proofs.Ytleehkgfoicmdaa
