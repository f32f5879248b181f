/-
  What the program's fillings share: worlds that differ in a few blocks; slices cloned; a row replaced.
-/
import Derived.Test.YtpjkhkoecgjjbaaTabG
import Derived.Test.YtpjkhkoecgjjbaaCopy
import Derived.Lib.SliceRun
namespace Go.Proofs.Ytpjkhkoecgjjbaa
open Go.RowKit

/-- w' is w with new blocks, and with writes to the blocks p alone -/
structure But (p : Nat → Prop) (w w' : World) : Prop where
  os : w'.os = w.os
  tape : w'.tape = w.tape
  output : w'.output = w.output
  size : w.heap.size ≤ w'.heap.size
  block : ∀ k, k < w.heap.size → ¬ p k → w'.heap[k]? = w.heap[k]?
theorem onlyCell {B S : Nat} (w : World) (g j : Nat) (v : Value) (h1 : B ≤ g) (h2 : g < S) : Only B S w (w.setCell ⟨g, j, none⟩ v) :=
  ⟨rfl, rfl, rfl, by simp, fun k _ hk => heap_setCell_other w ⟨g, j, none⟩ k v (fun e => hk (by simp at e; omega))⟩
theorem But.refl (p : Nat → Prop) (w : World) : But p w w := ⟨rfl, rfl, rfl, Nat.le_refl _, fun _ _ _ => rfl⟩
theorem But.trans {p q : Nat → Prop} {a b c : World} (h : But p a b) (k : But q b c) (hpq : ∀ i, i < a.heap.size → q i → p i) : But p a c :=
  ⟨k.os.trans h.os, k.tape.trans h.tape, k.output.trans h.output, Nat.le_trans h.size k.size, fun i hi hn => (k.block i (Nat.lt_of_lt_of_le hi h.size) (fun e => hn (hpq i hi e))).trans (h.block i hi hn)⟩
theorem But.of_below {p : Nat → Prop} {w w' : World} (h : Below w.heap.size w w') : But p w w' := ⟨h.os, h.tape, h.output, h.size, fun k hk _ => h.block k hk⟩
theorem But.of_grown {p : Nat → Prop} {w w' : World} {o : Option Nat} (h : w.grownBy w' o) (hp : ∀ k, o = some k → p k) : But p w w' :=
  ⟨h.os, h.tape, h.output, h.size, fun k hk hn => h.block k hk (fun e => hn (hp k e.symm))⟩
theorem But.below {p : Nat → Prop} {A : Nat} {wS w w' : World} (h : But p w w') (hb : Below A wS w) (hA : A ≤ w.heap.size) (hp : ∀ k, p k → A ≤ k) : Below A wS w' :=
  hb.trans ⟨h.os, h.tape, h.output, h.size, fun k hk => h.block k (by omega) (fun e => by have := hp k e; omega)⟩
theorem But.cell {p : Nat → Prop} {w w' : World} (h : But p w w') {a : Addr} (hk : a.block < w.heap.size) (hn : ¬ p a.block) : w'.cell? a = w.cell? a := by
  unfold World.cell?
  rw [h.block _ hk hn]
/-- a row stays where its block is none of those written -/
theorem ownsRow_but {w w' : World} {p : Nat → Prop} {B e n : Nat} {v : Value} {vs : List Value} (h : w.ownsRow B e 1 v n vs) (ho : But p w w') (hq : ∀ q, v.ownBlock = some q → ¬ p q) : w'.ownsRow B e 1 v n vs := by
  refine ⟨h.1, ?_⟩
  rcases h.2 with h2 | ⟨g, cap, cur, hv, hg, hb, r⟩
  · exact .inl h2
  · exact .inr ⟨g, cap, cur, hv, hg, by rw [ho.block g (Array.getElem?_eq_some_iff.1 hb).1 (hq g (by rw [hv]; rfl))]; exact hb, r⟩
theorem OwI.but {w w' : World} {p : Nat → Prop} {B S n c : Nat} {a : Option Addr} {xs : List Int} (h : OwI w B S a n c xs) (ho : But p w w') (hq : ∀ q, (Value.slice a n c).ownBlock = some q → ¬ p q) : OwI w' B S a n c xs :=
  ⟨OS.of (ownsRow_but h.own ho hq), h.2⟩
/-- rows of integers stay where what is written bears other types -/
theorem IIS.but {w w' : World} {p : Nat → Prop} {B S n c : Nat} {a : Option Addr} {xss : List (List Int)} (h : IIS w B S a n c xss) (ho : But p w w')
    (hh : ∀ q, (Value.slice a n c).ownBlock = some q → ¬ p q) (hr : ∀ q cur, B ≤ q → q < S → w.heap[q]? = some (.cells cur 3 (0, 0)) → ¬ p q) : IIS w' B S a n c xss := by
  obtain ⟨vs, h1, h2, h3⟩ := h
  refine ⟨vs, ownsRow_but h1 ho hh, h2, h3.len, fun k xs hx => ?_⟩
  obtain ⟨a2, c2, e1, e2⟩ := h3.each k xs hx
  refine ⟨a2, c2, e1, e2.but ho fun q hq => ?_⟩
  have hlo := e2.1.lo q hq
  have hhi := e2.2 q hq
  rcases ownsRow_shape e2.own with ⟨_, e, _⟩ | ⟨g, rfl, _, _, _, cur, hc⟩
  · subst e; cases hq
  · obtain rfl : g = q := by simpa [Value.ownBlock] using hq
    exact hr g cur hlo hhi hc
/-- the block of a list of tableaux bears no integers -/
theorem IIIO.type {w : World} {B S : Nat} {a : Option Addr} {n c : Nat} {xsss : List (List (List Int))} (h : IIIO w B S a n c xsss) : ∀ q, (Value.slice a n c).ownBlock = some q → ∃ cur, w.heap[q]? = some (.cells cur 38 (0, 0)) := by
  obtain ⟨vs, lo, hi, h1, _⟩ := h
  intro q hq
  rcases ownsRow_shape h1 with ⟨_, e, _⟩ | ⟨g, rfl, _, _, _, cur, hc⟩
  · subst e; cases hq
  · obtain rfl : g = q := by simpa [Value.ownBlock] using hq
    exact ⟨cur, hc⟩
theorem IIS.lo {w : World} {B S : Nat} {a : Option Addr} {n c : Nat} {xss : List (List Int)} (h : IIS w B S a n c xss) : ∀ k, (Value.slice a n c).ownBlock = some k → B ≤ k := by
  obtain ⟨vs, h1, _⟩ := h
  exact fun k hk => (h1.lt k hk).1
theorem IIS.hi {w : World} {B S : Nat} {a : Option Addr} {n c : Nat} {xss : List (List Int)} (h : IIS w B S a n c xss) : ∀ k, (Value.slice a n c).ownBlock = some k → k < S := by
  obtain ⟨vs, _, h2, _⟩ := h
  exact h2
/-- the block of a slice of slices bears no integers -/
theorem IIS.type {w : World} {B S : Nat} {a : Option Addr} {n c : Nat} {xss : List (List Int)} (h : IIS w B S a n c xss) : ∀ q, (Value.slice a n c).ownBlock = some q → ∃ cur, w.heap[q]? = some (.cells cur 22 (0, 0)) := by
  obtain ⟨vs, h1, _⟩ := h
  intro q hq
  rcases ownsRow_shape h1 with ⟨_, e, _⟩ | ⟨g, rfl, _, _, _, cur, hc⟩
  · subst e; cases hq
  · obtain rfl : g = q := by simpa [Value.ownBlock] using hq
    exact ⟨cur, hc⟩
/-- a row is replaced by a new one -/
theorem IIS.store {w : World} {B S : Nat} {a : Option Addr} {n c : Nat} {yss : List (List Int)} (h : IIS w B S a n c yss) {i : Nat} (hi : i < yss.length) {a2 : Option Addr} {l2 c2 : Nat} {ys : List Int} (hn : OwI w B S a2 l2 c2 ys) :
    ∃ g, a = some ⟨g, 0, none⟩ ∧ (∃ v, w.cell? ⟨g, i, none⟩ = some v) ∧ w.frozen? ⟨g, i, none⟩ = false ∧ IIS (w.setCell ⟨g, i, none⟩ (.slice a2 l2 c2)) B S a n c (yss.set i ys) ∧ w.grownBy (w.setCell ⟨g, i, none⟩ (.slice a2 l2 c2)) (some g) := by
  obtain ⟨vs, h1, h2, h3⟩ := h
  obtain ⟨xs, hx⟩ := some_of hi
  obtain ⟨a', c', hv, ho⟩ := h3.each i xs hx
  rcases ownsRow_shape h1 with ⟨_, _, _, hv0⟩ | ⟨g, rfl, hB, hlt, hc, _⟩
  · rw [hv0] at hv; cases hv
  · have hs := h1.stored i (.slice a2 l2 c2)
    refine ⟨g, rfl, ⟨_, hc i _ hv⟩, h1.frozenAt i, ⟨vs.set i (.slice a2 l2 c2), hs.1, h2, by rw [List.length_set, List.length_set]; exact h3.len, fun k zs hz => ?_⟩, hs.2⟩
    rw [List.getElem?_set] at hz
    by_cases hk : i = k
    · subst hk
      rw [if_pos rfl, if_pos hi] at hz
      obtain rfl := Option.some.inj hz
      refine ⟨a2, c2, by rw [List.getElem?_set, if_pos rfl, if_pos (lt_of_some hv), hn.len], ?_⟩
      rw [hn.len]
      exact ⟨hn.1.kept hs.2 (fun q hq e => ne_block h1 hn g rfl (by rw [hq, ← e])), hn.2⟩
    · rw [if_neg hk] at hz
      obtain ⟨a3, c3, e3, o3⟩ := h3.each k zs hz
      refine ⟨a3, c3, by rw [List.getElem?_set, if_neg hk]; exact e3, ?_⟩
      exact ⟨o3.1.kept hs.2 (fun q hq e => ne_block h1 o3 g rfl (by rw [hq, ← e])), o3.2⟩

set_option maxRecDepth 100000 in
set_option maxHeartbeats 1600000 in
theorem cloneIIS_any (B S g n c : Nat) (xss : List (List Int)) (w : World) (ho : IIS w B S (some ⟨g, 0, none⟩) n c xss) (hb : n ≤ 1048576) (hB : B ≤ w.heap.size) (hS : S ≤ w.heap.size) :
    Calls Try.prog 33 #[.slice (some ⟨g, 0, none⟩) n c] w fun e w' => ∃ a' c', e = .returned (.slice a' n c') ∧ IIS w' B w'.heap.size a' n c' xss ∧ (∀ k, (Value.slice a' n c').ownBlock = some k → w.heap.size ≤ k) ∧ Below w.heap.size w w' := by
  have q22 : ∀ (w : World) (a : Option Addr) (n c n' c' : Nat), (binOp .eql 38 (.slice a n c) (.slice none n' c')).run Try.prog w = .ok (.bool a.isNone) w := fun w a n c n' c' => Lib.run_eql_slice_nil w _ _ a n c n' c' Try.underlying38
  have hB0 : Below w.heap.size w (w.alloc (.cells #[] 22)) := (Below.refl _ _).alloc (Nat.le_refl _) _
  have h1 : (w.alloc (.cells #[] 22)).ownsRow w.heap.size 22 1 (.slice (some ⟨w.heap.size, 0, none⟩) 0 0) 0 [] := World.ownsRow_made w #[] 0 (Nat.le_refl _) (Nat.zero_le _) rfl
  have H1 := Lib.hid h1
  have HO := Lib.hid (ho.below hB0)
  obtain ⟨i0, hi, hz0, hz1, hz2⟩ := info_parts Try.info22
  clear h1 ho
  obtain ⟨vs, v1, v2, v3⟩ := HO.out
  have hvl : vs.length = n := by have := v1.1; omega
  have HV := Lib.hid v1
  have HV3 := Lib.hid v3
  have hnews : ∀ ad, (some ⟨g, 0, none⟩ : Option Addr) = some ad → ∀ j u, vs[j]? = some u → (w.alloc (.cells #[] 22)).cell? (ad.add j) = some u := by
    intro ad had j u hu
    obtain rfl := Option.some.inj had
    rcases ownsRow_shape v1 with ⟨_, e, _⟩ | ⟨g', e, _, _, hc, _⟩
    · cases e
    · simp only [Option.some.injEq, Addr.mk.injEq] at e
      obtain ⟨rfl, _⟩ := e
      rw [show (⟨g, 0, none⟩ : Addr).add j = ⟨g, j, none⟩ by unfold Addr.add; split <;> simp_all]
      exact hc j u hu
  have hone : ∀ u ∈ vs, u.oneCell' = true := by
    intro u hu
    obtain ⟨k, hk⟩ := List.getElem?_of_mem hu
    obtain ⟨zs, hz⟩ := some_of (show k < xss.length by rw [← v3.len]; exact lt_of_some hk)
    obtain ⟨a2, c2, e1, _⟩ := v3.each k zs hz
    rw [hk] at e1
    obtain rfl := Option.some.inj e1
    rfl
  have Hnews := Lib.hid hnews
  have Hone := Lib.hid hone
  clear v1 v3 hnews hone
  go_enter Try.func33, Try.ntmps33
  go_wp2_with (first | (at_builtin; go_loud (refine wpList_app _ (by rfl) _ _ 38 (by rfl) w.heap.size 22 i0 (.slice none 0 0) 24 Try.underlying38 hi hz0 hz1 hz2 rfl _ 0 [] (by rfl) H1.out (some ⟨g, 0, none⟩) n c vs (by rfl) hvl (by simp) Hnews.out Hone.out (by omega) (by omega) (by simp) ?_)))
  intro a2 c2 w2 ho2 hg2
  have hB2 : Below w.heap.size w w2 := hg2.below hB0 (by simp) (fun k hk => by simp [Value.ownBlock] at hk; omega)
  have hfin : IIS w2 B w2.heap.size a2 n c2 xss := by
    have hrow : w2.ownsRow B 22 1 (.slice a2 n c2) n vs := ownsRow_base (by simpa using ho2) hB
    refine ⟨vs, hrow, fun k hk => (hrow.lt k hk).2, HV3.out.len, fun k zs hz => ?_⟩
    obtain ⟨a9, c9, e9, o9⟩ := HV3.out.each k zs hz
    have hs2 := hB2.size
    exact ⟨a9, c9, e9, (o9.grows hg2 H1.out).mono (Nat.le_refl _) (by omega)⟩
  have Hlo := Lib.hid (show ∀ k, (Value.slice a2 n c2).ownBlock = some k → w.heap.size ≤ k from fun k hk => (ho2.lt k (by simpa using hk)).1)
  have Hfin := Lib.hid hfin
  clear hfin ho2 hg2
  go_wp2
  go_ret
  exact ⟨a2, c2, by simp, by simpa using Hfin.out, by simpa using Hlo.out, hB2⟩
end Go.Proofs.Ytpjkhkoecgjjbaa
