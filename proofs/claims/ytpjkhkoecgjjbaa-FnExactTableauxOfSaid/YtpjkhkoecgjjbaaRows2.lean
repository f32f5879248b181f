/-
  A row of an owned slice of slices is appended to and stored back.
-/
import Derived.Test.YtpjkhkoecgjjbaaDescents
import Derived.Test.YtpjkhkoecgjjbaaShapesIn
import Derived.Test.YtpjkhkoecgjjbaaKII2
namespace Go.Proofs.Ytpjkhkoecgjjbaa
open Go.RowKit

theorem ownBlock_of_lt {w : World} {B e n : Nat} {v : Value} {vs : List Value} (h : w.ownsRow B e 1 v n vs) : ∀ k, v.ownBlock = some k → B ≤ k ∧ k < w.heap.size := fun k hk => h.lt k hk
theorem IIO.grow {w : World} {B S : Nat} {a : Option Addr} {n c : Nat} {yss : List (List Int)} (h : IIO w B S a n c yss) {i : Nat} {xs : List Int} (hi : yss[i]? = some xs) (hS : S ≤ w.heap.size) :
    ∃ g a' c', a = some ⟨g, 0, none⟩ ∧ w.cell? ⟨g, i, none⟩ = some (.slice a' xs.length c') ∧ w.frozen? ⟨g, i, none⟩ = false ∧ OwI w B S a' xs.length c' xs ∧
      ∀ w1 a2 l2 c2 ys, OwI w1 B w1.heap.size a2 l2 c2 ys → Grows w w1 (.slice a' xs.length c') (.slice a2 l2 c2) →
        w1.cell? ⟨g, i, none⟩ = some (.slice a' xs.length c') ∧ w1.frozen? ⟨g, i, none⟩ = false ∧
        IIO (w1.setCell ⟨g, i, none⟩ (.slice a2 l2 c2)) B w1.heap.size a n c (yss.set i ys) ∧ Only B S w (w1.setCell ⟨g, i, none⟩ (.slice a2 l2 c2)) := by
  obtain ⟨vs, h1, h2, h3⟩ := h
  obtain ⟨a', c', hv, ho⟩ := h3.each i xs hi
  rcases ownsRow_shape h1 with ⟨_, _, _, hv0⟩ | ⟨g, rfl, hB, hlt, hc, _⟩
  · rw [hv0] at hv; cases hv
  · refine ⟨g, a', c', rfl, hc i _ hv, h1.frozenAt i, ho, fun w1 a2 l2 c2 ys hn hg => ?_⟩
    have k1 : w1.ownsRow B 22 1 (.slice (some ⟨g, 0, none⟩) n c) n vs := grown_keeps h1 hg.grown (fun k hk e => ne_block h1 ho k hk e)
    have hs := k1.stored i (.slice a2 l2 c2)
    have hgS : g < S := h2 g rfl
    have hin : i < n * 1 := by have := lt_of_some hv; have := k1.1; omega
    refine ⟨by rw [k1.cellAt i hin]; exact hv, k1.frozenAt i, ⟨vs.set i (.slice a2 l2 c2), hs.1, fun k hk => by have := h2 k hk; have := hg.grown.size; omega, ?_⟩, ?_⟩
    · have hbl : ∀ (k : Nat) (v : Value), vs[k]? = some v → ∀ q, v.ownBlock = some q → q < S := by
        intro k v hv q hq
        obtain ⟨zs, hz⟩ := some_of (show k < yss.length by rw [← h3.len]; exact lt_of_some hv)
        obtain ⟨a3, c3, e1, e2⟩ := h3.each k zs hz
        rw [hv] at e1
        obtain rfl := Option.some.inj e1
        exact e2.2 q hq
      have hnew : ∀ q, (Value.slice a2 l2 c2).ownBlock = some q → (Value.slice a' xs.length c').ownBlock = some q ∨ S ≤ q := by
        intro q hq
        rcases hg.home with e | e
        · left; rw [← e]; exact hq
        · right; have := e q hq; omega
      refine ⟨by rw [List.length_set, List.length_set]; exact h3.len, fun k zs hz => ?_, ?_⟩
      · rw [List.getElem?_set] at hz
        by_cases hk : i = k
        · subst hk
          rw [if_pos rfl, if_pos (lt_of_some hi)] at hz
          obtain rfl := Option.some.inj hz
          refine ⟨a2, c2, by rw [List.getElem?_set, if_pos rfl, if_pos (lt_of_some hv), hn.len], ?_⟩
          rw [hn.len]
          exact ⟨hn.1.kept hs.2 (fun q hq e => ne_block k1 hn g rfl (by rw [hq, ← e])), fun q hq => by have := hn.2 q hq; simpa using this⟩
        · rw [if_neg hk] at hz
          obtain ⟨a3, c3, hv2, ho2⟩ := h3.each k zs hz
          refine ⟨a3, c3, by rw [List.getElem?_set, if_neg hk]; exact hv2, ?_⟩
          have k2 : OwI w1 B S a3 zs.length c3 zs := ⟨ho2.1.kept hg.grown (fun q hq e => hk (h3.apart i k _ _ q hv hv2 e hq)), ho2.2⟩
          refine ⟨k2.1.kept hs.2 (fun q hq e => ne_block k1 k2 g rfl (by rw [hq, ← e])), fun q hq => ?_⟩
          have := k2.2 q hq
          have := hg.grown.size
          omega
      · intro p j u v q hu hv' hpu hpv
        rw [List.getElem?_set] at hu hv'
        by_cases hp : i = p <;> by_cases hj : i = j
        · omega
        · rw [if_pos hp] at hu
          rw [if_neg hj] at hv'
          split at hu
          · obtain rfl := Option.some.inj hu
            rcases hnew q hpu with e | e
            · exact absurd (h3.apart i j _ _ q hv hv' e hpv) hj
            · have := hbl j v hv' q hpv; omega
          · cases hu
        · rw [if_neg hp] at hu
          rw [if_pos hj] at hv'
          split at hv'
          · obtain rfl := Option.some.inj hv'
            rcases hnew q hpv with e | e
            · exact absurd (h3.apart i p _ _ q hv hu e hpu) hp
            · have := hbl p u hu q hpu; omega
          · cases hv'
        · rw [if_neg hp] at hu
          rw [if_neg hj] at hv'
          exact h3.apart p j u v q hu hv' hpu hpv
    · refine (Only.of_grown hg.grown ho.1.lo ho.2).trans (Only.of_grown (v := .slice (some ⟨g, 0, none⟩) 0 0) hs.2 ?_ ?_)
      · intro k hk; simp [Value.ownBlock] at hk; omega
      · intro k hk; simp [Value.ownBlock] at hk; omega
end Go.Proofs.Ytpjkhkoecgjjbaa
