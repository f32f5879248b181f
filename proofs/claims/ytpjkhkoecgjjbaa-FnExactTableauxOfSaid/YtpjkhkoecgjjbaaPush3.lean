/-
  append of a tableau to a list of tableaux.
-/
import Derived.Test.YtpjkhkoecgjjbaaKIII
namespace Go.Proofs.Ytpjkhkoecgjjbaa
open Go.RowKit

theorem Try.info38 : (Try.prog.info? 38).map (fun i => (i.zero, i.size, i.bytes)) = some (some (.slice none 0 0), 1, 24) := by kernel_rfl

/-- what was appended to keeps its rows, and has one more -/
theorem IIIO.push {w w' : World} {B S S' : Nat} {a b a' : Option Addr} {n c m d c' : Nat} {xsss : List (List (List Int))} {yss : List (List Int)} {vs : List Value} {lo hi : Nat → Nat}
    (h2 : ∀ k, (Value.slice a n c).ownBlock = some k → k < S) (h3 : Inner3 w B S (.slice a n c) vs xsss lo hi) (hlen : xsss.length = n)
    (hr : IIO w S S' b m d yss) (hBS : B ≤ S) (hS : S ≤ w.heap.size) (hS' : S' ≤ w.heap.size) (_hSS : S ≤ S')
    (h4 : w'.ownsRow B 38 1 (.slice a' (n + 1) c') (n + 1) (vs ++ [.slice b m d])) (hg : Grows w w' (.slice a n c) (.slice a' (n + 1) c')) :
    IIIO w' B w'.heap.size a' (n + 1) c' (xsss ++ [yss]) := by
  have hsz := hg.grown.size
  have hml := hr.len
  have hkeep : ∀ (L H : Nat) (a2 : Option Addr) (l c2 : Nat) (zs : List (List Int)), IIO w L H a2 l c2 zs → (∀ q, (Value.slice a n c).ownBlock = some q → q < L ∨ H ≤ q) → IIO w' L H a2 l c2 zs := fun L H a2 l c2 zs hz hq => by
    cases hv : (Value.slice a n c).ownBlock with
    | none =>
      have hon : Only 0 0 w w' := Only.of_grown hg.grown (fun k hk => by rw [hv] at hk; cases hk) (fun k hk => by rw [hv] at hk; cases hk)
      exact hz.only hon (.inr (Nat.zero_le _))
    | some q0 =>
      have hon : Only q0 (q0 + 1) w w' := Only.of_grown hg.grown (fun k hk => by rw [hv] at hk; obtain rfl := Option.some.inj hk; exact Nat.le_refl _) (fun k hk => by rw [hv] at hk; obtain rfl := Option.some.inj hk; exact Nat.lt_succ_self _)
      refine hz.only hon ?_
      have := hq q0 hv
      omega
  refine ⟨vs ++ [.slice b m d], fun k => if k < n then lo k else S, fun k => if k < n then hi k else S', h4, fun k hk => (h4.lt k hk).2, by simp [h3.len], fun k zs hz => ?_, fun k hk => ?_, fun i j hij hj => ?_⟩
  · rcases Nat.lt_or_ge k xsss.length with hk | hk
    · rw [List.getElem?_append_left hk] at hz
      obtain ⟨a2, c2, e1, e2⟩ := h3.each k zs hz
      rw [if_pos (by omega), if_pos (by omega)]
      exact ⟨a2, c2, by rw [List.getElem?_append_left (by rw [h3.len]; exact hk)]; exact e1, hkeep _ _ _ _ _ _ e2 (h3.fit k hk).2.2⟩
    · rw [List.getElem?_append_right hk] at hz
      have hk0 : k - xsss.length = 0 := by have := lt_of_some hz; simp at this; omega
      rw [hk0] at hz
      obtain rfl : yss = zs := by simpa using hz
      rw [if_neg (by omega), if_neg (by omega)]
      refine ⟨b, d, by rw [List.getElem?_append_right (by rw [h3.len]; exact hk), h3.len, hk0, hml]; rfl, ?_⟩
      rw [hml]
      exact hkeep _ _ _ _ _ _ hr (fun q hq => .inl (h2 q hq))
  · have hout : ∀ q, (Value.slice a' (n + 1) c').ownBlock = some q → (Value.slice a n c).ownBlock = some q ∨ w.heap.size ≤ q := fun q hq => by
      rcases hg.home with h | h
      · exact .inl (h ▸ hq)
      · exact .inr (h q hq)
    rcases Nat.lt_or_ge k n with hkn | hkn
    · have hf := h3.fit k (by omega)
      rw [if_pos hkn, if_pos hkn]
      refine ⟨hf.1, by omega, fun q hq => ?_⟩
      rcases hout q hq with h | h
      · exact hf.2.2 q h
      · right; omega
    · rw [if_neg (by omega), if_neg (by omega)]
      refine ⟨hBS, by omega, fun q hq => ?_⟩
      rcases hout q hq with h | h
      · exact .inl (h2 q h)
      · right; omega
  · rw [List.length_append] at hj
    simp at hj
    rcases Nat.lt_or_ge j n with hjn | hjn
    · rw [if_pos (by omega), if_pos hjn]
      exact h3.apart i j hij (by omega)
    · rw [if_neg (by omega : ¬ j < n), if_pos (by omega)]
      exact (h3.fit i (by omega)).2.1
theorem IIIO.made (w : World) : IIIO (w.alloc (.cells #[] 38)) w.heap.size (w.alloc (.cells #[] 38)).heap.size (some ⟨w.heap.size, 0, none⟩) 0 0 [] :=
  ⟨[], fun _ => 0, fun _ => 0, World.ownsRow_made w #[] 0 (Nat.le_refl _) (Nat.zero_le _) rfl, fun k hk => by simp [Value.ownBlock] at hk; simp; omega, rfl, by simp, by simp, by simp⟩

/-- append of a tableau: 'append(out, t)' -/
theorem wpList_push3 {w : World} {W : World} {b : Option Addr} {m d : Nat} (hW : W = w.alloc (.cells #[.slice b m d] 38)) {ops : Array Oper} {rest : List Oper} {o : Oper} {ac : Act} {Q : Exit → Act → World → Prop} (hgd : o.guard = none) (s x : Operand)
    (ho : o.op = .call { callee := .builtin .append, args := #[s, x], argTypes := #[23, 23] })
    {B S : Nat} {a : Option Addr} {n c : Nat} {xsss : List (List (List Int))} (hown : IIIO w B S a n c xsss) (hs : ac.eval s = .slice a n c)
    {yss : List (List Int)} {S' : Nat} (hr : IIO w S S' b m d yss) (hBS : B ≤ S) (hSS : S ≤ S') (hx : ac.eval x = .slice (some ⟨w.heap.size, 0, none⟩) 1 1) (hn : n + 1 ≤ 16777216) (hbase : B ≤ w.heap.size) (hS : S ≤ w.heap.size) (hS' : S' ≤ w.heap.size)
    (h : ∀ a' c' w', IIIO w' B w'.heap.size a' (n + 1) c' (xsss ++ [yss]) → Grows w w' (.slice a n c) (.slice a' (n + 1) c') → wpList Try.prog ops Q rest (ac.put o.dst (.slice a' (n + 1) c')) w') :
    wpList Try.prog ops Q (o :: rest) ac W := by
  subst hW
  obtain ⟨i0, hi, hz0, hz1, hz2⟩ := info_parts Try.info38
  have hlen := hown.len
  obtain ⟨vs, lo, hg0, h1, h2, h3⟩ := hown
  refine wpList_app _ hgd s x 23 ho B 38 i0 (.slice none 0 0) 24 Try.underlying23 hi hz0 hz1 hz2 rfl _ n vs hs (h1.alloc _) _ 1 1 [.slice b m d] hx rfl (by simp) ?_ ?_ hn (by omega) (by simp; omega) ?_
  · intro ad had j u hu
    obtain rfl := Option.some.inj had
    match j, hu with
    | 0, hu => simp at hu; subst hu; simp [Addr.add]
  · intro u hu; simp at hu; subst hu; rfl
  · intro a' c' w' h4 h5
    have hb0 : Below w.heap.size w (w.alloc (.cells #[.slice b m d] 38)) := (Below.refl _ _).alloc (Nat.le_refl _) _
    have hg := (Grows.of_below (.slice a n c) hb0).trans h5
    exact h a' c' w' (IIIO.push h2 h3 hlen hr hBS hS hS' hSS h4 hg) hg
end Go.Proofs.Ytpjkhkoecgjjbaa
