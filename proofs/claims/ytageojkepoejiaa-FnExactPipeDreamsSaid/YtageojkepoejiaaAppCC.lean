/-
  append of a list of dreams to another: 'append(out, l...)'.
-/
import Derived.Test.YtageojkepoejiaaBuP14
namespace Go.Proofs.Ytageojkepoejiaa
open Go.RowKit

/-- as CCO; the row itself may lie in a newer block than the rows in it -/
def CCO2 (w : World) (B S T : Nat) (a : Option Addr) (n c : Nat) (xss : List (List (Int × Int))) : Prop :=
  ∃ vs, w.ownsRow B 36 1 (.slice a n c) n vs ∧ (∀ k, (Value.slice a n c).ownBlock = some k → k < T) ∧ InnerC w B S vs xss
theorem CCO.two {w : World} {B S : Nat} {a : Option Addr} {n c : Nat} {xss : List (List (Int × Int))} (h : CCO w B S a n c xss) : CCO2 w B S S a n c xss := h

theorem wpList_appCC2 {w : World} {ops : Array Oper} {rest : List Oper} {o : Oper} {ac : Act} {Q : Exit → Act → World → Prop} (hgd : o.guard = none) (s x : Operand)
    (ho : o.op = .call { callee := .builtin .append, args := #[s, x], argTypes := #[34, 34] })
    {B S T : Nat} {a : Option Addr} {n c : Nat} {xss : List (List (Int × Int))} (hown : CCO2 w B S T a n c xss) (hs : ac.eval s = .slice a n c)
    {B2 S2 : Nat} {b : Option Addr} {m d : Nat} {yss : List (List (Int × Int))} (hr : CCO w B2 S2 b m d yss) (hBS : B ≤ S) (hS2 : S ≤ B2) (hx : ac.eval x = .slice b m d) (hn : n + m ≤ 16777216) (hbase : B ≤ w.heap.size) (hS : S ≤ w.heap.size) (hSw : S2 ≤ w.heap.size)
    (h : ∀ a' c' w', CCO w' B w'.heap.size a' (n + m) c' (xss ++ yss) → Grows w w' (.slice a n c) (.slice a' (n + m) c') → wpList Try.prog ops Q rest (ac.put o.dst (.slice a' (n + m) c')) w') :
    wpList Try.prog ops Q (o :: rest) ac w := by
  obtain ⟨i0, hi, hz0, hz1, hz2⟩ := info_parts Try.info36
  obtain ⟨vs, h1, h2, h3⟩ := hown
  obtain ⟨us, k1, k2, k3⟩ := hr
  have hul : us.length = m := by have := k1.1; omega
  refine wpList_app _ hgd s x 34 ho B 36 i0 (.slice none 0 0) 24 Try.underlying34 hi hz0 hz1 hz2 rfl _ n vs hs h1 b m d us hx hul ?_ ?_ ?_ hn (by omega) hbase ?_
  · intro hb0
    rcases ownsRow_shape k1 with ⟨h0, _⟩ | ⟨g, e, _⟩
    · exact h0
    · rw [hb0] at e; cases e
  · intro ad had j u hu
    rcases ownsRow_shape k1 with ⟨_, e, _⟩ | ⟨g, e, _, _, hc, _⟩
    · rw [had] at e; cases e
    · rw [had] at e
      obtain rfl := Option.some.inj e
      have := hc j u hu
      rw [show (⟨g, 0, none⟩ : Addr).add j = ⟨g, j, none⟩ by unfold Addr.add; split <;> simp_all]
      exact this
  · intro u hu
    obtain ⟨k, hk⟩ := List.getElem?_of_mem hu
    obtain ⟨zs, hz⟩ := some_of (show k < yss.length by rw [← k3.len]; exact lt_of_some hk)
    obtain ⟨a2, c2, e1, _⟩ := k3.each k zs hz
    rw [hk] at e1
    obtain rfl := Option.some.inj e1
    rfl
  · intro a' c' w' h4 hg
    have hsz := hg.grown.size
    have hold : ∀ (k : Nat) (v : Value), vs[k]? = some v → ∀ q, v.ownBlock = some q → q < S := by
      intro k v hv q hq
      have hk : k < xss.length := by rw [← h3.len]; exact lt_of_some hv
      obtain ⟨zs, hz⟩ := some_of hk
      obtain ⟨a2, c2, e1, e2⟩ := h3.each k zs hz
      rw [hv] at e1
      obtain rfl := Option.some.inj e1
      exact e2.2 q hq
    have hnew : ∀ (k : Nat) (v : Value), us[k]? = some v → ∀ q, v.ownBlock = some q → S ≤ q := by
      intro k v hv q hq
      have hk : k < yss.length := by rw [← k3.len]; exact lt_of_some hv
      obtain ⟨zs, hz⟩ := some_of hk
      obtain ⟨a2, c2, e1, e2⟩ := k3.each k zs hz
      rw [hv] at e1
      obtain rfl := Option.some.inj e1
      exact Nat.le_trans hS2 (e2.lo q hq)
    refine h a' c' w' ⟨vs ++ us, h4, fun k hk => (h4.lt k hk).2, by simp [h3.len, k3.len], fun k zs hz => ?_, ?_⟩ hg
    · rcases Nat.lt_or_ge k xss.length with hk | hk
      · rw [List.getElem?_append_left hk] at hz
        obtain ⟨a2, c2, e1, e2⟩ := h3.each k zs hz
        exact ⟨a2, c2, by rw [List.getElem?_append_left (by rw [h3.len]; exact hk)]; exact e1, (e2.grows hg h1).mono (Nat.le_refl _) (by omega)⟩
      · rw [List.getElem?_append_right hk] at hz
        obtain ⟨a2, c2, e1, e2⟩ := k3.each _ zs hz
        exact ⟨a2, c2, by rw [List.getElem?_append_right (by rw [h3.len]; exact hk), h3.len]; exact e1, (e2.grows hg h1).mono (by omega) (by omega)⟩
    · intro i j u v g hu hv hug hvg
      rcases Nat.lt_or_ge i vs.length with hi | hi <;> rcases Nat.lt_or_ge j vs.length with hj | hj
      · rw [List.getElem?_append_left hi] at hu
        rw [List.getElem?_append_left hj] at hv
        exact h3.apart i j u v g hu hv hug hvg
      · rw [List.getElem?_append_left hi] at hu
        rw [List.getElem?_append_right hj] at hv
        have := hold i u hu g hug
        have := hnew _ v hv g hvg
        omega
      · rw [List.getElem?_append_right hi] at hu
        rw [List.getElem?_append_left hj] at hv
        have := hold j v hv g hvg
        have := hnew _ u hu g hug
        omega
      · rw [List.getElem?_append_right hi] at hu
        rw [List.getElem?_append_right hj] at hv
        have := k3.apart _ _ u v g hu hv hug hvg
        omega
theorem wpList_appCC {w : World} {ops : Array Oper} {rest : List Oper} {o : Oper} {ac : Act} {Q : Exit → Act → World → Prop} (hgd : o.guard = none) (s x : Operand)
    (ho : o.op = .call { callee := .builtin .append, args := #[s, x], argTypes := #[34, 34] })
    {B S : Nat} {a : Option Addr} {n c : Nat} {xss : List (List (Int × Int))} (hown : CCO w B S a n c xss) (hs : ac.eval s = .slice a n c)
    {B2 S2 : Nat} {b : Option Addr} {m d : Nat} {yss : List (List (Int × Int))} (hr : CCO w B2 S2 b m d yss) (hBS : B ≤ S) (hS2 : S ≤ B2) (hx : ac.eval x = .slice b m d) (hn : n + m ≤ 16777216) (hbase : B ≤ w.heap.size) (hS : S ≤ w.heap.size) (hSw : S2 ≤ w.heap.size)
    (h : ∀ a' c' w', CCO w' B w'.heap.size a' (n + m) c' (xss ++ yss) → Grows w w' (.slice a n c) (.slice a' (n + m) c') → wpList Try.prog ops Q rest (ac.put o.dst (.slice a' (n + m) c')) w') :
    wpList Try.prog ops Q (o :: rest) ac w := wpList_appCC2 hgd s x ho hown.two hs hr hBS hS2 hx hn hbase hS hSw h
end Go.Proofs.Ytageojkepoejiaa
