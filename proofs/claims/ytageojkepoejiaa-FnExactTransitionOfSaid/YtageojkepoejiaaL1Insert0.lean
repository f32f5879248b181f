/-
  Contract of l1Insert of the reference.
-/
import Derived.Test.YtageojkepoejiaaStepApp
import Derived.Test.YtageojkepoejiaaSameI
import Derived.Deep.RegionHeld3
namespace Go.Proofs.Ytageojkepoejiaa
open Go.RowKit

theorem addr_add (g o j : Nat) : (⟨g, o, none⟩ : Addr).add j = ⟨g, o + j, none⟩ := by unfold Addr.add; split <;> simp_all
theorem news_made (W : World) (v : Value) (_hv : v.oneCell' = true) : ∀ ad, (some ⟨W.heap.size, 0, none⟩ : Option Addr) = some ad → ∀ j u, [v][j]? = some u → (W.alloc (.cells #[v] 22)).cell? (ad.add j) = some u := by
  intro ad had j u hu
  obtain rfl := Option.some.inj had
  match j, hu with
  | 0, hu => simp at hu; subst hu; simp [Addr.add]
theorem news_kept {W W' : World} {g : Nat} {us : List Value} {row : Option Nat} (h : ∀ ad, (some ⟨g, 0, none⟩ : Option Addr) = some ad → ∀ j u, us[j]? = some u → W.cell? (ad.add j) = some u) (hg : W.grownBy W' row) (hne : row ≠ some g) :
    ∀ ad, (some ⟨g, 0, none⟩ : Option Addr) = some ad → ∀ j u, us[j]? = some u → W'.cell? (ad.add j) = some u := by
  intro ad had j u hu
  have h1 := h ad had j u hu
  obtain rfl := Option.some.inj had
  have hb : ((⟨g, 0, none⟩ : Addr).add j).block = g := by unfold Addr.add; split <;> rfl
  exact hg.cell h1 (by rw [hb]; exact fun e => hne e.symm)
theorem made_row {w W : World} (hB : Below w.heap.size w W) : (W.alloc (.cells #[] 22)).ownsRow w.heap.size 22 1 (.slice (some ⟨W.heap.size, 0, none⟩) 0 0) 0 [] :=
  ownsRow_base (World.ownsRow_made W #[] 0 (Nat.le_refl _) (Nat.zero_le _) rfl) hB.size
theorem news_take {w W : World} {B g n c k : Nat} {vs : List Value} (h : w.ownsRow B 22 1 (.slice (some ⟨g, 0, none⟩) n c) n vs) (hB : Below w.heap.size w W) :
    ∀ ad, (some ⟨g, 0, none⟩ : Option Addr) = some ad → ∀ j u, (vs.take k)[j]? = some u → W.cell? (ad.add j) = some u := by
  intro ad had j u hu
  obtain rfl := Option.some.inj had
  rcases ownsRow_shape h with ⟨_, h0, _⟩ | ⟨g', e, _, _, hc, _⟩
  · cases h0
  · have hj : j < k := by have := lt_of_some hu; rw [List.length_take] at this; omega
    rw [List.getElem?_take_of_lt hj] at hu
    have h1 := hc j u hu
    simp only [Option.some.injEq, Addr.mk.injEq] at e
    obtain ⟨rfl, _⟩ := e
    rw [← hB.cell (World.block_lt_of_cell? w _ h1)] at h1
    rw [addr_add]
    simpa using h1
theorem news_drop {w W : World} {B g n c k : Nat} {vs : List Value} (h : w.ownsRow B 22 1 (.slice (some ⟨g, 0, none⟩) n c) n vs) (hB : Below w.heap.size w W) :
    ∀ ad, (some ⟨g, k, none⟩ : Option Addr) = some ad → ∀ j u, (vs.drop k)[j]? = some u → W.cell? (ad.add j) = some u := by
  intro ad had j u hu
  obtain rfl := Option.some.inj had
  rcases ownsRow_shape h with ⟨_, h0, _⟩ | ⟨g', e, _, _, hc, _⟩
  · cases h0
  · rw [List.getElem?_drop] at hu
    have h1 := hc (k + j) u hu
    simp only [Option.some.injEq, Addr.mk.injEq] at e
    obtain ⟨rfl, _⟩ := e
    rw [← hB.cell (World.block_lt_of_cell? w _ h1)] at h1
    rw [addr_add]
    simpa using h1
theorem InnerS.one {w : World} {B S : Nat} {vs : List Value} {xss : List (List Int)} (h : InnerS w B S vs xss) : ∀ u ∈ vs, u.oneCell' = true := by
  intro u hu
  obtain ⟨k, hk⟩ := List.getElem?_of_mem hu
  obtain ⟨xs, hx⟩ := some_of (show k < xss.length by rw [← h.len]; exact lt_of_some hk)
  obtain ⟨a, c, e, _⟩ := h.each k xs hx
  rw [hk] at e
  obtain rfl := Option.some.inj e
  rfl
theorem InnerS.append {w : World} {B S : Nat} {vs us : List Value} {xss yss : List (List Int)} (h : InnerS w B S vs xss) (k : InnerS w B S us yss) : InnerS w B S (vs ++ us) (xss ++ yss) := by
  refine ⟨by simp [h.len, k.len], fun j xs hx => ?_⟩
  rcases Nat.lt_or_ge j xss.length with hj | hj
  · rw [List.getElem?_append_left hj] at hx
    rw [List.getElem?_append_left (by rw [h.len]; exact hj)]
    exact h.each j xs hx
  · rw [List.getElem?_append_right hj] at hx
    rw [List.getElem?_append_right (by rw [h.len]; exact hj), h.len]
    exact k.each _ xs hx
theorem InnerS.take {w : World} {B S : Nat} {vs : List Value} {xss : List (List Int)} (h : InnerS w B S vs xss) (k : Nat) : InnerS w B S (vs.take k) (xss.take k) := by
  refine ⟨by simp [h.len], fun j xs hx => ?_⟩
  have hj : j < k := by have := lt_of_some hx; rw [List.length_take] at this; omega
  rw [List.getElem?_take_of_lt hj] at hx ⊢
  exact h.each j xs hx
theorem InnerS.drop {w : World} {B S : Nat} {vs : List Value} {xss : List (List Int)} (h : InnerS w B S vs xss) (k : Nat) : InnerS w B S (vs.drop k) (xss.drop k) := by
  refine ⟨by simp [h.len], fun j xs hx => ?_⟩
  rw [List.getElem?_drop] at hx ⊢
  exact h.each _ xs hx
theorem InnerS.single {w : World} {B S : Nat} {a : Option Addr} {n c : Nat} {xs : List Int} (h : OwI w B S a n c xs) : InnerS w B S [.slice a n c] [xs] := by
  refine ⟨rfl, fun j ys hy => ?_⟩
  match j, hy with
  | 0, hy =>
    simp at hy
    subst hy
    have hl := h.len
    subst hl
    exact ⟨a, c, rfl, h⟩
theorem InnerS.below {w w' : World} {B S S' : Nat} {vs : List Value} {xss : List (List Int)} (h : InnerS w B S vs xss) (hB : Below w.heap.size w w') (hS : S ≤ S') : InnerS w' B S' vs xss :=
  ⟨h.len, fun k xs hx => by obtain ⟨a, c, h1, h2⟩ := h.each k xs hx; exact ⟨a, c, h1, (h2.below hB).mono (Nat.le_refl _) hS⟩⟩
theorem iis_ins {w w' : World} {B S : Nat} {vs : List Value} {xss : List (List Int)} {ys : List Int} {k n' m cx c' : Nat} {ax a' : Option Addr} (h3 : InnerS w B S vs xss) (hx : OwI w B S ax m cx ys) (hB : Below w.heap.size w w') (hBw : B ≤ w.heap.size) (hS : S ≤ w.heap.size)
    (ho : w'.ownsRow w.heap.size 22 1 (.slice a' n' c') n' (vs.take k ++ [.slice ax m cx] ++ vs.drop k)) : IIS w' B w'.heap.size a' n' c' (xss.take k ++ [ys] ++ xss.drop k) := by
  refine ⟨_, ownsRow_base ho hBw, fun j hj => (ho.lt j hj).2, ?_⟩
  exact (((h3.take k).append (InnerS.single hx)).append (h3.drop k)).below hB (Nat.le_trans hS hB.size)
end Go.Proofs.Ytageojkepoejiaa
