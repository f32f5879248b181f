/-
  Slices of monomials (a key, a coefficient): what they read as, what a call owns of them; appended to.
-/
import Derived.Test.YtblhndkaikelaaaPolyKey
import Derived.StillTailTactics
namespace Go.Proofs.Ytblhndkaikelaaa
open Go.RowKit

/-- the slice at address a reads as pairs -/
def RM (w : World) (a : Option Addr) (xs : List (Int × Int)) : Prop :=
  xs = [] ∨ ∃ b off, a = some ⟨b, off, none⟩ ∧ ∀ k p, xs[k]? = some p → w.cell? ⟨b, off + k * 2, none⟩ = some (.int .i64 p.1) ∧ w.cell? ⟨b, off + k * 2 + 1, none⟩ = some (.int .i64 p.2)
theorem RM.at {w : World} {a : Option Addr} {xs : List (Int × Int)} (h : RM w a xs) {k : Nat} (hk : k < xs.length) :
    ∃ b off, a = some ⟨b, off, none⟩ ∧ ∀ k p, xs[k]? = some p → w.cell? ⟨b, off + k * 2, none⟩ = some (.int .i64 p.1) ∧ w.cell? ⟨b, off + k * 2 + 1, none⟩ = some (.int .i64 p.2) := by
  rcases h with rfl | h
  · simp at hk
  · exact h
theorem RM.below {w w' : World} {a : Option Addr} {xs : List (Int × Int)} (h : RM w a xs) (hb : Below w.heap.size w w') : RM w' a xs := by
  rcases h with h | ⟨b, off, ha, hc⟩
  · exact .inl h
  · exact .inr ⟨b, off, ha, fun k x hx => by
      obtain ⟨h1, h2⟩ := hc k x hx
      exact ⟨by rw [hb.cell (World.block_lt_of_cell? w _ h1)]; exact h1, by rw [hb.cell (World.block_lt_of_cell? w _ h2)]; exact h2⟩⟩

theorem pairM_at {xs : List (Int × Int)} {n k : Nat} (h : xs.length = n) (hk : k < n) : ∃ p q, xs[k]? = some (p, q) := ⟨(xs[k]'(by omega)).1, (xs[k]'(by omega)).2, List.getElem?_eq_getElem (by omega)⟩
def prm : List (Int × Int) → List Value
  | [] => []
  | p :: xs => .int .i64 p.1 :: .int .i64 p.2 :: prm xs
theorem prm_length (xs : List (Int × Int)) : (prm xs).length = xs.length * 2 := by
  induction xs with
  | nil => rfl
  | cons p xs ih => simp only [prm, List.length_cons, ih]; omega
theorem prm_at {xs : List (Int × Int)} : ∀ {k : Nat} {p : Int × Int}, xs[k]? = some p → (prm xs)[k * 2]? = some (.int .i64 p.1) ∧ (prm xs)[k * 2 + 1]? = some (.int .i64 p.2) := by
  induction xs with
  | nil => intro k p h; simp at h
  | cons q xs ih =>
    intro k p h
    rcases k with _ | k
    · simp only [List.getElem?_cons_zero, Option.some.injEq] at h
      subst h
      exact ⟨rfl, rfl⟩
    · simp only [List.getElem?_cons_succ] at h
      have := ih h
      have e : (k + 1) * 2 = k * 2 + 1 + 1 := by omega
      rw [e]
      simpa [prm] using this
theorem prm_append (xs ys : List (Int × Int)) : prm (xs ++ ys) = prm xs ++ prm ys := by
  induction xs with
  | nil => rfl
  | cons p xs ih => simp [prm, ih]
theorem prm_set {xs : List (Int × Int)} : ∀ {k : Nat} {p : Int × Int}, xs[k]? = some p → ∀ u : Int, (prm xs).set (k * 2) (.int .i64 u) = prm (xs.set k (u, p.2)) ∧ (prm xs).set (k * 2 + 1) (.int .i64 u) = prm (xs.set k (p.1, u)) := by
  induction xs with
  | nil => intro k p h; simp at h
  | cons q xs ih =>
    intro k p h u
    rcases k with _ | k
    · simp only [List.getElem?_cons_zero, Option.some.injEq] at h
      subst h
      exact ⟨rfl, rfl⟩
    · simp only [List.getElem?_cons_succ] at h
      obtain ⟨h1, h2⟩ := ih h u
      have e : (k + 1) * 2 = k * 2 + 1 + 1 := by omega
      rw [e]
      simp only [prm, List.set_cons_succ, h1, h2]
      exact ⟨trivial, trivial⟩

/-- the slice of cells is a row of the call's own, in a block from B on and below S -/
def MO (w : World) (B S : Nat) (a : Option Addr) (n c : Nat) (xs : List (Int × Int)) : Prop :=
  w.ownsRow B 78 2 (.slice a n c) n (prm xs) ∧ ∀ k, (Value.slice a n c).ownBlock = some k → k < S
theorem MO.len {w : World} {B S : Nat} {a : Option Addr} {n c : Nat} {xs : List (Int × Int)} (h : MO w B S a n c xs) : xs.length = n := by
  have := h.1.1; rw [prm_length] at this; omega
theorem MO.mk {w : World} {B : Nat} {a : Option Addr} {n c : Nat} {xs : List (Int × Int)} (h : w.ownsRow B 78 2 (.slice a n c) n (prm xs)) : MO w B w.heap.size a n c xs := ⟨h, fun k hk => (h.lt k hk).2⟩
theorem MO.lo {w : World} {B S : Nat} {a : Option Addr} {n c : Nat} {xs : List (Int × Int)} (h : MO w B S a n c xs) : ∀ k, (Value.slice a n c).ownBlock = some k → B ≤ k := fun k hk => (h.1.lt k hk).1
theorem MO.nil {w : World} {B S : Nat} : MO w B S none 0 0 [] := ⟨⟨rfl, .inl ⟨rfl, rfl⟩⟩, fun k hk => by simp [Value.ownBlock] at hk⟩
theorem MO.cons {w : World} {B S : Nat} {a : Option Addr} {n c : Nat} {xs : List (Int × Int)} (h : MO w B S a n c xs) {j : Nat} {p : Int × Int} (hp : xs[j]? = some p) :
    ∃ g, a = some ⟨g, 0, none⟩ ∧ B ≤ g ∧ w.cell? ⟨g, j * 2, none⟩ = some (.int .i64 p.1) ∧ w.cell? ⟨g, j * 2 + 1, none⟩ = some (.int .i64 p.2) ∧ w.frozen? ⟨g, j * 2, none⟩ = false ∧ w.frozen? ⟨g, j * 2 + 1, none⟩ = false := by
  have hl := h.len
  have hj : j < n := by have := (List.getElem?_eq_some_iff.1 hp).1; omega
  have h' := h.1
  rcases h.1.2 with ⟨_, h2⟩ | ⟨g, cap, cur, hv, hb, _⟩
  · omega
  · simp only [Value.slice.injEq] at hv
    obtain ⟨rfl, _, rfl⟩ := hv
    obtain ⟨e1, e2⟩ := prm_at hp
    exact ⟨g, rfl, hb, by rw [h'.cellAt _ (by omega)]; exact e1, by rw [h'.cellAt _ (by omega)]; exact e2, h'.frozenAt _, h'.frozenAt _⟩
theorem MO.rd {w : World} {B S : Nat} {a : Option Addr} {n c : Nat} {xs : List (Int × Int)} (h : MO w B S a n c xs) : RM w a xs := by
  rcases xs with _ | ⟨p0, xs⟩
  · exact .inl rfl
  · obtain ⟨g, rfl, _⟩ := h.cons (j := 0) (p := p0) rfl
    refine .inr ⟨g, 0, rfl, fun k p hp => ?_⟩
    obtain ⟨g', e, _, h1, h2, _⟩ := h.cons hp
    obtain rfl : g = g' := by simpa using e
    simp only [Nat.zero_add]
    exact ⟨h1, h2⟩
theorem MO.store {w : World} {B S g n c : Nat} {xs : List (Int × Int)} (h : MO w B S (some ⟨g, 0, none⟩) n c xs) {j : Nat} {p : Int × Int} (hp : xs[j]? = some p) (u : Int) :
    (MO (w.setCell ⟨g, j * 2, none⟩ (.int .i64 u)) B S (some ⟨g, 0, none⟩) n c (xs.set j (u, p.2)) ∧ w.grownBy (w.setCell ⟨g, j * 2, none⟩ (.int .i64 u)) (some g)) ∧
    (MO (w.setCell ⟨g, j * 2 + 1, none⟩ (.int .i64 u)) B S (some ⟨g, 0, none⟩) n c (xs.set j (p.1, u)) ∧ w.grownBy (w.setCell ⟨g, j * 2 + 1, none⟩ (.int .i64 u)) (some g)) := by
  obtain ⟨e1, e2⟩ := prm_set hp u
  have s1 := h.1.stored (j * 2) (.int .i64 u)
  have s2 := h.1.stored (j * 2 + 1) (.int .i64 u)
  exact ⟨⟨⟨by rw [← e1]; exact s1.1, h.2⟩, s1.2⟩, ⟨⟨by rw [← e2]; exact s2.1, h.2⟩, s2.2⟩⟩
theorem MO.only {w w' : World} {B S B' S' : Nat} {a : Option Addr} {n c : Nat} {xs : List (Int × Int)} (h : MO w B S a n c xs) (ho : Only B' S' w w') (hd : S ≤ B' ∨ S' ≤ B) : MO w' B S a n c xs := by
  refine ⟨⟨h.1.1, ?_⟩, h.2⟩
  have hh := h.2
  have hl := h.lo
  rcases h.1.2 with h2 | ⟨g, cap, cur, hv, hg, hb, r⟩
  · exact .inl h2
  · simp only [Value.slice.injEq] at hv
    obtain ⟨rfl, _, rfl⟩ := hv
    have h1 := hh g rfl
    have h3 := hl g rfl
    exact .inr ⟨g, c, cur, rfl, hg, by rw [ho.block g (Array.getElem?_eq_some_iff.1 hb).1 (by omega)]; exact hb, r⟩
theorem MO.below {w w' : World} {B S : Nat} {a : Option Addr} {n c : Nat} {xs : List (Int × Int)} (h : MO w B S a n c xs) (hb : Below w.heap.size w w') : MO w' B S a n c xs := h.only (Only.of_below hb) (.inr (Nat.zero_le _))
theorem MO.mono {w : World} {B S B' S' : Nat} {a : Option Addr} {n c : Nat} {xs : List (Int × Int)} (h : MO w B S a n c xs) (hB : B' ≤ B) (hS : S ≤ S') : MO w B' S' a n c xs := by
  refine ⟨⟨h.1.1, ?_⟩, fun k hk => Nat.lt_of_lt_of_le (h.2 k hk) hS⟩
  rcases h.1.2 with h2 | ⟨g, cap, cur, hv, hg, r⟩
  · exact .inl h2
  · exact .inr ⟨g, cap, cur, hv, Nat.le_trans hB hg, r⟩

theorem Try.infoMon : (Try.prog.info? 78).map (fun i => (i.zero, i.size, i.bytes)) = some (some (.agg #[.int .i64 0, .int .i64 0]), 2, 16) := by kernel_rfl
theorem slice_of2M {w : World} {B e n : Nat} {v : Value} {xs : List Value} (h : w.ownsRow B e 2 v n xs) : ∃ a c, v = .slice a n c := by
  rcases h.2 with ⟨rfl, rfl⟩ | ⟨g, cap, cur, rfl, _⟩
  · exact ⟨none, 0, rfl⟩
  · exact ⟨_, cap, rfl⟩
theorem wpList_pushM {w W : World} {p q : Int} (hW : W = w.alloc (.cells #[.int .i64 p, .int .i64 q] 78)) {ops : Array Oper} {rest : List Oper} {o : Oper} {ac : Act} {Q : Exit → Act → World → Prop} (hgd : o.guard = none) (s x : Operand)
    (ho : o.op = .call { callee := .builtin .append, args := #[s, x], argTypes := #[52, 52] })
    {B S : Nat} {a : Option Addr} {n c : Nat} {xs : List (Int × Int)} (hown : MO w B S a n c xs) (hs : ac.eval s = .slice a n c)
    (hx : ac.eval x = .slice (some ⟨w.heap.size, 0, none⟩) 1 1) (hn : n + 1 ≤ 1048576) (hbase : B ≤ w.heap.size)
    (h : ∀ a' c' w', MO w' B w'.heap.size a' (n + 1) c' (xs ++ [(p, q)]) → w.grownBy w' (Value.slice a n c).ownBlock → wpList Try.prog ops Q rest (ac.put o.dst (.slice a' (n + 1) c')) w') :
    wpList Try.prog ops Q (o :: rest) ac W := by
  subst hW
  obtain ⟨i0, hi, hz0, hz1, hz2⟩ := info_parts Try.infoMon
  refine wpList_append_own _ hgd s x 52 ho B 78 i0 (.agg #[.int .i64 0, .int .i64 0]) 2 16 Try.underlying52 hi hz0 hz1 hz2 rfl (by decide) _ n (prm xs) hs (hown.1.alloc _) ⟨w.heap.size, 0, none⟩ 1 1 [.int .i64 p, .int .i64 q] hx rfl ?_ ?_ (by unfold maxLen; omega) (by omega) (by simp; omega) ?_
  · intro j y hj
    match j, hj with
    | 0, hj => simp at hj; subst hj; simp [Addr.add]
    | 1, hj => simp at hj; subst hj; simp [Addr.add]
  · intro y hy
    simp at hy
    rcases hy with rfl | rfl <;> rfl
  · intro v' w' h2 h3 _
    obtain ⟨a', c', rfl⟩ := slice_of2M h2
    exact h a' c' w' (MO.mk (by rw [prm_append]; exact h2)) (grownBy.trans (World.grownBy_alloc w _ _) h3)
theorem MO.made (w : World) : MO (w.alloc (.cells #[] 78)) w.heap.size (w.alloc (.cells #[] 78)).heap.size (some ⟨w.heap.size, 0, none⟩) 0 0 [] :=
  MO.mk (World.ownsRow_made _ #[] 0 (Nat.le_refl _) (Nat.zero_le _) rfl)
theorem MO.nilv {w : World} {B S : Nat} : MO w B S none 0 0 [] := MO.nil
/-- append of a list of monomials -/
theorem wpList_appM {w : World} {ops : Array Oper} {rest : List Oper} {o : Oper} {ac : Act} {Q : Exit → Act → World → Prop} (hgd : o.guard = none) (s x : Operand)
    (ho : o.op = .call { callee := .builtin .append, args := #[s, x], argTypes := #[52, 52] })
    {B S : Nat} {a : Option Addr} {n c : Nat} {xs : List (Int × Int)} (hown : MO w B S a n c xs) (hs : ac.eval s = .slice a n c)
    {b : Nat} {off m d : Nat} {ys : List (Int × Int)} (hr : ∀ k p, ys[k]? = some p → w.cell? ⟨b, off + k * 2, none⟩ = some (.int .i64 p.1) ∧ w.cell? ⟨b, off + k * 2 + 1, none⟩ = some (.int .i64 p.2)) (hm : ys.length = m) (hx : ac.eval x = .slice (some ⟨b, off, none⟩) m d) (hn : n + m ≤ 16777216) (hbase : B ≤ w.heap.size)
    (h : ∀ a' c' w', MO w' B w'.heap.size a' (n + m) c' (xs ++ ys) → w.grownBy w' (Value.slice a n c).ownBlock → wpList Try.prog ops Q rest (ac.put o.dst (.slice a' (n + m) c')) w') :
    wpList Try.prog ops Q (o :: rest) ac w := by
  obtain ⟨i0, hi, hz0, hz1, hz2⟩ := info_parts Try.infoMon
  refine wpList_append_own _ hgd s x 52 ho B 78 i0 (.agg #[.int .i64 0, .int .i64 0]) 2 16 Try.underlying52 hi hz0 hz1 hz2 rfl (by decide) _ n (prm xs) hs hown.1 ⟨b, off, none⟩ m d (prm ys) hx (by rw [prm_length, hm]) ?_ ?_ (by unfold maxLen; omega) (by omega) hbase ?_
  · intro j y hj
    have hj2 : j / 2 < ys.length := by have := lt_of_some hj; rw [prm_length] at this; omega
    obtain ⟨p, hp⟩ := some_of hj2
    obtain ⟨h1, h2⟩ := hr _ _ hp
    obtain ⟨e1, e2⟩ := prm_at hp
    rw [show (⟨b, off, none⟩ : Addr).add j = ⟨b, off + j, none⟩ from by unfold Addr.add; split <;> simp_all]
    rcases Nat.mod_two_eq_zero_or_one j with h0 | h0
    · have ej : j / 2 * 2 = j := by omega
      rw [ej] at e1 h1
      rw [e1] at hj
      obtain rfl := Option.some.inj hj
      exact h1
    · have ej : j / 2 * 2 + 1 = j := by omega
      rw [ej] at e2
      rw [Nat.add_assoc, ej] at h2
      rw [e2] at hj
      obtain rfl := Option.some.inj hj
      exact h2
  · intro y hy
    have : ∀ zs : List (Int × Int), y ∈ prm zs → y.oneCell' = true := by
      intro zs
      induction zs with
      | nil => intro h; cases h
      | cons z zs ih =>
        intro h
        simp only [prm, List.mem_cons] at h
        rcases h with rfl | rfl | h
        · rfl
        · rfl
        · exact ih h
    exact this ys hy
  · intro v' w' h2 h3 _
    obtain ⟨a', c', rfl⟩ := slice_of2M h2
    exact h a' c' w' (MO.mk (by rw [prm_append]; exact h2)) h3
end Go.Proofs.Ytblhndkaikelaaa
