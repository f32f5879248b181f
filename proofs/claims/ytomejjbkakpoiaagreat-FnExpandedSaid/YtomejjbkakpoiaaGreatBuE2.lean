/-
  Slices of slices of integers: what they read as, what a call owns of them; copied, compared, marked, held.
  Slices of slices of integers: marked, held, copied.
-/
import Derived.Test.YtomejjbkakpoiaaGreatBuE1
namespace Go.Proofs.YtomejjbkakpoiaaGreat
open Go.RowKit

theorem Tryz.info24 : (Tryz.prog.info? 24).map (fun i => (i.zero, i.size, i.bytes)) = some (some (.slice none 0 0), 1, 24) := by kernel_rfl

/-- the slice at address a reads as xss -/
def RII (w : World) (a : Option Addr) (xss : List (List Int)) : Prop :=
  xss = [] ∨ ∃ b off, a = some ⟨b, off, none⟩ ∧ ∀ k xs, xss[k]? = some xs → ∃ a' c', w.cell? ⟨b, off + k, none⟩ = some (.slice a' xs.length c') ∧ RI w a' xs
theorem RII.at {w : World} {a : Option Addr} {xss : List (List Int)} (h : RII w a xss) {k : Nat} (hk : k < xss.length) :
    ∃ b off, a = some ⟨b, off, none⟩ ∧ ∀ k xs, xss[k]? = some xs → ∃ a' c', w.cell? ⟨b, off + k, none⟩ = some (.slice a' xs.length c') ∧ RI w a' xs := by
  rcases h with rfl | h
  · simp at hk
  · exact h
theorem RII.below {w w' : World} {a : Option Addr} {xss : List (List Int)} (h : RII w a xss) (hb : Below w.heap.size w w') : RII w' a xss := by
  rcases h with h | ⟨b, off, ha, hc⟩
  · exact .inl h
  · exact .inr ⟨b, off, ha, fun k xs hx => by
      obtain ⟨a', c', h1, h2⟩ := hc k xs hx
      exact ⟨a', c', by rw [hb.cell (World.block_lt_of_cell? w _ h1)]; exact h1, h2.below hb⟩⟩
theorem RII.drew {w w' : World} {a : Option Addr} {xss : List (List Int)} (h : RII w a xss) (d : Drew w w') : RII w' a xss := h.below (d.below _)

/-- a row of slices: each holds its integers in a block of its own, from block B on and below S -/
structure Inner (w : World) (B S : Nat) (vs : List Value) (xss : List (List Int)) : Prop where
  len : vs.length = xss.length
  each : ∀ (k : Nat) (xs : List Int), xss[k]? = some xs → ∃ (a : Option Addr) (c : Nat), vs[k]? = some (Value.slice a xs.length c) ∧ OwI w B S a xs.length c xs
  apart : ∀ (i j : Nat) (u v : Value) (g : Nat), vs[i]? = some u → vs[j]? = some v → u.ownBlock = some g → v.ownBlock = some g → i = j
/-- the slice is a row of the call's own and so are its rows -/
def IIO (w : World) (B S : Nat) (a : Option Addr) (n c : Nat) (xss : List (List Int)) : Prop :=
  ∃ vs, w.ownsRow B 24 1 (.slice a n c) n vs ∧ (∀ k, (Value.slice a n c).ownBlock = some k → k < S) ∧ Inner w B S vs xss
theorem some_of {α : Type} {xs : List α} {k : Nat} (hk : k < xs.length) : ∃ x, xs[k]? = some x := ⟨xs[k], List.getElem?_eq_getElem hk⟩
theorem lt_of_some {α : Type} {xs : List α} {k : Nat} {x : α} (h : xs[k]? = some x) : k < xs.length := (List.getElem?_eq_some_iff.1 h).1
theorem IIO.len {w : World} {B S : Nat} {a : Option Addr} {n c : Nat} {xss : List (List Int)} (h : IIO w B S a n c xss) : xss.length = n := by
  obtain ⟨vs, h1, _, h3⟩ := h
  rw [← h3.len]; have := h1.1; omega
/-- a row's cells, its address known -/
theorem ownsRow_shape {w : World} {B e n : Nat} {a : Option Addr} {c : Nat} {vs : List Value} (h : w.ownsRow B e 1 (.slice a n c) n vs) :
    (n = 0 ∧ a = none ∧ c = 0 ∧ vs = []) ∨ ∃ g, a = some ⟨g, 0, none⟩ ∧ B ≤ g ∧ g < w.heap.size ∧ (∀ k v, vs[k]? = some v → w.cell? ⟨g, k, none⟩ = some v) ∧ (∃ cur, w.heap[g]? = some (.cells cur e (0, 0))) := by
  have h' := h
  rcases h.2 with ⟨hv, h2⟩ | ⟨g, cap, cur, hv, hb, hh, _⟩
  · simp only [Value.slice.injEq] at hv
    have hl := h.1
    rw [h2] at hl
    exact .inl ⟨h2, hv.1, hv.2.2, List.eq_nil_of_length_eq_zero (by simpa using hl)⟩
  · simp only [Value.slice.injEq] at hv
    obtain ⟨rfl, _, rfl⟩ := hv
    refine .inr ⟨g, rfl, hb, (Array.getElem?_eq_some_iff.1 hh).1, fun k v hk => ?_, cur, hh⟩
    have hl := lt_of_some hk
    have := h'.1
    rw [h'.cellAt k (by omega)]
    exact hk
theorem IIO.rd {w : World} {B S : Nat} {a : Option Addr} {n c : Nat} {xss : List (List Int)} (h : IIO w B S a n c xss) : RII w a xss := by
  obtain ⟨vs, h1, _, h3⟩ := h
  rcases ownsRow_shape h1 with ⟨_, _, _, hv⟩ | ⟨g, rfl, _, _, hc, _⟩
  · left
    have := h3.len
    rw [hv] at this
    exact List.eq_nil_of_length_eq_zero this.symm
  · refine .inr ⟨g, 0, rfl, fun k xs hx => ?_⟩
    obtain ⟨a', c', hk, ho⟩ := h3.each k xs hx
    exact ⟨a', c', by rw [Nat.zero_add]; exact hc k _ hk, ho.rd⟩
theorem ownsRow_only {w w' : World} {B S B' S' e n : Nat} {v : Value} {vs : List Value} (h : w.ownsRow B e 1 v n vs) (hh : ∀ k, v.ownBlock = some k → k < S) (ho : Only B' S' w w') (hd : S ≤ B' ∨ S' ≤ B) : w'.ownsRow B e 1 v n vs := by
  refine ⟨h.1, ?_⟩
  have hl := h.lt
  rcases h.2 with h2 | ⟨g, cap, cur, hv, hg, hb, r⟩
  · exact .inl h2
  · subst hv
    have h1 := hh g rfl
    have h3 := (hl g rfl).1
    exact .inr ⟨g, cap, cur, rfl, hg, by rw [ho.block g (Array.getElem?_eq_some_iff.1 hb).1 (by omega)]; exact hb, r⟩
theorem Inner.only {w w' : World} {B S B' S' : Nat} {vs : List Value} {xss : List (List Int)} (h : Inner w B S vs xss) (ho : Only B' S' w w') (hd : S ≤ B' ∨ S' ≤ B) : Inner w' B S vs xss :=
  ⟨h.len, fun k xs hx => by obtain ⟨a, c, h1, h2⟩ := h.each k xs hx; exact ⟨a, c, h1, h2.only ho hd⟩, h.apart⟩
theorem IIO.only {w w' : World} {B S B' S' : Nat} {a : Option Addr} {n c : Nat} {xss : List (List Int)} (h : IIO w B S a n c xss) (ho : Only B' S' w w') (hd : S ≤ B' ∨ S' ≤ B) : IIO w' B S a n c xss := by
  obtain ⟨vs, h1, h2, h3⟩ := h
  exact ⟨vs, ownsRow_only h1 h2 ho hd, h2, h3.only ho hd⟩
theorem IIO.below {w w' : World} {B S : Nat} {a : Option Addr} {n c : Nat} {xss : List (List Int)} (h : IIO w B S a n c xss) (hb : Below w.heap.size w w') : IIO w' B S a n c xss := h.only (Only.of_below hb) (.inr (Nat.zero_le _))

/-! compared -/
theorem eqs_of_all {xs ys : List (List Int)} (hl : xs.length = ys.length) (h : ∀ j, j < xs.length → xs[j]? = ys[j]?) : decide (xs = ys) = true := by
  rw [decide_eq_true_iff]
  apply List.ext_getElem?
  intro j
  rcases Nat.lt_or_ge j xs.length with h1 | h1
  · exact h j h1
  · rw [List.getElem?_eq_none h1, List.getElem?_eq_none (by omega)]
theorem nes_of_at {xs ys : List (List Int)} {k : Nat} {x y : List Int} (hx : xs[k]? = some x) (hy : ys[k]? = some y) (h : x ≠ y) : decide (xs = ys) = false := by
  rw [decide_eq_false_iff_not]
  rintro rfl
  rw [hx] at hy
  exact h (by simpa using hy)

/-- a row's length is no more than so -/
def ShortII (xss : List (List Int)) : Prop := ∀ xs ∈ xss, xs.length ≤ 1048576

end Go.Proofs.YtomejjbkakpoiaaGreat

namespace Go.Proofs.YtomejjbkakpoiaaGreat
open Go.RowKit

def mk_II : List (List Int) → Int → List (List Int)
  | [], _ => []
  | xs :: r, k => mk_I xs k :: mk_II r (k + (xs.length : Int))
def sz_II : List (List Int) → Nat
  | [] => 0
  | xs :: r => xs.length + sz_II r
theorem sz_II_append (xs ys : List (List Int)) : sz_II (xs ++ ys) = sz_II xs + sz_II ys := by
  induction xs with
  | nil => simp [sz_II]
  | cons x xs ih => rw [List.cons_append, sz_II, sz_II, ih]; omega
theorem mk_II_length (xs : List (List Int)) (k : Int) : (mk_II xs k).length = xs.length := by
  induction xs generalizing k with
  | nil => rfl
  | cons x xs ih => rw [mk_II, List.length_cons, List.length_cons, ih]
theorem mk_II_append (xs ys : List (List Int)) (k : Int) : mk_II (xs ++ ys) k = mk_II xs k ++ mk_II ys (k + (sz_II xs : Int)) := by
  induction xs generalizing k with
  | nil => simp [sz_II, mk_II]
  | cons x xs ih =>
    rw [List.cons_append, mk_II, mk_II, ih, sz_II, List.cons_append]
    congr 3
    simp; omega
theorem take_at {α : Type} {xs : List α} {i : Nat} {x : α} (h : xs[i]? = some x) : xs.take (i + 1) = xs.take i ++ [x] := by
  obtain ⟨hi, rfl⟩ := List.getElem?_eq_some_iff.1 h
  exact List.take_succ_eq_append_getElem hi
theorem drop_at {α : Type} {xs : List α} {i : Nat} {x : α} (h : xs[i]? = some x) : xs.drop i = x :: xs.drop (i + 1) := by
  obtain ⟨hi, rfl⟩ := List.getElem?_eq_some_iff.1 h
  exact List.drop_eq_getElem_cons hi
theorem sz_II_take {xs : List (List Int)} {i : Nat} {x : List Int} (h : xs[i]? = some x) : sz_II (xs.take (i + 1)) = sz_II (xs.take i) + x.length := by
  rw [take_at h, sz_II_append]; rfl
theorem sz_II_le (xs : List (List Int)) (i : Nat) : sz_II (xs.take i) ≤ sz_II xs := by
  conv => rhs; rw [← List.take_append_drop i xs, sz_II_append]
  omega
theorem sz_II_each {xs : List (List Int)} {x : List Int} (h : x ∈ xs) : x.length ≤ sz_II xs := by
  induction xs with
  | nil => cases h
  | cons y ys ih =>
    rw [sz_II]
    rcases List.mem_cons.1 h with rfl | h
    · omega
    · have := ih h; omega
def mark_part (xs : List (List Int)) (k : Int) (i : Nat) : List (List Int) := mk_II (xs.take i) k ++ xs.drop i
theorem mark_part_zero (xs : List (List Int)) (k : Int) : mark_part xs k 0 = xs := by simp [mark_part, mk_II]
theorem mark_part_all {xs : List (List Int)} {n : Nat} (h : xs.length = n) (k : Int) : mark_part xs k n = mk_II xs k := by simp [mark_part, ← h]
theorem mark_part_at {xs : List (List Int)} {i : Nat} {x : List Int} (h : xs[i]? = some x) (k : Int) : (mark_part xs k i)[i]? = some x := by
  have hi := lt_of_some h
  have hl : (mk_II (xs.take i) k).length = i := by rw [mk_II_length, List.length_take]; omega
  unfold mark_part
  rw [List.getElem?_append_right (by omega), hl, Nat.sub_self, List.getElem?_drop, Nat.add_zero]
  exact h
theorem mark_part_succ {xs : List (List Int)} {i : Nat} {x : List Int} (h : xs[i]? = some x) (k : Int) : (mark_part xs k i).set i (mk_I x (k + (sz_II (xs.take i) : Int))) = mark_part xs k (i + 1) := by
  have hi := lt_of_some h
  have hl : (mk_II (xs.take i) k).length = i := by rw [mk_II_length, List.length_take]; omega
  unfold mark_part
  rw [drop_at h, List.set_append_right _ _ (by omega), hl, Nat.sub_self, take_at h, mk_II_append]
  simp [mk_II]
theorem mk_II_at {xs : List (List Int)} {i : Nat} {x : List Int} (h : xs[i]? = some x) (k : Int) : (mk_II xs k)[i]? = some (mk_I x (k + (sz_II (xs.take i) : Int))) := by
  have hi := lt_of_some h
  have hl : (mk_II (xs.take i) k).length = i := by rw [mk_II_length, List.length_take]; omega
  conv => lhs; rw [← List.take_append_drop i xs, mk_II_append, drop_at h]
  rw [List.getElem?_append_right (by omega), hl, Nat.sub_self, mk_II]
  rfl
theorem mk_I_length (xs : List Int) (k : Int) : (mk_I xs k).length = xs.length := by simp [mk_I, iota_length]

/-- a row of integers lies in another block than a row of slices -/
theorem ne_block {w : World} {B S B' n l : Nat} {a a' : Option Addr} {c c' : Nat} {vs : List Value} {xs : List Int} (h : w.ownsRow B' 24 1 (.slice a n c) n vs) (hi : OwI w B S a' l c' xs) :
    ∀ k, (Value.slice a n c).ownBlock = some k → (Value.slice a' l c').ownBlock ≠ some k := by
  intro k hk hk'
  rcases ownsRow_shape h with ⟨_, rfl, _⟩ | ⟨g, rfl, _, _, _, cur, hg⟩
  · cases hk
  · rcases ownsRow_shape hi.1.own with ⟨_, rfl, _⟩ | ⟨g', rfl, _, _, _, cur', hg'⟩
    · cases hk'
    · have e1 : g = k := by simpa [Value.ownBlock] using hk
      have e2 : g' = k := by simpa [Value.ownBlock] using hk'
      subst e1 e2
      rw [hg] at hg'
      simp at hg'
theorem grown_keeps {w w' : World} {B e n : Nat} {v : Value} {vs : List Value} {row : Option Nat} (h : w.ownsRow B e 1 v n vs) (hg : w.grownBy w' row) (hne : ∀ k, v.ownBlock = some k → row ≠ some k) : w'.ownsRow B e 1 v n vs := by
  refine h.kept hg ?_
  cases hv : v.ownBlock with
  | none => exact .inl rfl
  | some k => exact .inr (fun e => hne k hv e.symm)
theorem IIO.open {w : World} {B S : Nat} {a : Option Addr} {n c : Nat} {yss : List (List Int)} (h : IIO w B S a n c yss) {i : Nat} {xs : List Int} (hi : yss[i]? = some xs) :
    ∃ g a' c', a = some ⟨g, 0, none⟩ ∧ w.cell? ⟨g, i, none⟩ = some (.slice a' xs.length c') ∧ OwI w B S a' xs.length c' xs ∧
      ∀ w' ys, ys.length = xs.length → OS w' B a' xs.length c' ys → w.grownBy w' (Value.slice a' xs.length c').ownBlock → IIO w' B S a n c (yss.set i ys) := by
  obtain ⟨vs, h1, h2, h3⟩ := h
  obtain ⟨a', c', hv, ho⟩ := h3.each i xs hi
  rcases ownsRow_shape h1 with ⟨_, _, _, hv0⟩ | ⟨g, rfl, hB, hlt, hc, _⟩
  · rw [hv0] at hv; cases hv
  · refine ⟨g, a', c', rfl, hc i _ hv, ho, fun w' ys hl hos hg => ?_⟩
    refine ⟨vs, grown_keeps h1 hg (fun k hk e => ne_block h1 ho k hk e), h2, ?_⟩
    refine ⟨by rw [List.length_set]; exact h3.len, fun k zs hz => ?_, h3.apart⟩
    rw [List.getElem?_set] at hz
    by_cases hk : i = k
    · subst hk
      rw [if_pos rfl, if_pos (lt_of_some hi)] at hz
      obtain rfl := Option.some.inj hz
      exact ⟨a', c', by rw [hl]; exact hv, by rw [hl]; exact ⟨hos, ho.2⟩⟩
    · rw [if_neg hk] at hz
      obtain ⟨a2, c2, hv2, ho2⟩ := h3.each k zs hz
      refine ⟨a2, c2, hv2, ho2.1.kept hg (fun q hq e => hk (h3.apart i k _ _ q hv hv2 e hq)), ho2.2⟩

end Go.Proofs.YtomejjbkakpoiaaGreat
