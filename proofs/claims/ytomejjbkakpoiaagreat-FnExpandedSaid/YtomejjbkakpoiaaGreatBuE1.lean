/-
  Contract of toIntS.
  Contract of eqIntS.
  Laws for slices that a call makes itself: appending, storing, reading; said of whole lists.
  Contracts of markIntS and heldIntS.
  What a law asks of lists of integers, in one form: copied, compared, marked, held.
-/
import Derived.Test.YtomejjbkakpoiaaGreatBase
namespace Go.Proofs.YtomejjbkakpoiaaGreat
open Go.RowKit

def fillTo (xs : List Int) (n k : Nat) : List Int := xs.take k ++ List.replicate (n - k) 0
theorem fillTo_length {xs : List Int} {n k : Nat} (h : xs.length = n) (hk : k ≤ n) : (fillTo xs n k).length = n := by
  simp [fillTo]; omega
theorem fillTo_zero (xs : List Int) (n : Nat) : fillTo xs n 0 = List.replicate n 0 := by simp [fillTo]
theorem fillTo_all {xs : List Int} {n : Nat} (h : xs.length = n) : fillTo xs n n = xs := by simp [fillTo, ← h]
theorem fillTo_succ {xs : List Int} {n k : Nat} {x : Int} (h : xs.length = n) (hk : k < n) (hx : xs[k]? = some x) : (fillTo xs n k).set k x = fillTo xs n (k + 1) := by
  subst h
  apply List.ext_getElem?
  intro j
  obtain ⟨_, rfl⟩ := List.getElem?_eq_some_iff.1 hx
  rw [List.getElem?_set]
  by_cases hj : k = j
  · subst hj
    rw [if_pos rfl, if_pos (by rw [fillTo_length rfl (by omega)]; exact hk)]
    unfold fillTo
    rw [List.getElem?_append_left (by simp; omega), List.getElem?_take, if_pos (by omega), List.getElem?_eq_getElem hk]
  · simp only [if_neg hj, fillTo]
    rw [List.getElem?_append, List.getElem?_append]
    simp only [List.length_take, List.getElem?_take, List.getElem?_replicate]
    repeat' split
    all_goals first | rfl | omega

end Go.Proofs.YtomejjbkakpoiaaGreat

namespace Go.Proofs.YtomejjbkakpoiaaGreat
open Go.RowKit

theorem eq_of_all {xs ys : List Int} (hl : xs.length = ys.length) (h : ∀ j, j < xs.length → xs[j]? = ys[j]?) : decide (xs = ys) = true := by
  rw [decide_eq_true_iff]
  apply List.ext_getElem?
  intro j
  rcases Nat.lt_or_ge j xs.length with h1 | h1
  · exact h j h1
  · rw [List.getElem?_eq_none h1, List.getElem?_eq_none (by omega)]
theorem ne_of_at {xs ys : List Int} {k : Nat} {x y : Int} (hx : xs[k]? = some x) (hy : ys[k]? = some y) (h : x ≠ y) : decide (xs = ys) = false := by
  rw [decide_eq_false_iff_not]
  rintro rfl
  rw [hx] at hy
  exact h (by simpa using hy)

end Go.Proofs.YtomejjbkakpoiaaGreat

namespace Go.Proofs.YtomejjbkakpoiaaGreat
open Go.RowKit

/-- w' is w with new blocks, and with writes to block row alone -/
theorem below_grown {B : Nat} {wS w w' : World} {v : Value} (h : Below B wS w) (hg : w.grownBy w' v.ownBlock) (hB : B ≤ w.heap.size) (hv : ∀ k, v.ownBlock = some k → B ≤ k) : Below B wS w' :=
  h.grown hg hB hv

theorem grownBy.trans {a b c : World} {row : Option Nat} (h : a.grownBy b row) (k : b.grownBy c row) : a.grownBy c row :=
  ⟨k.os.trans h.os, k.tape.trans h.tape, k.output.trans h.output, Nat.le_trans h.size k.size, fun i hi hr => (k.block i (Nat.lt_of_lt_of_le hi h.size) hr).trans (h.block i hi hr)⟩
theorem grownBy.drew (w : World) (n : Nat) (row : Option Nat) : w.grownBy (w.drewN n) row := ⟨rfl, rfl, rfl, Nat.le_refl _, fun _ _ _ => rfl⟩

/-- the shape of what an append hands back -/
theorem slice_of {w : World} {B e n : Nat} {v : Value} {xs : List Value} (h : w.ownsRow B e 1 v n xs) : ∃ a c, v = .slice a n c ∧ n ≤ c ∧ (a = none → c = 0) := by
  rcases h.2 with ⟨rfl, rfl⟩ | ⟨g, cap, cur, rfl, _, _, hl, _⟩
  · exact ⟨none, 0, rfl, Nat.le_refl _, fun _ => rfl⟩
  · exact ⟨_, cap, rfl, hl, fun h => by cases h⟩

/-- append of one element that has just been laid in a block of its own -/
theorem wpList_push {P : Program} (w : World) (u : Value) (e : TypeId) {W : World} (hW : W = w.alloc (.cells #[u] e)) {ops : Array Oper} {rest : List Oper} {o : Oper} {a : Act} {Q : Exit → Act → World → Prop} (hgd : o.guard = none) (s x : Operand) (t : TypeId)
    (ho : o.op = .call { callee := .builtin .append, args := #[s, x], argTypes := #[t, t] })
    (B : Nat) (i : TypeInfo) (z : Value) (bytes : Nat) (ht : P.underlying t = some (.slice e)) (hi : P.info? e = some i) (hz : i.zero = some z)
    (hsize : i.size = 1) (hby : i.bytes = bytes) (hzs : z.cells.size = 1)
    (v : Value) (n : Nat) (xs : List Value) (hs : a.eval s = v) (hown : w.ownsRow B e 1 v n xs)
    (hx : a.eval x = .slice (some ⟨w.heap.size, 0, none⟩) 1 1) (hu : u.oneCell' = true)
    (hn : n + 1 ≤ 1048576) (hb2 : bytes ≤ 1048576) (hbase : B ≤ w.heap.size)
    (h : ∀ a' c' w', w'.ownsRow B e 1 (.slice a' (n + 1) c') (n + 1) (xs ++ [u]) → w.grownBy w' v.ownBlock → wpList P ops Q rest (a.put o.dst (.slice a' (n + 1) c')) w') :
    wpList P ops Q (o :: rest) a W := by
  subst hW
  refine wpList_append_own _ hgd s x t ho B e i z 1 bytes ht hi hz hsize hby hzs (by decide) v n xs hs (hown.alloc _) ⟨w.heap.size, 0, none⟩ 1 1 [u] hx rfl ?_ ?_ (by unfold maxLen; omega) ?_ (by simp; omega) ?_
  · intro j y hj
    match j, hj with
    | 0, hj => simp at hj; subst hj; simp [Addr.add]
  · intro y hy; simp at hy; subst hy; exact hu
  · have := Nat.mul_le_mul hn hb2; omega
  · intro v' w' h2 h3 _
    obtain ⟨a', c', rfl, _⟩ := slice_of h2
    exact h a' c' w' h2 (grownBy.trans (World.grownBy_alloc w _ _) h3)

theorem OS.own {w : World} {B : Nat} {a : Option Addr} {n c : Nat} {xs : List Int} (h : OS w B a n c xs) : w.ownsRow B 3 1 (.slice a n c) n (ints xs) := by
  obtain ⟨rfl, h⟩ := h; exact h
theorem OS.of {w : World} {B : Nat} {a : Option Addr} {n c : Nat} {xs : List Int} (h : w.ownsRow B 3 1 (.slice a n c) n (ints xs)) : OS w B a n c xs := by
  have : xs.length = n := by have := h.1; simpa [ints] using this
  subst this
  exact ⟨rfl, h⟩
theorem OS.snoc {w : World} {B : Nat} {a : Option Addr} {n c : Nat} {xs : List Int} {x : Int} (h : w.ownsRow B 3 1 (.slice a n c) n (ints xs ++ [.int .i64 x])) : OS w B a n c (xs ++ [x]) :=
  OS.of (by simpa [ints] using h)
theorem OS.hi {w : World} {B : Nat} {a : Option Addr} {n c : Nat} {xs : List Int} (h : OS w B a n c xs) : ∀ k, (Value.slice a n c).ownBlock = some k → k < w.heap.size := fun k hk => (h.own.lt k hk).2
theorem OS.kept {w w' : World} {B : Nat} {a : Option Addr} {n c : Nat} {xs : List Int} {row : Option Nat} (h : OS w B a n c xs) (hg : w.grownBy w' row) (hne : ∀ k, (Value.slice a n c).ownBlock = some k → row ≠ some k) : OS w' B a n c xs := by
  refine OS.of (h.own.kept hg ?_)
  cases hv : (Value.slice a n c).ownBlock with
  | none => exact .inl rfl
  | some k => exact .inr (fun e => hne k hv e.symm)
theorem OS.lo {w : World} {B : Nat} {a : Option Addr} {n c : Nat} {xs : List Int} (h : OS w B a n c xs) : ∀ k, (Value.slice a n c).ownBlock = some k → B ≤ k := fun k hk => (h.own.lt k hk).1

/-- w' is w with new blocks, and with writes to blocks from B on and below S alone -/
structure Only (B S : Nat) (w w' : World) : Prop where
  os : w'.os = w.os
  tape : w'.tape = w.tape
  output : w'.output = w.output
  size : w.heap.size ≤ w'.heap.size
  block : ∀ k, k < w.heap.size → ¬ (B ≤ k ∧ k < S) → w'.heap[k]? = w.heap[k]?
theorem Only.refl (B S : Nat) (w : World) : Only B S w w := ⟨rfl, rfl, rfl, Nat.le_refl _, fun _ _ _ => rfl⟩
theorem Only.trans {B S : Nat} {a b c : World} (h : Only B S a b) (k : Only B S b c) : Only B S a c :=
  ⟨k.os.trans h.os, k.tape.trans h.tape, k.output.trans h.output, Nat.le_trans h.size k.size, fun i hi hn => (k.block i (Nat.lt_of_lt_of_le hi h.size) hn).trans (h.block i hi hn)⟩
theorem Only.of_below {w w' : World} (h : Below w.heap.size w w') : Only 0 0 w w' := ⟨h.os, h.tape, h.output, h.size, fun k hk _ => h.block k hk⟩
theorem Only.of_grown {B S : Nat} {w w' : World} {v : Value} (h : w.grownBy w' v.ownBlock) (hl : ∀ k, v.ownBlock = some k → B ≤ k) (hh : ∀ k, v.ownBlock = some k → k < S) : Only B S w w' :=
  ⟨h.os, h.tape, h.output, h.size, fun k hk hn => h.block k hk (fun e => hn ⟨hl k e.symm, hh k e.symm⟩)⟩
theorem Only.mono {B S B' S' : Nat} {w w' : World} (h : Only B S w w') (h1 : B' ≤ B) (h2 : S ≤ S') : Only B' S' w w' := ⟨h.os, h.tape, h.output, h.size, fun k hk hn => h.block k hk (fun e => hn ⟨Nat.le_trans h1 e.1, Nat.lt_of_lt_of_le e.2 h2⟩)⟩
theorem Only.below {A B S : Nat} {wS w w' : World} (h : Only B S w w') (hb : Below A wS w) (hA : A ≤ B) (hw : A ≤ w.heap.size) : Below A wS w' :=
  hb.trans ⟨h.os, h.tape, h.output, h.size, fun k hk => h.block k (by omega) (by omega)⟩
/-- the slice is a row of the call's own, in a block from B on and below S, and holds xs -/
def OwI (w : World) (B S : Nat) (a : Option Addr) (n c : Nat) (xs : List Int) : Prop := OS w B a n c xs ∧ ∀ k, (Value.slice a n c).ownBlock = some k → k < S
theorem OwI.of {w : World} {B : Nat} {a : Option Addr} {n c : Nat} {xs : List Int} (h : OS w B a n c xs) : OwI w B w.heap.size a n c xs := ⟨h, h.hi⟩
theorem OwI.len {w : World} {B S : Nat} {a : Option Addr} {n c : Nat} {xs : List Int} (h : OwI w B S a n c xs) : xs.length = n := h.1.1
theorem OwI.rd {w : World} {B S : Nat} {a : Option Addr} {n c : Nat} {xs : List Int} (h : OwI w B S a n c xs) : RI w a xs := h.1.ri
theorem OwI.only {w w' : World} {B S B' S' : Nat} {a : Option Addr} {n c : Nat} {xs : List Int} (h : OwI w B S a n c xs) (ho : Only B' S' w w') (hd : S ≤ B' ∨ S' ≤ B) : OwI w' B S a n c xs := by
  refine ⟨OS.of ⟨h.1.own.1, ?_⟩, h.2⟩
  have hh := h.2
  have hl := h.1.lo
  rcases h.1.own.2 with h2 | ⟨g, cap, cur, hv, hg, hb, r⟩
  · exact .inl h2
  · simp only [Value.slice.injEq] at hv
    obtain ⟨rfl, _, rfl⟩ := hv
    have h1 := hh g rfl
    have h3 := hl g rfl
    exact .inr ⟨g, c, cur, rfl, hg, by rw [ho.block g (Array.getElem?_eq_some_iff.1 hb).1 (by omega)]; exact hb, r⟩
theorem OwI.below {w w' : World} {B S : Nat} {a : Option Addr} {n c : Nat} {xs : List Int} (h : OwI w B S a n c xs) (hb : Below w.heap.size w w') : OwI w' B S a n c xs := h.only (Only.of_below hb) (.inr (Nat.zero_le _))

end Go.Proofs.YtomejjbkakpoiaaGreat

namespace Go.Proofs.YtomejjbkakpoiaaGreat
open Go.RowKit

/-- k, k + 1, .. -/
def iota (k : Int) (n : Nat) : List Int := (List.range n).map fun (i : Nat) => k + (i : Int)
theorem iota_length (k : Int) (n : Nat) : (iota k n).length = n := by simp [iota]
theorem iota_at {k : Int} {n j : Nat} (h : j < n) : (iota k n)[j]? = some (k + (j : Int)) := by simp [iota, h]
def marked (xs : List Int) (k : Int) (j : Nat) : List Int := iota k j ++ xs.drop j
theorem marked_length {xs : List Int} {k : Int} {n j : Nat} (h : xs.length = n) (hj : j ≤ n) : (marked xs k j).length = n := by simp [marked, iota_length]; omega
theorem marked_zero (xs : List Int) (k : Int) : marked xs k 0 = xs := by simp [marked, iota]
theorem marked_all {xs : List Int} {k : Int} {n : Nat} (h : xs.length = n) : marked xs k n = iota k n := by simp [marked, ← h]
theorem marked_succ {xs : List Int} {k : Int} {n j : Nat} (h : xs.length = n) (hj : j < n) : (marked xs k j).set j (k + (j : Int)) = marked xs k (j + 1) := by
  subst h
  apply List.ext_getElem?
  intro i
  rw [List.getElem?_set]
  by_cases hi : j = i
  · subst hi
    rw [if_pos rfl, if_pos (by rw [marked_length rfl (by omega)]; exact hj)]
    unfold marked
    rw [List.getElem?_append_left (by simp [iota_length]), iota_at (by omega)]
  · rw [if_neg hi]
    unfold marked
    rw [List.getElem?_append, List.getElem?_append, iota_length, iota_length]
    by_cases h1 : i < j
    · rw [if_pos h1, if_pos (by omega), iota_at h1, iota_at (by omega)]
    · rw [if_neg h1, if_neg (by omega), List.getElem?_drop, List.getElem?_drop]
      congr 1
      omega

theorem OI.cons {w : World} {B : Nat} {a : Option Addr} {n c : Nat} {xs : List Int} (h : OS w B a n c xs) {j : Nat} (hj : j < n) :
    ∃ g, a = some ⟨g, 0, none⟩ ∧ B ≤ g ∧ (∃ x, xs[j]? = some x ∧ w.cell? ⟨g, j, none⟩ = some (.int .i64 x)) ∧ w.frozen? ⟨g, j, none⟩ = false := by
  obtain ⟨rfl, h⟩ := h
  have h' := h
  rcases h.2 with ⟨_, h2⟩ | ⟨g, cap, cur, hv, hb, _⟩
  · omega
  · simp only [Value.slice.injEq] at hv
    obtain ⟨rfl, _, rfl⟩ := hv
    obtain ⟨x, hx⟩ := some_at rfl hj
    exact ⟨g, rfl, hb, ⟨x, hx, by rw [h'.cellAt j (by omega)]; simp [ints, hx]⟩, h'.frozenAt j⟩
theorem OS.store {w : World} {B : Nat} {g : Nat} {n c : Nat} {xs : List Int} (h : OS w B (some ⟨g, 0, none⟩) n c xs) (j : Nat) (x : Int) :
    OS (w.setCell ⟨g, j, none⟩ (.int .i64 x)) B (some ⟨g, 0, none⟩) n c (xs.set j x) ∧ w.grownBy (w.setCell ⟨g, j, none⟩ (.int .i64 x)) (some g) := by
  obtain ⟨rfl, h⟩ := h
  have := h.stored j (.int .i64 x)
  refine ⟨⟨by simp, ?_⟩, this.2⟩
  unfold OI
  rw [List.length_set]
  have h1 := this.1
  simpa [ints] using h1

end Go.Proofs.YtomejjbkakpoiaaGreat

namespace Go.Proofs.YtomejjbkakpoiaaGreat
open Go.RowKit

theorem wf_bounds {x : Int} (h : (Lit.int .i64 x).wf = true) : -9223372036854775808 ≤ x ∧ x ≤ 9223372036854775807 := by
  simp [Lit.wf, IntKind.min, IntKind.max, IntKind.signed, IntKind.bits] at h
  omega
abbrev sz_I (xs : List Int) : Nat := xs.length
def mk_I (xs : List Int) (k : Int) : List Int := iota k xs.length
end Go.Proofs.YtomejjbkakpoiaaGreat
