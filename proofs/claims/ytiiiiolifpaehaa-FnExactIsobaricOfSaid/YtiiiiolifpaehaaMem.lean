/-
  Laws for slices that a call makes itself: appending, storing, reading; said of whole lists.
-/
import Derived.Test.YtiiiiolifpaehaaBase
namespace Go.Proofs.Ytiiiiolifpaehaa
open Go.RowKit

/-- w' is w with new blocks, and with writes to block row alone -/
theorem below_grown {B : Nat} {wS w w' : World} {v : Value} (h : Below B wS w) (hg : w.grownBy w' v.ownBlock) (hB : B ≤ w.heap.size) (hv : ∀ k, v.ownBlock = some k → B ≤ k) : Below B wS w' :=
  h.grown hg hB hv

theorem grownBy.trans {a b c : World} {row : Option Nat} (h : a.grownBy b row) (k : b.grownBy c row) : a.grownBy c row :=
  ⟨k.os.trans h.os, k.tape.trans h.tape, k.output.trans h.output, Nat.le_trans h.size k.size, fun i hi hr => (k.block i (Nat.lt_of_lt_of_le hi h.size) hr).trans (h.block i hi hr)⟩
theorem grownBy.drew (w : World) (n : Nat) (row : Option Nat) : w.grownBy (w.drewN n) row := ⟨rfl, rfl, rfl, Nat.le_refl _, fun _ _ _ => rfl⟩

/-- the shape of what an append hands back -/
theorem slice_of {w : World} {B e n : Nat} {v : Value} {xs : List Value} (h : w.ownsRow B e 1 v n xs) : ∃ a c, v = .slice a n c ∧ n ≤ c ∧ (a = none → c = 0) := by
  rcases h.2 with ⟨rfl, rfl⟩ | ⟨g, cap, cur, rfl, _, _, hl, _⟩
  · exact ⟨none, 0, rfl, Nat.le_refl _, fun _ => rfl⟩
  · exact ⟨_, cap, rfl, hl, fun h => by cases h⟩

/-- append of one element that has just been laid in a block of its own -/
theorem wpList_push {P : Program} (w : World) (u : Value) (e : TypeId) {W : World} (hW : W = w.alloc (.cells #[u] e)) {ops : Array Oper} {rest : List Oper} {o : Oper} {a : Act} {Q : Exit → Act → World → Prop} (hgd : o.guard = none) (s x : Operand) (t : TypeId)
    (ho : o.op = .call { callee := .builtin .append, args := #[s, x], argTypes := #[t, t] })
    (B : Nat) (i : TypeInfo) (z : Value) (bytes : Nat) (ht : P.underlying t = some (.slice e)) (hi : P.info? e = some i) (hz : i.zero = some z)
    (hsize : i.size = 1) (hby : i.bytes = bytes) (hzs : z.cells.size = 1)
    (v : Value) (n : Nat) (xs : List Value) (hs : a.eval s = v) (hown : w.ownsRow B e 1 v n xs)
    (hx : a.eval x = .slice (some ⟨w.heap.size, 0, none⟩) 1 1) (hu : u.oneCell' = true)
    (hn : n + 1 ≤ 1048576) (hb2 : bytes ≤ 1048576) (hbase : B ≤ w.heap.size)
    (h : ∀ a' c' w', w'.ownsRow B e 1 (.slice a' (n + 1) c') (n + 1) (xs ++ [u]) → w.grownBy w' v.ownBlock → wpList P ops Q rest (a.put o.dst (.slice a' (n + 1) c')) w') :
    wpList P ops Q (o :: rest) a W := by
  subst hW
  refine wpList_append_own _ hgd s x t ho B e i z 1 bytes ht hi hz hsize hby hzs (by decide) v n xs hs (hown.alloc _) ⟨w.heap.size, 0, none⟩ 1 1 [u] hx rfl ?_ ?_ (by unfold maxLen; omega) ?_ (by simp; omega) ?_
  · intro j y hj
    match j, hj with
    | 0, hj => simp at hj; subst hj; simp [Addr.add]
  · intro y hy; simp at hy; subst hy; exact hu
  · have := Nat.mul_le_mul hn hb2; omega
  · intro v' w' h2 h3 _
    obtain ⟨a', c', rfl, _⟩ := slice_of h2
    exact h a' c' w' h2 (grownBy.trans (World.grownBy_alloc w _ _) h3)

theorem OS.own {w : World} {B : Nat} {a : Option Addr} {n c : Nat} {xs : List Int} (h : OS w B a n c xs) : w.ownsRow B 3 1 (.slice a n c) n (ints xs) := by
  obtain ⟨rfl, h⟩ := h; exact h
theorem OS.of {w : World} {B : Nat} {a : Option Addr} {n c : Nat} {xs : List Int} (h : w.ownsRow B 3 1 (.slice a n c) n (ints xs)) : OS w B a n c xs := by
  have : xs.length = n := by have := h.1; simpa [ints] using this
  subst this
  exact ⟨rfl, h⟩
theorem OS.snoc {w : World} {B : Nat} {a : Option Addr} {n c : Nat} {xs : List Int} {x : Int} (h : w.ownsRow B 3 1 (.slice a n c) n (ints xs ++ [.int .i64 x])) : OS w B a n c (xs ++ [x]) :=
  OS.of (by simpa [ints] using h)
theorem OS.hi {w : World} {B : Nat} {a : Option Addr} {n c : Nat} {xs : List Int} (h : OS w B a n c xs) : ∀ k, (Value.slice a n c).ownBlock = some k → k < w.heap.size := fun k hk => (h.own.lt k hk).2
theorem OS.kept {w w' : World} {B : Nat} {a : Option Addr} {n c : Nat} {xs : List Int} {row : Option Nat} (h : OS w B a n c xs) (hg : w.grownBy w' row) (hne : ∀ k, (Value.slice a n c).ownBlock = some k → row ≠ some k) : OS w' B a n c xs := by
  refine OS.of (h.own.kept hg ?_)
  cases hv : (Value.slice a n c).ownBlock with
  | none => exact .inl rfl
  | some k => exact .inr (fun e => hne k hv e.symm)
theorem OS.lo {w : World} {B : Nat} {a : Option Addr} {n c : Nat} {xs : List Int} (h : OS w B a n c xs) : ∀ k, (Value.slice a n c).ownBlock = some k → B ≤ k := fun k hk => (h.own.lt k hk).1

/-- w' is w with new blocks, and with writes to blocks from B on and below S alone -/
structure Only (B S : Nat) (w w' : World) : Prop where
  os : w'.os = w.os
  tape : w'.tape = w.tape
  output : w'.output = w.output
  size : w.heap.size ≤ w'.heap.size
  block : ∀ k, k < w.heap.size → ¬ (B ≤ k ∧ k < S) → w'.heap[k]? = w.heap[k]?
theorem Only.refl (B S : Nat) (w : World) : Only B S w w := ⟨rfl, rfl, rfl, Nat.le_refl _, fun _ _ _ => rfl⟩
theorem Only.trans {B S : Nat} {a b c : World} (h : Only B S a b) (k : Only B S b c) : Only B S a c :=
  ⟨k.os.trans h.os, k.tape.trans h.tape, k.output.trans h.output, Nat.le_trans h.size k.size, fun i hi hn => (k.block i (Nat.lt_of_lt_of_le hi h.size) hn).trans (h.block i hi hn)⟩
theorem Only.of_below {w w' : World} (h : Below w.heap.size w w') : Only 0 0 w w' := ⟨h.os, h.tape, h.output, h.size, fun k hk _ => h.block k hk⟩
theorem Only.of_grown {B S : Nat} {w w' : World} {v : Value} (h : w.grownBy w' v.ownBlock) (hl : ∀ k, v.ownBlock = some k → B ≤ k) (hh : ∀ k, v.ownBlock = some k → k < S) : Only B S w w' :=
  ⟨h.os, h.tape, h.output, h.size, fun k hk hn => h.block k hk (fun e => hn ⟨hl k e.symm, hh k e.symm⟩)⟩
theorem Only.mono {B S B' S' : Nat} {w w' : World} (h : Only B S w w') (h1 : B' ≤ B) (h2 : S ≤ S') : Only B' S' w w' := ⟨h.os, h.tape, h.output, h.size, fun k hk hn => h.block k hk (fun e => hn ⟨Nat.le_trans h1 e.1, Nat.lt_of_lt_of_le e.2 h2⟩)⟩
theorem Only.below {A B S : Nat} {wS w w' : World} (h : Only B S w w') (hb : Below A wS w) (hA : A ≤ B) (hw : A ≤ w.heap.size) : Below A wS w' :=
  hb.trans ⟨h.os, h.tape, h.output, h.size, fun k hk => h.block k (by omega) (by omega)⟩
/-- the slice is a row of the call's own, in a block from B on and below S, and holds xs -/
def OwI (w : World) (B S : Nat) (a : Option Addr) (n c : Nat) (xs : List Int) : Prop := OS w B a n c xs ∧ ∀ k, (Value.slice a n c).ownBlock = some k → k < S
theorem OwI.of {w : World} {B : Nat} {a : Option Addr} {n c : Nat} {xs : List Int} (h : OS w B a n c xs) : OwI w B w.heap.size a n c xs := ⟨h, h.hi⟩
theorem OwI.len {w : World} {B S : Nat} {a : Option Addr} {n c : Nat} {xs : List Int} (h : OwI w B S a n c xs) : xs.length = n := h.1.1
theorem OwI.rd {w : World} {B S : Nat} {a : Option Addr} {n c : Nat} {xs : List Int} (h : OwI w B S a n c xs) : RI w a xs := h.1.ri
theorem OwI.only {w w' : World} {B S B' S' : Nat} {a : Option Addr} {n c : Nat} {xs : List Int} (h : OwI w B S a n c xs) (ho : Only B' S' w w') (hd : S ≤ B' ∨ S' ≤ B) : OwI w' B S a n c xs := by
  refine ⟨OS.of ⟨h.1.own.1, ?_⟩, h.2⟩
  have hh := h.2
  have hl := h.1.lo
  rcases h.1.own.2 with h2 | ⟨g, cap, cur, hv, hg, hb, r⟩
  · exact .inl h2
  · simp only [Value.slice.injEq] at hv
    obtain ⟨rfl, _, rfl⟩ := hv
    have h1 := hh g rfl
    have h3 := hl g rfl
    exact .inr ⟨g, c, cur, rfl, hg, by rw [ho.block g (Array.getElem?_eq_some_iff.1 hb).1 (by omega)]; exact hb, r⟩
theorem OwI.below {w w' : World} {B S : Nat} {a : Option Addr} {n c : Nat} {xs : List Int} (h : OwI w B S a n c xs) (hb : Below w.heap.size w w') : OwI w' B S a n c xs := h.only (Only.of_below hb) (.inr (Nat.zero_le _))

end Go.Proofs.Ytiiiiolifpaehaa
