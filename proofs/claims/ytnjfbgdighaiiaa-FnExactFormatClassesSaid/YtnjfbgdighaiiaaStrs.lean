/-
  Slices of strings that a call owns; strings glued; contract of strings.Join in these words.
-/
import Derived.Test.YtnjfbgdighaiiaaJoin
import Derived.Test.YtnjfbgdighaiiaaFmtSpec
namespace Go.Proofs.Ytnjfbgdighaiiaa
open Go.RowKit

def strs (l : List ByteArray) : List Value := l.map Value.string
/-- the slice of strings is a row of the call's own, in a block from B on and below S -/
def SO (w : World) (B S : Nat) (a : Option Addr) (n c : Nat) (l : List ByteArray) : Prop :=
  w.ownsRow B 9 1 (.slice a n c) n (strs l) ∧ ∀ k, (Value.slice a n c).ownBlock = some k → k < S
theorem SO.mk {w : World} {B : Nat} {a : Option Addr} {n c : Nat} {l : List ByteArray} (h : w.ownsRow B 9 1 (.slice a n c) n (strs l)) : SO w B w.heap.size a n c l := ⟨h, fun k hk => (h.lt k hk).2⟩
theorem SO.len {w : World} {B S : Nat} {a : Option Addr} {n c : Nat} {l : List ByteArray} (h : SO w B S a n c l) : l.length = n := by have := h.1.1; simpa [strs] using this
theorem SO.lo {w : World} {B S : Nat} {a : Option Addr} {n c : Nat} {l : List ByteArray} (h : SO w B S a n c l) : ∀ k, (Value.slice a n c).ownBlock = some k → B ≤ k := fun k hk => (h.1.lt k hk).1
theorem SO.only {w w' : World} {B S B' S' : Nat} {a : Option Addr} {n c : Nat} {l : List ByteArray} (h : SO w B S a n c l) (ho : Only B' S' w w') (hd : S ≤ B' ∨ S' ≤ B) : SO w' B S a n c l := by
  refine ⟨⟨h.1.1, ?_⟩, h.2⟩
  have hh := h.2
  have hl := h.lo
  rcases h.1.2 with h2 | ⟨g, cap, cur, hv, hg, hb, r⟩
  · exact .inl h2
  · simp only [Value.slice.injEq] at hv
    obtain ⟨rfl, _, rfl⟩ := hv
    have h1 := hh g rfl
    have h3 := hl g rfl
    exact .inr ⟨g, c, cur, rfl, hg, by rw [ho.block g (Array.getElem?_eq_some_iff.1 hb).1 (by omega)]; exact hb, r⟩
theorem SO.below {w w' : World} {B S : Nat} {a : Option Addr} {n c : Nat} {l : List ByteArray} (h : SO w B S a n c l) (hb : Below w.heap.size w w') : SO w' B S a n c l := h.only (Only.of_below hb) (.inr (Nat.zero_le _))
theorem SO.mono {w : World} {B S S' : Nat} {a : Option Addr} {n c : Nat} {l : List ByteArray} (h : SO w B S a n c l) (hS : S ≤ S') : SO w B S' a n c l := ⟨h.1, fun k hk => Nat.lt_of_lt_of_le (h.2 k hk) hS⟩
theorem SO.made (w : World) : SO (w.alloc (.cells #[] 9)) w.heap.size (w.alloc (.cells #[] 9)).heap.size (some ⟨w.heap.size, 0, none⟩) 0 0 [] :=
  SO.mk (World.ownsRow_made _ #[] 0 (Nat.le_refl _) (Nat.zero_le _) rfl)
theorem Try.info9 : (Try.prog.info? 9).map (fun i => (i.zero, i.size, i.bytes)) = some (some (.string ⟨#[]⟩), 1, 16) := by kernel_rfl
/-- append of one string -/
theorem wpList_pushS {w : World} {W : World} {x0 : ByteArray} (hW : W = w.alloc (.cells #[.string x0] 9)) {ops : Array Oper} {rest : List Oper} {o : Oper} {ac : Act} {Q : Exit → Act → World → Prop} (hgd : o.guard = none) (s x : Operand)
    (ho : o.op = .call { callee := .builtin .append, args := #[s, x], argTypes := #[91, 91] })
    {B S : Nat} {a : Option Addr} {n c : Nat} {l : List ByteArray} (hown : SO w B S a n c l) (hs : ac.eval s = .slice a n c)
    (hx : ac.eval x = .slice (some ⟨w.heap.size, 0, none⟩) 1 1) (hn : n + 1 ≤ 16777216) (hbase : B ≤ w.heap.size)
    (h : ∀ a' c' w', SO w' B w'.heap.size a' (n + 1) c' (l ++ [x0]) → Grows w w' (.slice a n c) (.slice a' (n + 1) c') → wpList Try.prog ops Q rest (ac.put o.dst (.slice a' (n + 1) c')) w') :
    wpList Try.prog ops Q (o :: rest) ac W := by
  subst hW
  obtain ⟨i0, hi, hz0, hz1, hz2⟩ := info_parts Try.info9
  refine wpList_app _ hgd s x 91 ho B 9 i0 (.string ⟨#[]⟩) 16 Try.underlying91 hi hz0 hz1 hz2 rfl _ n (strs l) hs (hown.1.alloc _) _ 1 1 [.string x0] hx rfl (by simp) ?_ ?_ hn (by omega) (by simp; omega) ?_
  · intro ad had j u hu
    obtain rfl := Option.some.inj had
    match j, hu with
    | 0, hu => simp at hu; subst hu; simp [Addr.add]
  · intro u hu; simp at hu; subst hu; rfl
  · intro a' c' w' h2 h3
    exact h a' c' w' (SO.mk (by simpa [strs] using h2)) ((Grows.of_below _ ((Below.refl _ _).alloc (Nat.le_refl _) _)).trans h3)

/-- the first k, with sep between them -/
def glue (sep : ByteArray) (l : List ByteArray) : Nat → ByteArray
  | 0 => ⟨#[]⟩
  | k + 1 => (if k = 0 then ⟨#[]⟩ else glue sep l k ++ sep) ++ l.getD k ⟨#[]⟩
theorem glue_zero (sep : ByteArray) (l : List ByteArray) : glue sep l 0 = ⟨#[]⟩ := rfl
theorem glue_first (sep : ByteArray) {l : List ByteArray} {x : ByteArray} (h : l[0]? = some x) : glue sep l 1 = x := by
  rw [glue, if_pos rfl, empty_append, List.getD_eq_getElem?_getD, h]; rfl
theorem glue_next (sep : ByteArray) {l : List ByteArray} {x : ByteArray} {k : Nat} (hk : k ≠ 0) (h : l[k]? = some x) : glue sep l (k + 1) = glue sep l k ++ sep ++ x := by
  rw [glue, if_neg hk, List.getD_eq_getElem?_getD, h]; rfl
theorem glue_size (sep : ByteArray) (l : List ByteArray) (M : Nat) (h : ∀ s ∈ l, s.size ≤ M) : ∀ k, (glue sep l k).size ≤ k * (M + sep.size) := by
  intro k
  induction k with
  | zero => rw [glue_zero]; exact Nat.zero_le _
  | succ k ih =>
    have h1 : (l.getD k ⟨#[]⟩).size ≤ M := by
      rw [List.getD_eq_getElem?_getD]
      cases hx : l[k]? with
      | none => exact Nat.zero_le _
      | some x => exact h x (List.mem_of_getElem? hx)
    rw [glue, append_size, Nat.succ_mul]
    split
    · have : (⟨#[]⟩ : ByteArray).size = 0 := rfl
      omega
    · rw [append_size]; omega
def raw (s : ByteArray) : List UInt8 := s.data.toList
theorem raw_append (a b : ByteArray) : raw (a ++ b) = raw a ++ raw b := by simp [raw, ByteArray.data_append]
theorem glue_raw (sep x : ByteArray) (r : List ByteArray) : ∀ k, k ≤ r.length → raw (glue sep (x :: r) (k + 1)) = raw x ++ Lib.joinTail (raw sep) ((r.take k).map raw) := by
  intro k
  induction k with
  | zero => intro _; rw [glue_first sep (x := x) rfl]; simp [Lib.joinTail]
  | succ k ih =>
    intro hk
    obtain ⟨y, hy⟩ : ∃ y, r[k]? = some y := ⟨r[k], List.getElem?_eq_getElem (by omega)⟩
    rw [glue_next sep (x := y) (by omega) (by simpa using hy), raw_append, raw_append, ih (by omega), List.take_add_one, hy]
    simp [Lib.joinTail]
theorem glue_join (sep : ByteArray) (l : List ByteArray) : (⟨(Lib.join (l.map (·.data.toList)) sep.data.toList).toArray⟩ : ByteArray) = glue sep l l.length := by
  have e : ∀ s : ByteArray, (⟨(raw s).toArray⟩ : ByteArray) = s := fun s => by apply ByteArray.ext; simp [raw]
  cases l with
  | nil => rfl
  | cons x r =>
    rw [← e (glue sep (x :: r) (x :: r).length), List.length_cons, glue_raw sep x r r.length (Nat.le_refl _), List.take_length]
    rw [List.map_cons, Lib.join_cons]
    rfl
theorem join_any {B S : Nat} (a : Option Addr) (n c : Nat) (l : List ByteArray) (sep : ByteArray) (w : World) (h : SO w B S a n c l) (hs : (glue sep l n).size ≤ 140737488355328) (hn : n ≤ 1048576) :
    Calls Try.prog 90 #[.slice a n c, .string sep] w fun e w' => e = .returned (.string (glue sep l n)) ∧ Below w.heap.size w w' := by
  have hl := h.len
  rcases Nat.eq_zero_or_pos n with h0 | h0
  · subst h0
    refine (Any.strings_Join_none laysJoin extraJoin a c sep w).mono ?_
    rintro e w' ⟨rfl, rfl⟩
    exact ⟨rfl, Below.refl _ _⟩
  · have h' := h.1
    rcases h.1.2 with ⟨_, h2⟩ | ⟨g, cap, cur, hv, hb, hh, hnc, _⟩
    · omega
    · simp only [Value.slice.injEq] at hv
      obtain ⟨rfl, _, rfl⟩ := hv
      have hg : g < w.heap.size := (Array.getElem?_eq_some_iff.1 hh).1
      have hj := Any.strings_Join laysJoin extraJoin g 0 c l sep w (fun j x hx => by
        have hjl := (List.getElem?_eq_some_iff.1 hx).1
        rw [Nat.zero_add, h'.cellAt j (by omega)]
        simp [strs, hx]) hg (by omega) (by omega) (by
        have e := congrArg (fun s : ByteArray => s.data.size) (glue_join sep l)
        simp only [List.size_toArray] at e
        rw [e, hl]
        exact hs)
      rw [hl, glue_join, hl] at hj
      exact hj
end Go.Proofs.Ytnjfbgdighaiiaa
