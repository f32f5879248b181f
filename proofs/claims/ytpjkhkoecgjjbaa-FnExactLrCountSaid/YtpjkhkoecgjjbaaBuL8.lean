/-
  Worlds in which the program fills on: only the box of the list and rows of shapes with counts are written.
  Contract of slices.BinarySearchFunc in a list of shapes with counts.
  Contract of the closure of the program's fillings: a shape counted in the list of the box.
  What is known when the program fills on: prefix sums, the lists that it reads. Plain, and predicates.
  Contract of the laws' sum.
-/
import Derived.Test.YtpjkhkoecgjjbaaBuL5
import Derived.Test.YtpjkhkoecgjjbaaBuL7
import Derived.Test.YtpjkhkoecgjjbaaBuL4
namespace Go.Proofs.Ytpjkhkoecgjjbaa
open Go.RowKit

/-- the blocks that may be written -/
def LayQ (A : Nat) (w : World) (q : Nat) : Prop := q = A ∨ (A - 1 ≤ q ∧ ∃ cur, w.heap[q]? = some (.cells cur 50 (0, 0)))
structure Lay (A : Nat) (w w' : World) : Prop where
  os : w'.os = w.os
  tape : w'.tape = w.tape
  output : w'.output = w.output
  size : w.heap.size ≤ w'.heap.size
  block : ∀ k, k < w.heap.size → ¬ LayQ A w k → w'.heap[k]? = w.heap[k]?
theorem Lay.refl (A : Nat) (w : World) : Lay A w w := ⟨rfl, rfl, rfl, Nat.le_refl _, fun _ _ _ => rfl⟩
theorem Lay.trans {A : Nat} {a b c : World} (h : Lay A a b) (k : Lay A b c) : Lay A a c := by
  refine ⟨k.os.trans h.os, k.tape.trans h.tape, k.output.trans h.output, Nat.le_trans h.size k.size, fun i hi hn => ?_⟩
  have h1 := h.block i hi hn
  refine (k.block i (Nat.lt_of_lt_of_le hi h.size) fun hq => hn ?_).trans h1
  rcases hq with hq | ⟨hq, cur, hc⟩
  · exact .inl hq
  · exact .inr ⟨hq, cur, by rw [← h1]; exact hc⟩
theorem Lay.of_below {A : Nat} {w w' : World} (h : Below w.heap.size w w') : Lay A w w' := ⟨h.os, h.tape, h.output, h.size, fun k hk _ => h.block k hk⟩
theorem Lay.of_grown {A : Nat} {w w' : World} {o : Option Nat} (h : w.grownBy w' o) (hp : ∀ k, o = some k → LayQ A w k) : Lay A w w' := ⟨h.os, h.tape, h.output, h.size, fun k hk hn => h.block k hk fun e => hn (hp k e.symm)⟩
theorem Lay.set (A j : Nat) (w : World) (v : Value) : Lay A w (w.setCell ⟨A, j, none⟩ v) := ⟨rfl, rfl, rfl, by simp, fun k _ hn => heap_setCell_other w ⟨A, j, none⟩ k v fun e => hn (.inl e)⟩
theorem Lay.below {A : Nat} {w w' : World} (h : Lay A w w') (hA : A ≤ w.heap.size) : Below (A - 1) w w' := ⟨h.os, h.tape, h.output, h.size, fun k hk => by
  rcases Nat.eq_zero_or_pos A with h0 | h0
  · omega
  · exact h.block k (by omega) fun hq => by
      rcases hq with hq | hq
      · omega
      · omega⟩
/-- a slice that is read while the program fills on: it lies ahead of the box, or in blocks of integers -/
def RT (A : Nat) (w : World) (a : Option Addr) (xs : List Int) : Prop :=
  xs = [] ∨ ∃ b off, a = some ⟨b, off, none⟩ ∧ (∀ k x, xs[k]? = some x → w.cell? ⟨b, off + k, none⟩ = some (.int .i64 x)) ∧ (b < A - 1 ∨ (b ≠ A ∧ ∃ cur, w.heap[b]? = some (.cells cur 3 (0, 0))))
theorem RT.rd {A : Nat} {w : World} {a : Option Addr} {xs : List Int} (h : RT A w a xs) : RI w a xs := by
  rcases h with h | ⟨b, off, ha, hc, _⟩
  · exact .inl h
  · exact .inr ⟨b, off, ha, hc⟩
theorem RT.lay {A : Nat} {w w' : World} {a : Option Addr} {xs : List Int} (h : RT A w a xs) (hl : Lay A w w') : RT A w' a xs := by
  rcases h with h | ⟨b, off, ha, hc, hb⟩
  · exact .inl h
  · cases hx : xs with
    | nil => exact .inl rfl
    | cons x r =>
      rw [hx] at hc
      have hlt : b < w.heap.size := World.block_lt_of_cell? _ _ (hc 0 x rfl)
      have hbl : w'.heap[b]? = w.heap[b]? := hl.block b hlt fun hq => by
        rcases hq with hq | ⟨hq, cur, hcu⟩
        · rcases hb with hb | hb
          · omega
          · exact hb.1 hq
        · rcases hb with hb | ⟨_, cur2, hb⟩
          · omega
          · rw [hcu] at hb; simp at hb
      refine .inr ⟨b, off, ha, fun k y hy => ?_, ?_⟩
      · rw [World.cell?_of_block (a := ⟨b, off + k, none⟩) hbl]; exact hc k y hy
      · rw [hbl]; exact hb
theorem RT.below {A : Nat} {w w' : World} {a : Option Addr} {xs : List Int} (h : RT A w a xs) (hb : Below w.heap.size w w') : RT A w' a xs := h.lay (Lay.of_below hb)
theorem RT.of_os {A B : Nat} {w : World} {a : Option Addr} {n c : Nat} {xs : List Int} (h : OS w B a n c xs) (hA : ∀ k, (Value.slice a n c).ownBlock = some k → k ≠ A) : RT A w a xs := by
  have hl := h.1
  rcases ownsRow_shape h.own with ⟨h0, _⟩ | ⟨g, rfl, _, _, _, hg⟩
  · exact .inl (List.eq_nil_of_length_eq_zero (by omega))
  · rcases h.ri with h | ⟨b, off, hb, hc⟩
    · exact .inl h
    · simp only [Option.some.injEq, Addr.mk.injEq, and_true] at hb
      obtain ⟨rfl, rfl⟩ := hb
      exact .inr ⟨g, 0, rfl, hc, .inr ⟨hA g rfl, hg⟩⟩
theorem RT.of_ri {A : Nat} {w : World} {a : Option Addr} {xs : List Int} (h : RI w a xs) (hA : ∀ ad, a = some ad → xs ≠ [] → ad.block < A - 1) : RT A w a xs := by
  rcases h with h | ⟨b, off, ha, hc⟩
  · exact .inl h
  · cases hx : xs with
    | nil => exact .inl rfl
    | cons x r => exact .inr ⟨b, off, ha, by rw [← hx]; exact hc, .inl (hA _ ha (by rw [hx]; simp))⟩
theorem RT.taken {A : Nat} {w : World} {a : Option Addr} {xs : List Int} (h : RT A w a xs) (k : Nat) : RT A w a (xs.take k) := by
  rcases h with rfl | ⟨b, off, ha, hc, hb⟩
  · exact .inl (by simp)
  · exact .inr ⟨b, off, ha, fun j y hy => hc j y (by
      rw [List.getElem?_take] at hy; split at hy
      · exact hy
      · cases hy), hb⟩
/-- the box holds the list -/
def Box (A : Nat) (w : World) (a : Option Addr) (n c : Nat) : Prop := w.heap[A]? = some (.cells #[.slice a n c] 44 (0, 0))
theorem Box.cell {A : Nat} {w : World} {a : Option Addr} {n c : Nat} (h : Box A w a n c) : w.cell? ⟨A, 0, none⟩ = some (.slice a n c) := by simp [World.cell?, show w.heap[A]? = _ from h]
theorem Box.frozen {A : Nat} {w : World} {a : Option Addr} {n c : Nat} (h : Box A w a n c) : w.frozen? ⟨A, 0, none⟩ = false := by simp [World.frozen?, show w.heap[A]? = _ from h]
theorem Box.lt {A : Nat} {w : World} {a : Option Addr} {n c : Nat} (h : Box A w a n c) : A < w.heap.size := (Array.getElem?_eq_some_iff.1 h).1
theorem Box.below {A : Nat} {w w' : World} {a : Option Addr} {n c : Nat} (h : Box A w a n c) (hb : Below w.heap.size w w') : Box A w' a n c := by
  unfold Box
  rw [hb.block A h.lt]
  exact h
theorem Box.ne {A : Nat} {w : World} {a b : Option Addr} {n c m d B : Nat} {vs : List Value} (h : Box A w a n c) (hr : w.ownsRow B 50 2 (.slice b m d) m vs) : ∀ k, (Value.slice b m d).ownBlock = some k → k ≠ A := by
  intro k hk e
  subst e
  rcases row2_shape hr with ⟨_, rfl, _⟩ | ⟨g, rfl, _, _, _, _, cur, hg⟩
  · cases hk
  · have e1 : g = k := by simpa [Value.ownBlock] using hk
    subst e1
    rw [show w.heap[g]? = _ from h] at hg
    simp at hg
theorem Box.neI {A : Nat} {w : World} {a b : Option Addr} {n c m d B S : Nat} {xs : List Int} (h : Box A w a n c) (hr : OwI w B S b m d xs) : ∀ k, (Value.slice b m d).ownBlock = some k → k ≠ A := by
  intro k hk e
  subst e
  rcases ownsRow_shape hr.1.own with ⟨_, rfl, _⟩ | ⟨g, rfl, _, _, _, cur, hg⟩
  · cases hk
  · have e1 : g = k := by simpa [Value.ownBlock] using hk
    subst e1
    rw [show w.heap[g]? = _ from h] at hg
    simp at hg
theorem Box.grown {A : Nat} {w w' : World} {a : Option Addr} {n c : Nat} {o : Option Nat} (h : Box A w a n c) (hg : w.grownBy w' o) (ho : o ≠ some A) : Box A w' a n c := by
  unfold Box
  rw [hg.block A h.lt fun e => ho e.symm]
  exact h
theorem Box.set {A : Nat} {w : World} {a : Option Addr} {n c : Nat} (h : Box A w a n c) (b : Option Addr) (m d : Nat) : Box A (w.setCell ⟨A, 0, none⟩ (.slice b m d)) b m d := by
  unfold Box
  rw [heap_setCell_same w A 0 _ _ _ h]
  simp
/-- the list in the box's world: own rows of integers stay under a store into the box -/
theorem OwI.set {A : Nat} {w : World} {a b : Option Addr} {n c m d B S : Nat} {xs : List Int} (hi : OwI w B S b m d xs) (h : Box A w a n c) (v : Value) : OwI (w.setCell ⟨A, 0, none⟩ v) B S b m d xs := by
  have hg : w.grownBy (w.setCell ⟨A, 0, none⟩ v) (some A) := ⟨rfl, rfl, rfl, by simp, fun k _ hn => heap_setCell_other w ⟨A, 0, none⟩ k v fun e => hn (by rw [e])⟩
  exact ⟨hi.1.kept hg (fun k hk e => h.neI hi k hk (by simpa using e.symm)), hi.2⟩
theorem row2_set {A : Nat} {w : World} {a b : Option Addr} {n c m d B : Nat} {vs : List Value} (hr : w.ownsRow B 50 2 (.slice b m d) m vs) (h : Box A w a n c) (v : Value) : (w.setCell ⟨A, 0, none⟩ v).ownsRow B 50 2 (.slice b m d) m vs := by
  have hne := h.ne hr
  refine ⟨hr.1, ?_⟩
  rcases hr.2 with h2 | ⟨g, cap, cur, hv, hg, hb, r⟩
  · exact .inl h2
  · exact .inr ⟨g, cap, cur, hv, hg, by rw [heap_setCell_other w ⟨A, 0, none⟩ g v (hne g (by rw [hv]; rfl))]; exact hb, r⟩
/-! the list of what has been found -/
theorem InN.at {w : World} {B S : Nat} {vs : List Value} {xs : List (List Int × Int)} (h : InN w B S vs xs) : ∀ v ∈ vs, v.oneCell' = true := by
  intro v hv
  obtain ⟨j, hj⟩ := List.getElem?_of_mem hv
  have hl := lt_of_some hj
  have hlen := h.len
  obtain ⟨s, y, hx⟩ := part_at (xs := xs) (n := xs.length) rfl (show j / 2 < xs.length by omega)
  obtain ⟨a, c, e1, e2, _⟩ := h.each (j / 2) _ hx
  rcases Nat.mod_two_eq_zero_or_one j with h0 | h0
  · rw [show j / 2 * 2 = j by omega, hj] at e1
    rw [Option.some.inj e1]; rfl
  · rw [show j / 2 * 2 + 1 = j by omega, hj] at e2
    rw [Option.some.inj e2]; rfl
theorem InN.ins {w w' : World} {B S S' J : Nat} {vs : List Value} {xs : List (List Int × Int)} {a8 : Option Addr} {l8 c8 : Nat} {v : List Int} {y : Int} (h : InN w B S vs xs) (hJ : J ≤ xs.length) (keep : ∀ {a : Option Addr} {n c : Nat} {zs : List Int}, OwI w B S a n c zs → OwI w' B S' a n c zs) (hio : OwI w' B S' a8 l8 c8 v) :
    InN w' B S' (vs.take (J * 2) ++ [.slice a8 l8 c8, .int .i64 y] ++ vs.drop (J * 2)) (xs.take J ++ (v, y) :: xs.drop J) := by
  have hlen := h.len
  have hl8 := hio.len
  have ht : (vs.take (J * 2)).length = J * 2 := by rw [List.length_take]; omega
  have ht2 : (xs.take J).length = J := by rw [List.length_take]; omega
  refine ⟨by simp only [List.length_append, List.length_cons, List.length_nil, List.length_take, List.length_drop]; omega, fun k p hp => ?_⟩
  rcases Nat.lt_trichotomy k J with hk | hk | hk
  · rw [List.getElem?_append_left (by omega), List.getElem?_take, if_pos hk] at hp
    obtain ⟨a, c, e1, e2, e3⟩ := h.each k p hp
    refine ⟨a, c, ?_, ?_, keep e3⟩
    · rw [List.append_assoc, List.getElem?_append_left (by omega), List.getElem?_take, if_pos (by omega)]; exact e1
    · rw [List.append_assoc, List.getElem?_append_left (by omega), List.getElem?_take, if_pos (by omega)]; exact e2
  · subst hk
    rw [List.getElem?_append_right (by omega), ht2, Nat.sub_self] at hp
    obtain rfl : (v, y) = p := by simpa using hp
    refine ⟨a8, c8, ?_, ?_, by rw [hl8]; exact hio⟩
    · rw [List.append_assoc, List.getElem?_append_right (by omega), ht, Nat.sub_self, hl8]; rfl
    · rw [List.append_assoc, List.getElem?_append_right (by omega), ht, show k * 2 + 1 - k * 2 = 1 by omega]; rfl
  · obtain ⟨q, rfl⟩ : ∃ q, k = J + 1 + q := ⟨k - J - 1, by omega⟩
    rw [List.getElem?_append_right (by omega), ht2, show J + 1 + q - J = q + 1 by omega, List.getElem?_cons_succ, List.getElem?_drop] at hp
    obtain ⟨a, c, e1, e2, e3⟩ := h.each (J + q) p hp
    refine ⟨a, c, ?_, ?_, keep e3⟩
    · rw [List.append_assoc, List.getElem?_append_right (by omega), ht, show (J + 1 + q) * 2 - J * 2 = q * 2 + 1 + 1 by omega]
      rw [List.cons_append, List.cons_append, List.nil_append, List.getElem?_cons_succ, List.getElem?_cons_succ, List.getElem?_drop, show J * 2 + q * 2 = (J + q) * 2 by omega]
      exact e1
    · rw [List.append_assoc, List.getElem?_append_right (by omega), ht, show (J + 1 + q) * 2 + 1 - J * 2 = q * 2 + 1 + 1 + 1 by omega]
      rw [List.cons_append, List.cons_append, List.nil_append, List.getElem?_cons_succ, List.getElem?_cons_succ, List.getElem?_drop, show J * 2 + (q * 2 + 1) = (J + q) * 2 + 1 by omega]
      exact e2
/-- another count -/
theorem KN.count {w : World} {B S g n c J : Nat} {xs : List (List Int × Int)} {s : List Int} {y : Int} (h : KN w B S (some ⟨g, 0, none⟩) n c xs) (hx : xs[J]? = some (s, y)) (z : Int) :
    (∃ a' c', w.cell? ⟨g, J * 2, none⟩ = some (.slice a' s.length c')) ∧ w.cell? ⟨g, J * 2 + 1, none⟩ = some (.int .i64 y) ∧ w.frozen? ⟨g, J * 2 + 1, none⟩ = false ∧ KN (w.setCell ⟨g, J * 2 + 1, none⟩ (.int .i64 z)) B S (some ⟨g, 0, none⟩) n c (xs.set J (s, z)) ∧ w.grownBy (w.setCell ⟨g, J * 2 + 1, none⟩ (.int .i64 z)) (some g) := by
  obtain ⟨vs, h1, h2, h3⟩ := h
  obtain ⟨a, cc, e1, e2, e3⟩ := h3.each J _ hx
  have hst := h1.stored (J * 2 + 1) (.int .i64 z)
  have hl := lt_of_some e2
  have h10 := h1.1
  refine ⟨⟨a, cc, by rw [h1.cellAt (J * 2) (by omega)]; exact e1⟩, by rw [h1.cellAt (J * 2 + 1) (by omega)]; exact e2, h1.frozenAt _, ⟨_, hst.1, h2, by rw [List.length_set, List.length_set]; exact h3.len, fun k p hp => ?_⟩, hst.2⟩
  have keep : ∀ {a : Option Addr} {n' c' : Nat} {zs : List Int}, OwI w B S a n' c' zs → OwI (w.setCell ⟨g, J * 2 + 1, none⟩ (.int .i64 z)) B S a n' c' zs := fun hio => ⟨hio.1.kept hst.2 (fun k hk e => ne_blockT h1 hio g rfl (by rw [hk, ← e])), hio.2⟩
  rw [List.getElem?_set] at hp
  by_cases hk : J = k
  · subst hk
    rw [if_pos rfl, if_pos (lt_of_some hx)] at hp
    obtain rfl := Option.some.inj hp
    exact ⟨a, cc, by rw [List.getElem?_set_ne (by omega)]; exact e1, by rw [List.getElem?_set_self hl], keep e3⟩
  · rw [if_neg hk] at hp
    obtain ⟨a2, c2, g1, g2, g3⟩ := h3.each k p hp
    exact ⟨a2, c2, by rw [List.getElem?_set_ne (by omega)]; exact g1, by rw [List.getElem?_set_ne (by omega)]; exact g2, keep g3⟩
theorem KN.layQ {A : Nat} {w : World} {S : Nat} {a : Option Addr} {n c : Nat} {xs : List (List Int × Int)} (h : KN w (A - 1) S a n c xs) : ∀ k, (Value.slice a n c).ownBlock = some k → LayQ A w k := by
  obtain ⟨vs, h1, _⟩ := h
  intro k hk
  refine .inr ⟨(h1.lt k hk).1, ?_⟩
  rcases row2_shape h1 with ⟨_, rfl, _⟩ | ⟨g, rfl, _, _, _, _, hg⟩
  · cases hk
  · have e1 : g = k := by simpa [Value.ownBlock] using hk
    subst e1
    exact hg
end Go.Proofs.Ytpjkhkoecgjjbaa

namespace Go.Proofs.Ytpjkhkoecgjjbaa
open Go.RowKit

theorem order_self (xs : List Int) : order xs xs = 0 := by
  induction xs with
  | nil => rfl
  | cons x xs ih => rw [order, if_pos rfl]; exact ih
theorem order_zero : ∀ {xs ys : List Int}, order xs ys = 0 → xs = ys
  | [], [], _ => rfl
  | [], _ :: _, h => by simp [order] at h
  | _ :: _, [], h => by simp [order] at h
  | x :: xs, y :: ys, h => by
    rw [order] at h
    split at h
    · rename_i e
      rw [e, order_zero h]
    · split at h <;> omega
theorem order_less {xs v : List Int} : order xs v < 0 ↔ less xs v = true := by
  rw [less_order, decide_eq_true_iff]

set_option maxHeartbeats 800000 in
theorem cmpClo_any (a b : Option Addr) (n c m d : Nat) (x : Int) (xs ys : List Int) (w : World) (hr : RI w a xs) (hs : RI w b ys) (hn : xs.length = n) (hm : ys.length = m) (hb : n ≤ 1048576) (hb2 : m ≤ 1048576) :
    Calls Try.prog 46 #[.agg #[.slice a n c, .int .i64 x], .slice b m d] w fun e w' => e = .returned (.int .i64 (order xs ys)) ∧ Below w.heap.size w w' := by
  have hB : Below w.heap.size w (w.alloc (.cells #[.slice a n c, .int .i64 x] 50)) := (Below.refl _ _).alloc (Nat.le_refl _) _
  have hr1 := Lib.hid (hr.below hB)
  have hs1 := Lib.hid (hs.below hB)
  have HB := Lib.hid hB
  have Hn := Lib.hid hn
  have Hm := Lib.hid hm
  obtain ⟨o, ho⟩ : ∃ o, order xs ys = o := ⟨_, rfl⟩
  rw [ho]
  have HO := Lib.hid ho
  clear hr hs hB hn hm ho
  go_enter Try.func46, Try.ntmps46
  go_wp2_with fail
  refine (isInt (compare_any _ _ _ _ _ _ xs ys _ hr1.out hs1.out Hn.out Hm.out (by omega) (by omega)) HO.out).mono ?_
  rintro e w1 ⟨rfl, rfl⟩
  go_wp2
  go_ret
  exact ⟨rfl, HB.out⟩

def BinPost (w : World) (xs : List (List Int × Int)) (v : List Int) (J : Nat) (e : Ending) (w' : World) : Prop :=
  ∃ r, e = .returned (.tuple #[.int .i64 (J : Nat), .bool r]) ∧ Hid (r = (cntAt v xs).isSome) ∧ Below w.heap.size w w'
set_option maxRecDepth 100000 in
set_option maxHeartbeats 3200000 in
theorem binS_any (a : Option Addr) (n c : Nat) (xs : List (List Int × Int)) (b : Option Addr) (m d : Nat) (v : List Int) (w : World) (hr : RP w a xs) (hn : xs.length = n) (hb : n ≤ 4294967296) (hsh : ∀ p ∈ xs, p.1.length ≤ 16) (hasc : AscL xs) (hrv : RI w b v) (hm : v.length = m) (hmb : m ≤ 1048576) :
    Calls Try.prog 45 #[.slice a n c, .slice b m d, .func (.func 46) #[] #[]] w (BinPost w xs v (insAt v xs)) := by
  have Hn := Lib.hid hn; clear hn
  have Hm := Lib.hid hm; clear hm
  have Hsh := Lib.hid hsh; clear hsh
  have Hasc := Lib.hid hasc; clear hasc
  obtain ⟨J, hJ⟩ : ∃ J, insAt v xs = J := ⟨_, rfl⟩
  have hJn : J ≤ n := by rw [← hJ, ← Hn.out]; exact insAt_le v xs
  have HJ := Lib.hid hJ
  rw [hJ]
  clear hJ
  go_enter Try.func45, Try.ntmps45
  go_wp2
  go_loopw [9, 10] (fun iv jv wr => ∃ lo hi : Nat, iv = .int .i64 lo ∧ jv = .int .i64 hi ∧ lo ≤ J ∧ J ≤ hi ∧ hi ≤ n ∧ Below w.heap.size w wr) (fun iv jv _ => (intOf jv).toNat - (intOf iv).toNat)
  case atStart => exact ⟨0, n, rfl, rfl, Nat.zero_le _, hJn, Nat.le_refl _, Below.refl _ _⟩
  case round =>
    obtain ⟨lo, hi, rfl, rfl, hlo, hhi, hin, hB⟩ := hrel
    obtain ⟨wo, rfl⟩ : ∃ wo : World, wo = wr := ⟨_, rfl⟩
    have hbs := hB.size
    by_cases hlt : lo < hi
    · obtain ⟨M, hM⟩ : ∃ M, (lo + hi) / 2 = M := ⟨_, rfl⟩
      have hM1 : lo ≤ M := by omega
      have hM2 : M < hi := by omega
      have hMI : ((lo : Int) + (hi : Int)) / 2 = (M : Int) := by omega
      have hltI : (lo : Int) < (hi : Int) := by omega
      have z1 : IntKind.i64.wrap ((lo : Int) + (hi : Int)) = (lo : Int) + (hi : Int) := IntWalk.i64_in _ (by omega)
      obtain ⟨s, y, hx⟩ := part_at Hn.out (show M < n by omega)
      obtain ⟨bb, off, rfl, hcell⟩ := (hr.below hB).at (k := M) (by rw [Hn.out]; omega)
      obtain ⟨a2, c2, p1, p2, hri, _⟩ := hcell M _ hx
      simp only at p1 p2 hri
      have hsl : s.length ≤ 16 := Hsh.out (s, y) (List.mem_of_getElem? hx)
      obtain ⟨sl, hl⟩ : ∃ sl, s.length = sl := ⟨_, rfl⟩
      rw [hl] at p1 hsl
      have Hl := Lib.hid hl
      have Hx := Lib.hid hx
      have HRv := Lib.hid (hrv.below hB)
      have Hri := Lib.hid hri
      have z2 : (M : Int) < (n : Int) := by omega
      have z3 : (0 : Int) ≤ (M : Int) := by omega
      have HMI := Lib.hid hMI
      have HM := Lib.hid hM
      obtain ⟨o, ho⟩ : ∃ o, order s v = o := ⟨_, rfl⟩
      have HO := Lib.hid ho
      clear hcell hx hl hri hM ho
      by_cases hc : o < 0
      · have hMJ : M < J := by
          rcases Nat.lt_or_ge M J with h | h
          · exact h
          · have h1 := insAt_ge (v := v) Hasc.out (j := M) (by rw [HJ.out]; exact h) Hx.out
            have h2 := order_less (xs := s) (v := v)
            rw [HO.out, h1] at h2
            simp at h2
            omega
        go_wp2_with fail
        refine (isInt (cmpClo_any _ _ _ _ _ _ y s v _ Hri.out HRv.out Hl.out Hm.out (by omega) hmb) HO.out).mono ?_
        rintro e w1 ⟨rfl, hb1⟩
        have hB1 := hB.trans (hb1.mono hbs)
        clear p1 p2
        go_wp2
        go_roundw
        case rel => exact ⟨M + 1, hi, by congr 1 <;> omega, rfl, by omega, hhi, hin, hB1⟩
        case measure => simp [intOf]; omega
      · have hMJ : J ≤ M := by
          rcases Nat.lt_or_ge M J with h | h
          · have h1 := insAt_less (v := v) (xs := xs) (i := M) (by rw [HJ.out]; exact h) Hx.out
            have h2 := order_less (xs := s) (v := v)
            rw [HO.out] at h2
            exact absurd (h2.2 h1) hc
          · exact h
        go_wp2_with fail
        refine (isInt (cmpClo_any _ _ _ _ _ _ y s v _ Hri.out HRv.out Hl.out Hm.out (by omega) hmb) HO.out).mono ?_
        rintro e w1 ⟨rfl, hb1⟩
        have hB1 := hB.trans (hb1.mono hbs)
        clear p1 p2
        go_wp2
        go_roundw
        case rel => exact ⟨lo, M, rfl, by congr 1, hlo, hMJ, by omega, hB1⟩
        case measure => simp [intOf]; omega
    · obtain rfl : hi = lo := by omega
      obtain rfl : hi = J := by omega
      have hltI : ¬ (hi : Int) < (hi : Int) := by omega
      by_cases hJn2 : hi < n
      · obtain ⟨s, y, hx⟩ := part_at Hn.out hJn2
        obtain ⟨bb, off, rfl, hcell⟩ := (hr.below hB).at (k := hi) (by rw [Hn.out]; omega)
        obtain ⟨a2, c2, p1, p2, hri, _⟩ := hcell hi _ hx
        simp only at p1 p2 hri
        have hsl : s.length ≤ 16 := Hsh.out (s, y) (List.mem_of_getElem? hx)
        obtain ⟨sl, hl⟩ : ∃ sl, s.length = sl := ⟨_, rfl⟩
        rw [hl] at p1 hsl
        have Hl := Lib.hid hl
        have HRv := Lib.hid (hrv.below hB)
        have Hri := Lib.hid hri
        have z2 : (hi : Int) < (n : Int) := by omega
        have z3 : (0 : Int) ≤ (hi : Int) := by omega
        obtain ⟨o, ho⟩ : ∃ o, order s v = o := ⟨_, rfl⟩
        have HO := Lib.hid ho
        have HR := Lib.hid (show (o == 0) = (cntAt v xs).isSome by
          unfold cntAt
          rw [HJ.out, hx]
          simp only
          by_cases he : s = v
          · rw [if_pos he, ← ho, he, order_self]; rfl
          · rw [if_neg he]
            have : ¬ o = 0 := fun h => he (order_zero (by rw [ho]; exact h))
            simp [this])
        obtain ⟨r, hrr⟩ : ∃ r, (o == 0) = r := ⟨_, rfl⟩
        rw [hrr] at HR
        clear hcell hx hl hri ho
        go_wp2_with fail
        refine (isInt (cmpClo_any _ _ _ _ _ _ y s v _ Hri.out HRv.out Hl.out Hm.out (by omega) hmb) HO.out).mono ?_
        rintro e w1 ⟨rfl, hb1⟩
        have hB1 := hB.trans (hb1.mono hbs)
        clear p1 p2
        go_wp2
        go_ret2
        exact ⟨r, rfl, HR, hB1⟩
      · have z2 : ¬ (hi : Int) < (n : Int) := by omega
        have z3 : ¬ hi < n := hJn2
        have HR := Lib.hid (show false = (cntAt v xs).isSome by
          unfold cntAt
          rw [HJ.out, List.getElem?_eq_none (by rw [Hn.out]; omega)]
          rfl)
        go_wp2
        go_ret2
        exact ⟨false, rfl, HR, hB⟩
end Go.Proofs.Ytpjkhkoecgjjbaa

namespace Go.Proofs.Ytpjkhkoecgjjbaa
open Go.RowKit

theorem shapeOfRows_ri (a : Option Addr) (n c : Nat) (xs : List Int) (w : World) (hr : RI w a xs) (hn : xs.length = n) (hb : n ≤ 1048576) (hnc : n ≤ c) :
    Calls Try.prog 44 #[.slice a n c] w fun e w' => ∃ n', e = .returned (.slice a n' c) ∧ Hid (RI w' a (bare xs) ∧ (bare xs).length = n') ∧ w = w' := by
  have Hn := Lib.hid hn
  have HR := Lib.hid (show RI w a (bare xs) ∧ (bare xs).length = bareLen xs n by
    refine ⟨hr.taken _, ?_⟩
    unfold bare
    rw [List.length_take, hn]
    have := bareLen_le xs n
    omega)
  go_enter Try.func44, Try.ntmps44
  go_wp2_with fail
  refine (shortened_any _ _ _ xs _ hr Hn.out hb hnc).mono ?_
  rintro e w1 ⟨rfl, rfl⟩
  go_wp2
  go_ret
  exact ⟨_, rfl, HR, rfl⟩
/-- the state of the list -/
structure LrState (A N : Nat) (L : List (List Int × Int)) (al : Option Addr) (n c : Nat) (w : World) : Prop where
  box : Box A w al n c
  list : KN w (A - 1) w.heap.size al n c L
  good : GoodL N L
  few : N ≤ 4294967296
theorem LrState.below {A N : Nat} {L : List (List Int × Int)} {al : Option Addr} {n c : Nat} {w w' : World} (h : LrState A N L al n c w) (hb : Below w.heap.size w w') : LrState A N L al n c w' :=
  ⟨h.box.below hb, (h.list.below hb).mono (Nat.le_refl _) hb.size, h.good, h.few⟩
theorem LrState.n {A N : Nat} {L : List (List Int × Int)} {al : Option Addr} {n c : Nat} {w : World} (h : LrState A N L al n c w) : n ≤ 4294967296 := by
  have := h.good.len
  have := h.list.len
  have := h.few
  omega
def SeePost (A N : Nat) (L : List (List Int × Int)) (w : World) (e : Ending) (w' : World) : Prop :=
  ∃ a' n' c', e = .returned (.tuple #[]) ∧ LrState A N L a' n' c' w' ∧ Lay A w w'
/-- a count one more, in the list of the box -/
theorem LrState.count {A N : Nat} {L M : List (List Int × Int)} {g n c J : Nat} {s : List Int} {y z : Int} {w : World} (hb : Box A w (some ⟨g, 0, none⟩) n c) (hl : KN w (A - 1) w.heap.size (some ⟨g, 0, none⟩) n c L) (hx : L[J]? = some (s, y)) (hM : L.set J (s, z) = M) (hg : GoodL N M) (hN : N ≤ 4294967296) :
    LrState A N M (some ⟨g, 0, none⟩) n c (w.setCell ⟨g, J * 2 + 1, none⟩ (.int .i64 z)) ∧ Lay A w (w.setCell ⟨g, J * 2 + 1, none⟩ (.int .i64 z)) := by
  obtain ⟨_, _, _, h4, h5⟩ := hl.count hx z
  subst hM
  have hq := hl.layQ g rfl
  obtain ⟨vs, hr, _⟩ := hl
  have hgA : g ≠ A := hb.ne hr g rfl
  refine ⟨⟨hb.grown h5 (fun e => hgA (by simpa using e)), h4.mono (Nat.le_refl _) (by simp), hg, hN⟩, Lay.of_grown h5 fun k hk => ?_⟩
  obtain rfl : g = k := by simpa using hk
  exact hq

set_option maxRecDepth 100000 in
set_option maxHeartbeats 6400000 in
theorem see_any (A N : Nat) (L : List (List Int × Int)) (al : Option Addr) (n c : Nat) (ap : Option Addr) (cp : Nat) (P : List Int) (w : World) (hs : LrState A N L al n c w) (hN : N + 1 ≤ 4294967296) (hp : RI w ap P) (hP : P.length = 16) (hcp : 16 ≤ cp) (hA : 0 < A) :
    Calls Try.prog 43 #[.slice ap 16 cp, .pointer (some ⟨A, 0, none⟩)] w (SeePost A (N + 1) (insL (bare P) L) w) := by
  obtain ⟨v, hv⟩ : ∃ v, bare P = v := ⟨_, rfl⟩
  have hv16 : v.length ≤ 16 := by rw [← hv]; exact bare_short (by omega)
  have HV := Lib.hid hv
  have HP := Lib.hid hP
  have HS := Lib.hid hs
  have HG := Lib.hid (show GoodL (N + 1) (insL v L) from hs.good.ins hv16)
  have hAw := hs.box.lt
  have hn := hs.n
  rw [hv]
  clear hv hs hP
  go_enter Try.func43, Try.ntmps43
  go_wp2_with fail
  refine (shapeOfRows_ri _ _ _ P _ hp HP.out (by omega) hcp).mono ?_
  rintro e w0 ⟨n0, rfl, h0, rfl⟩
  rw [HV.out] at h0
  have H0 := Lib.hid h0.out.1
  have H0l := Lib.hid h0.out.2
  have hn0 : n0 ≤ 16 := by rw [← H0l.out]; exact hv16
  clear h0 hp
  go_wp2_with fail
  refine (cloneI_any _ _ _ v _ H0.out H0l.out (by omega)).mono ?_
  rintro e w1 ⟨a8, c8, rfl, ho8, hb1⟩
  have hs1 := hb1.size
  have HS1 := Lib.hid (HS.out.below hb1)
  have Ho8 := Lib.hid ho8
  have Hb1 := Lib.hid hb1
  have p1 := HS1.out.box.cell
  clear H0 ho8 hb1 HS
  go_wp2_with fail
  refine (binS_any _ _ _ L _ _ _ v _ HS1.out.list.rd HS1.out.list.len hn (fun p hp => (HS1.out.good.each p hp).2.2) HS1.out.good.asc Ho8.out.rd H0l.out (by omega)).mono ?_
  rintro e w2 ⟨r, rfl, hr, hb2⟩
  obtain ⟨J, hJ⟩ : ∃ J, insAt v L = J := ⟨_, rfl⟩
  have hJn : J ≤ n := by rw [← hJ, ← HS1.out.list.len]; exact insAt_le v L
  have hs2 := hb2.size
  have HS2 := Lib.hid (HS1.out.below hb2)
  have Ho8b := Lib.hid ((Ho8.out.below hb2).mono (Nat.le_refl _) hb2.size)
  have HB2 := Lib.hid (Hb1.out.trans (hb2.mono hs1))
  have HJ := Lib.hid hJ
  rw [hJ]
  clear p1 HS1 Ho8 Hb1 hb2 hJ
  have p2 := HS2.out.box.cell
  have f2 := HS2.out.box.frozen
  cases hcnt : cntAt v L with
  | some y =>
    obtain rfl : r = true := by rw [hr.out, hcnt]; rfl
    have hx := cntAt_some hcnt
    rw [HJ.out] at hx
    have hset : L.set J (v, y + 1) = insL v L := by unfold insL; rw [hcnt, HJ.out]
    obtain ⟨g, hg⟩ : ∃ g, al = some ⟨g, 0, none⟩ := by
      obtain ⟨vs, h1, _, h3⟩ := HS2.out.list
      rcases row2_shape h1 with ⟨h0, _⟩ | ⟨g, hg, _⟩
      · have := lt_of_some hx
        have := HS2.out.list.len
        omega
      · exact ⟨g, hg⟩
    subst hg
    have hyb := HS2.out.good.each _ (List.mem_of_getElem? hx)
    have hNf := HS2.out.few
    obtain ⟨⟨a9, c9, q0⟩, q1, q2, _, _⟩ := HS2.out.list.count hx (y + 1)
    have hJn2 : J < n := by have := lt_of_some hx; have := HS2.out.list.len; omega
    have z1 : (J : Int) < (n : Int) := by omega
    have z2 : (0 : Int) ≤ (J : Int) := by omega
    have z3 : IntKind.i64.wrap (y + 1) = y + 1 := IntWalk.i64_in _ (by simp only at hyb; omega)
    have HF := Lib.hid (LrState.count (N := N + 1) HS2.out.box HS2.out.list hx hset HG.out hN)
    have HFL := Lib.hid ((Lay.of_below HB2.out).trans HF.out.2)
    have HFS := Lib.hid HF.out.1
    clear HF hx hset hcnt hr hyb HS2 Ho8b HB2 HG
    go_wp2
    go_end0
    exact ⟨_, _, _, rfl, HFS.out, HFL.out⟩
  | none =>
    obtain rfl : r = false := by rw [hr.out, hcnt]; rfl
    have hins : L.take J ++ (v, 1) :: L.drop J = insL v L := by unfold insL; rw [hcnt, HJ.out]
    obtain ⟨vs, k1, k2, k3⟩ := HS2.out.list
    have hal : Below w2.heap.size w2 (w2.alloc (.cells #[.slice a8 n0 c8, .int .i64 0] 50)) := (Below.refl _ _).alloc (Nat.le_refl _) _
    have HS3 := Lib.hid (HS2.out.below hal)
    have Ho8c := Lib.hid (Ho8b.out.below hal)
    have k1b := k1.alloc (.cells #[.slice a8 n0 c8, .int .i64 0] 50)
    have hvg : (Value.slice al n c).ownBlock ≠ some w2.heap.size := fun e => by
      have := k2 _ e
      omega
    have HI := Lib.hid (insertP_any (A - 1) al n c J w2.heap.size vs (.slice a8 n0 c8) (.int .i64 0) (w2.alloc (.cells #[.slice a8 n0 c8, .int .i64 0] 50)) k1b hJn (heap_alloc_new w2 _) hvg rfl rfl k3.at (by omega) (by have := HS2.out.box.lt; simp; omega))
    have K3 := Lib.hid k3
    have K1 := Lib.hid k1b
    have K2 := Lib.hid k2
    have HAL := Lib.hid hal
    clear k1 k2 k3 k1b hal hvg hcnt hr
    go_wp2_with fail
    refine HI.out.mono ?_
    rintro e w4 ⟨a4, c4, rfl, ho4, hg4⟩
    have hbA : (Value.slice al n c).ownBlock ≠ some A := fun e => HS3.out.box.ne K1.out A e rfl
    have hb4 := HS3.out.box.grown hg4.grown hbA
    have keep : ∀ {a : Option Addr} {n' c' : Nat} {zs : List Int}, OwI w2 (A - 1) w2.heap.size a n' c' zs → OwI w4 (A - 1) w4.heap.size a n' c' zs := fun hio => by
      have h1 := hio.below HAL.out
      have h2 := hg4.grown.size
      have h3 := HAL.out.size
      exact OwI.mono (B := A - 1) (S := w2.heap.size) ⟨h1.1.kept hg4.grown (fun k hk e => ne_blockT K1.out h1 k e hk), h1.2⟩ (Nat.le_refl _) (by omega)
    have hAb : A - 1 ≤ w1.heap.size := by have := hs1; omega
    have hio8 : OwI w4 (A - 1) w4.heap.size a8 n0 c8 v := keep (Ho8b.out.mono (by omega) (by omega))
    have hk4 : KN w4 (A - 1) w4.heap.size a4 (n + 1) c4 (L.take J ++ (v, 0) :: L.drop J) := ⟨_, ho4, fun k hk => (ho4.lt k hk).2, K3.out.ins (by rw [HS2.out.list.len]; exact hJn) keep hio8⟩
    have hL4 : Lay A w w4 := ((Lay.of_below HB2.out).trans (Lay.of_below HAL.out)).trans (Lay.of_grown hg4.grown fun k hk => HS3.out.list.layQ k hk)
    have hb5 := hb4.set a4 (n + 1) c4
    have hk5 : KN (w4.setCell ⟨A, 0, none⟩ (.slice a4 (n + 1) c4)) (A - 1) w4.heap.size a4 (n + 1) c4 (L.take J ++ (v, 0) :: L.drop J) := by
      obtain ⟨us, u1, u2, u3⟩ := hk4
      exact ⟨us, row2_set u1 hb4 _, u2, u3.len, fun k p hp => by
        obtain ⟨b1, b2, b3, b4, b5⟩ := u3.each k p hp
        exact ⟨b1, b2, b3, b4, b5.set hb4 _⟩⟩
    obtain ⟨g, hg⟩ : ∃ g, a4 = some ⟨g, 0, none⟩ := by
      rcases row2_shape ho4 with ⟨h0, _⟩ | ⟨g, hg, _⟩
      · omega
      · exact ⟨g, hg⟩
    subst hg
    have hx : (L.take J ++ (v, (0 : Int)) :: L.drop J)[J]? = some (v, 0) := by
      rw [List.getElem?_append_right (by rw [List.length_take]; omega), List.length_take, HS2.out.list.len, Nat.min_eq_left hJn, Nat.sub_self]
      rfl
    have hset : (L.take J ++ (v, (0 : Int)) :: L.drop J).set J (v, 1) = insL v L := by
      rw [← hins, List.set_append_right _ _ (by rw [List.length_take]; omega), List.length_take, HS2.out.list.len, Nat.min_eq_left hJn, Nat.sub_self]
      rfl
    obtain ⟨⟨a9, c9, q0⟩, q1, q2, _, _⟩ := hk5.count hx 1
    have HF := Lib.hid (LrState.count (N := N + 1) hb5 (hk5.mono (Nat.le_refl _) (by simp)) hx hset HG.out hN)
    have HFL := Lib.hid ((hL4.trans (Lay.set A 0 w4 _)).trans HF.out.2)
    have HFS := Lib.hid HF.out.1
    have p4 := hb4.cell
    have f4 := hb4.frozen
    have p5 := hb5.cell
    have f5 := hb5.frozen
    have z1 : (J : Int) < (n : Int) + 1 := by omega
    have z2 : (0 : Int) ≤ (J : Int) := by omega
    have hJ1 : J < n + 1 := by omega
    clear HF hx hset hins hk5 hk4 hio8 keep hbA hb4 hb5 hL4 ho4 hg4 HI K1 K2 K3 HAL HS2 HS3 Ho8b Ho8c HB2 HG hAb
    go_wp2
    go_end0
    exact ⟨_, _, _, rfl, HFS.out, HFL.out⟩
end Go.Proofs.Ytpjkhkoecgjjbaa

namespace Go.Proofs.Ytpjkhkoecgjjbaa
open Go.RowKit

def prefTo (xs : List Int) (k : Nat) : List Int := (List.range 16).map fun j => if j < k then sumI (xs.take j) else 0
theorem prefTo_length (xs : List Int) (k : Nat) : (prefTo xs k).length = 16 := by simp [prefTo]
theorem prefTo_zero (xs : List Int) : prefTo xs 0 = zeros16 := by rfl
theorem prefTo_set (xs : List Int) (k : Nat) : (prefTo xs k).set k (sumI (xs.take k)) = prefTo xs (k + 1) := by
  apply List.ext_getElem?
  intro i
  rw [List.getElem?_set, prefTo_length]
  unfold prefTo
  simp only [List.getElem?_map]
  by_cases h1 : k = i
  · subst h1
    rw [if_pos rfl]
    by_cases h2 : k < 16
    · rw [if_pos h2, List.getElem?_range h2]
      simp
    · rw [if_neg h2, List.getElem?_eq_none (by simp; omega)]
      rfl
  · rw [if_neg h1]
    by_cases h2 : i < 16
    · rw [List.getElem?_range h2]
      simp only [Option.map_some]
      by_cases h3 : i < k
      · rw [if_pos h3, if_pos (by omega)]
      · rw [if_neg h3, if_neg (by omega)]
    · rw [List.getElem?_eq_none (by simp; omega)]
      rfl
def prefs (xs : List Int) : List Int := prefTo xs 16
theorem prefs_at (xs : List Int) {j : Nat} (h : j < 16) : (prefs xs)[j]? = some (sumI (xs.take j)) := by
  unfold prefs prefTo
  rw [List.getElem?_map, List.getElem?_range h]
  simp [h]
/-- the numbers of the one ahead, none at the first -/
def Under (A : Nat) (w : World) (first : Bool) (last : List Int) (a : Option Addr) (n c : Nat) : Prop :=
  (first = true → a = none ∧ n = 0 ∧ c = 0) ∧ (first = false → (∃ b off, a = some ⟨b, off, none⟩) ∧ n = 16 ∧ RT A w a (prefs last))
theorem Under.lay {A : Nat} {w w' : World} {first : Bool} {last : List Int} {a : Option Addr} {n c : Nat} (h : Under A w first last a n c) (hl : Lay A w w') : Under A w' first last a n c :=
  ⟨h.1, fun hf => ⟨(h.2 hf).1, (h.2 hf).2.1, (h.2 hf).2.2.lay hl⟩⟩
/-- what comes after a number is whole -/
def restP (cs : List Int) (P put : List Int) : List (List Int) := lrAll cs.tail false put P
theorem restP_mem (cs : List Int) : ∀ P put, P.length = 16 → ∀ Q ∈ restP cs P put, Q.length = 16 := fun P _put h => lrAll_mem _ _ _ P h
structure LayPre (A : Nat) (cs : List Int) (first : Bool) (k r N : Nat) (L : List (List Int × Int)) (P old put last : List Int) (left : Int) (ap acs aold aund aput al : Option Addr) (cp ncs nund cund cput n c : Nat) (w : World) : Prop where
  st : LrState A N L al n c w
  rP : RT A w ap P
  rcs : RT A w acs cs
  rold : RT A w aold old
  rput : RT A w aput put
  und : Under A w first last aund nund cund
  ok : LrOk first last k P put left
  lold : old.length = 16
  oldE : ∀ j, old.getD j 0 = P.getD j 0 - put.getD j 0
  pcp : 16 ≤ cp
  pcput : 16 ≤ cput
  rk : r + k = 16
  lcs : cs.length = ncs
  ncs1 : 1 ≤ ncs
  ncs16 : ncs ≤ 16
  cs0 : ∀ x ∈ cs, 0 ≤ x ∧ x ≤ 8
  big : N + (lrStrip (restP cs) first last k P put left).length ≤ 4294967296
  A0 : 0 < A
def LayIh (M : Nat) : Prop := ∀ (A : Nat) (cs : List Int) (first : Bool) (k r N : Nat) (L : List (List Int × Int)) (P old put last : List Int) (left : Int) (ap acs aold aund aput al : Option Addr) (cp ncs ccs cold nund cund cput n c : Nat) (w : World),
  ncs * 18 + k < M → ncs ≤ ccs → LayPre A cs first k r N L P old put last left ap acs aold aund aput al cp ncs nund cund cput n c w →
  Calls Try.prog 49 #[.slice ap 16 cp, .slice acs ncs ccs, .slice aold 16 cold, .int .i64 r, .int .i64 left, .slice aund nund cund, .slice aput 16 cput, .int .i64 16, .func (.func 43) #[] #[.pointer (some ⟨A, 0, none⟩)]] w
    (SeePost A (N + (lrStrip (restP cs) first last k P put left).length) (insAll (lrStrip (restP cs) first last k P put left) L) w)
/-- the state ahead of a round -/
def LayAt (A : Nat) (cs : List Int) (first : Bool) (k N : Nat) (L : List (List Int × Int)) (P put last : List Int) (left T : Int) (w : World) (nv : Value) (wr : World) : Prop :=
  ∃ (j : Nat) (a' : Option Addr) (n' c' : Nat), nv = .int .i64 j ∧ LrState A (N + (lrPre (restP cs) first last k P put left j).length) (insAll (lrPre (restP cs) first last k P put left j) L) a' n' c' wr ∧ (j = 0 ∨ (j : Int) ≤ T + 1) ∧ Lay A w wr
theorem LayAt.start {A : Nat} {cs : List Int} {first : Bool} {k r N : Nat} {L : List (List Int × Int)} {P old put last : List Int} {left : Int} {ap acs aold aund aput al : Option Addr} {cp ncs nund cund cput n c : Nat} {w : World} (T : Int)
    (h : LayPre A cs first (k + 1) r N L P old put last left ap acs aold aund aput al cp ncs nund cund cput n c w) : LayAt A cs first k N L P put last left T w (.int .i64 0) w :=
  ⟨0, al, n, c, rfl, by rw [lrPre_zero]; exact h.st, .inl rfl, Lay.refl _ _⟩
/-- the next call is ready -/
theorem LayPre.next {A : Nat} {cs : List Int} {first : Bool} {k r j N : Nat} {L : List (List Int × Int)} {P old put last : List Int} {left pr : Int} {ap acs aold aund aput al a1 a2 al' : Option Addr} {cp ncs nund cund cput n c c1 c2 n' c' : Nat} {w wr w2 : World}
    (h : LayPre A cs first (k + 1) r N L P old put last left ap acs aold aund aput al cp ncs nund cund cput n c w) (hpr : P.getD r 0 = pr) (hT : (j : Int) ≤ lrTop first last P put r left)
    (hs : LrState A (N + (lrPre (restP cs) first last k P put left j).length) (insAll (lrPre (restP cs) first last k P put left j) L) al' n' c' wr) (hl : Lay A w wr) (hb : Below wr.heap.size wr w2)
    (h1 : RT A w2 a1 (P.set r (pr + (j : Int)))) (h2 : RT A w2 a2 (put.set r (j : Int))) (hc1 : 16 ≤ c1) (hc2 : 16 ≤ c2) :
    LayPre A cs first k (r + 1) (N + (lrPre (restP cs) first last k P put left j).length) (insAll (lrPre (restP cs) first last k P put left j) L) (P.set r (pr + (j : Int))) old (put.set r (j : Int)) last (left - (j : Int)) a1 acs aold aund a2 al' c1 ncs nund cund c2 n' c' w2 := by
  have hrk := h.rk
  obtain rfl : r = 15 - k := by omega
  have hn := h.ok.next hT
  rw [hpr] at hn
  have hl2 := hl.trans (Lay.of_below hb)
  have hbig := h.big
  have hle := lrPre_le (next := restP cs) (first := first) (last := last) (k := k) (P := P) (put := put) (left := left) (i := j + 1) (by omega)
  rw [lrPre_succ, List.length_append, hpr] at hle
  refine ⟨hs.below hb, h1, h.rcs.lay hl2, h.rold.lay hl2, h2, h.und.lay hl2, hn, h.lold, fun i => ?_, hc1, hc2, by omega, h.lcs, h.ncs1, h.ncs16, h.cs0, by omega, h.A0⟩
  have hp0 := h.ok.rest0 (15 - k) (by omega)
  rw [h.oldE, getD_set i _ (by have := h.ok.lP; omega), getD_set i _ (by have := h.ok.lput; omega)]
  by_cases hi : i = 15 - k
  · subst hi
    rw [if_pos rfl, if_pos rfl, hp0, hpr]
    omega
  · rw [if_neg hi, if_neg hi]
theorem LayAt.step {A : Nat} {cs : List Int} {first : Bool} {k r j N : Nat} {L : List (List Int × Int)} {P put last : List Int} {left pr T : Int} {w w2 w6 : World} (hrk : r + (k + 1) = 16) (hpr : P.getD r 0 = pr) (hjT : (j : Int) ≤ T) (hl : Lay A w w2)
    (h : SeePost A (N + (lrPre (restP cs) first last k P put left j).length + (lrStrip (restP cs) first last k (P.set r (pr + (j : Int))) (put.set r (j : Int)) (left - (j : Int))).length) (insAll (lrStrip (restP cs) first last k (P.set r (pr + (j : Int))) (put.set r (j : Int)) (left - (j : Int))) (insAll (lrPre (restP cs) first last k P put left j) L)) w2 (.returned (.tuple #[])) w6) :
    LayAt A cs first k N L P put last left T w (.int .i64 (j + 1 : Nat)) w6 := by
  obtain ⟨a', n', c', _, h1, h2⟩ := h
  obtain rfl : r = 15 - k := by omega
  refine ⟨j + 1, a', n', c', rfl, ?_, .inr (by omega), hl.trans h2⟩
  rw [lrPre_succ, List.length_append, insAll_append, hpr, ← Nat.add_assoc]
  exact h1
theorem LayAt.done {A : Nat} {cs : List Int} {first : Bool} {k r j N : Nat} {L : List (List Int × Int)} {P put last : List Int} {left T : Int} {w wr : World} {a' : Option Addr} {n' c' : Nat} (hrk : r + (k + 1) = 16) (hT : T = lrTop first last P put r left) (hj : j = 0 ∨ (j : Int) ≤ T + 1) (hjT : ¬ (j : Int) ≤ T)
    (hs : LrState A (N + (lrPre (restP cs) first last k P put left j).length) (insAll (lrPre (restP cs) first last k P put left j) L) a' n' c' wr) (hl : Lay A w wr) :
    SeePost A (N + (lrStrip (restP cs) first last (k + 1) P put left).length) (insAll (lrStrip (restP cs) first last (k + 1) P put left) L) w (.returned (.tuple #[])) wr := by
  obtain rfl : r = 15 - k := by omega
  have e : lrPre (restP cs) first last k P put left j = lrStrip (restP cs) first last (k + 1) P put left := lrPre_all (by omega)
  rw [← e]
  exact ⟨a', n', c', rfl, hs, hl⟩
theorem RT.dropped {A : Nat} {w : World} {b off : Nat} {x : Int} {xs : List Int} (h : RT A w (some ⟨b, off, none⟩) (x :: xs)) : RT A w (some ⟨b, off + 1, none⟩) xs := by
  rcases h with h | ⟨b', off', ha, hc, hb⟩
  · cases h
  · simp only [Option.some.injEq, Addr.mk.injEq, and_true] at ha
    obtain ⟨rfl, rfl⟩ := ha
    refine .inr ⟨b, off + 1, rfl, fun k y hy => ?_, hb⟩
    rw [show off + 1 + k = off + (k + 1) by omega]
    exact hc (k + 1) y (by simpa using hy)
theorem restP_cons (c0 c1 : Int) (rest P put : List Int) : restP (c0 :: c1 :: rest) P put = lrStrip (restP (c1 :: rest)) false put 16 P zeros16 c1 := rfl
/-- the next number is ready -/
theorem LayPre.onto {A : Nat} {c0 c1 : Int} {rest : List Int} {first : Bool} {r N : Nat} {L : List (List Int × Int)} {P old put last : List Int} {ap aold aund aput al a5 az : Option Addr} {cp ncs nund cund cput n c bc oc bu ou c5 : Nat} {w wX : World}
    (h : LayPre A (c0 :: c1 :: rest) first 0 r N L P old put last 0 ap (some ⟨bc, oc, none⟩) aold aund aput al cp ncs nund cund cput n c w) (hb : Below w.heap.size w wX)
    (hu : RT A wX (some ⟨bu, ou, none⟩) (prefs put)) (ho : RT A wX a5 P) (hz : RT A wX az zeros16) : LayPre A (c1 :: rest) false 16 0 N L P P zeros16 put c1 ap (some ⟨bc, oc + 1, none⟩) a5 (some ⟨bu, ou, none⟩) az al cp (ncs - 1) 16 c5 16 n c wX := by
  have hD : lrStrip (restP (c0 :: c1 :: rest)) first last 0 P put 0 = lrStrip (restP (c1 :: rest)) false put 16 P zeros16 c1 := by rw [lrStrip_zero h.ok rfl, restP_cons]
  have hcs := h.lcs
  simp only [List.length_cons] at hcs
  have hc1 := h.cs0 c1 (by simp)
  exact ⟨h.st.below hb, h.rP.below hb, h.rcs.dropped.below hb, ho, hz, ⟨fun hf => (by cases hf), fun _ => ⟨⟨bu, ou, rfl⟩, rfl, hu⟩⟩, h.ok.shL.ok false hc1.1 hc1.2, h.ok.lP, fun j => by rw [show zeros16.getD j 0 = 0 from zeros_getD 16 j]; omega, h.pcp, Nat.le_refl _, rfl, by simp only [List.length_cons]; omega, by omega, by have := h.ncs16; omega, fun x hx => h.cs0 x (by simp at hx ⊢; exact .inr hx), by have := h.big; rw [hD] at this; exact this, h.A0⟩
end Go.Proofs.Ytpjkhkoecgjjbaa

namespace Go.Proofs.Ytpjkhkoecgjjbaa
open Go.RowKit

end Go.Proofs.Ytpjkhkoecgjjbaa
