/-
  append of one integer, as a step of a region that draws its order.
  Append of a term as a step of a region that draws its order.
  One bit of a number, as the program asks for it; rows beside each other.
-/
import Derived.Test.YtflkomgfgmephaaBuA
import Derived.Deep.RegionHeld3
import Derived.Test.YtflkomgfgmephaaBuI2
import Derived.Test.YtflkomgfgmephaaBuI6
namespace Go.Proofs.Ytflkomgfgmephaa
open Go.RowKit

theorem step_pushI {w : World} {W : World} {x0 : Int} (hW : W = w.alloc (.cells #[.int .i64 x0] 3)) {ops : Array Oper} {o : Oper} {ac : Act} {K : Act → World → Prop} {Q : Exit → Act → World → Prop} (hwant : Region.wanted o (yielded ops ac.tmps) = true) (s x : Operand)
    (ho : o.op = .call { callee := .builtin .append, args := #[s, x], argTypes := #[24, 24] })
    {B S : Nat} {a : Option Addr} {n c : Nat} {l : List Int} (hown : OwI w B S a n c l) (hs : ac.eval s = .slice a n c)
    (hx : ac.eval x = .slice (some ⟨w.heap.size, 0, none⟩) 1 1) (hn : n + 1 ≤ 16777216) (hbase : B ≤ w.heap.size)
    (h : ∀ a' c' w', OwI w' B w'.heap.size a' (n + 1) c' (l ++ [x0]) → Grows w w' (.slice a n c) (.slice a' (n + 1) c') → K (ac.put o.dst (.slice a' (n + 1) c')) w') :
    if Region.wanted o (yielded ops ac.tmps) = true then Oper.wp Try.prog o ac W K Q else K (ac.put o.dst undef) W := by
  rw [if_pos hwant]
  subst hW
  obtain ⟨i0, hi, hz0, hz1, hz2⟩ := info_parts Try.info3
  obtain ⟨v', w', hr, h2, h3⟩ := run_app (P := Try.prog) (w.alloc (.cells #[.int .i64 x0] 3)) B 24 o.type 3 i0 (.int .i64 0) 8 Try.underlying24 hi hz0 hz1 hz2 rfl (.slice a n c) n (ints l) (hown.own.alloc _) (some ⟨w.heap.size, 0, none⟩) 1 1 [.int .i64 x0] rfl (by simp)
    (by
      intro ad had j u hu
      obtain rfl := Option.some.inj had
      match j, hu with
      | 0, hu => simp at hu; subst hu; simp [Addr.add])
    (by intro u hu; simp at hu; subst hu; rfl) hn (by omega) (by simp; omega)
  obtain ⟨a', c', rfl, _⟩ := slice_of h2
  unfold Oper.wp execOp
  simp only [ho, resolve, invoke, builtin, Sem.run_bind, Sem.run_pure, Result.andThen_ok, List.map_toArray, List.map_cons, List.map_nil, hs, hx, hr]
  exact h a' c' w' (OwI.mk (by simpa [ints] using h2)) ((Grows.of_below _ ((Below.refl _ _).alloc (Nat.le_refl _) _)).trans h3)
/-- .. where the size of the heap is written another way -/
theorem wpList_pushIs {w : World} {W : World} {x0 : Int} (hW : W = w.alloc (.cells #[.int .i64 x0] 3)) {ops : Array Oper} {rest : List Oper} {o : Oper} {ac : Act} {Q : Exit → Act → World → Prop} (hgd : o.guard = none) (s x : Operand)
    (ho : o.op = .call { callee := .builtin .append, args := #[s, x], argTypes := #[24, 24] })
    {B S z : Nat} {a : Option Addr} {n c : Nat} {xs : List Int} (hown : OwI w B S a n c xs) (hs : ac.eval s = .slice a n c)
    (hx : ac.eval x = .slice (some ⟨z, 0, none⟩) 1 1) (hz : z = w.heap.size) (hn : n + 1 ≤ 16777216) (hbase : B ≤ w.heap.size)
    (h : ∀ a' c' w', OwI w' B w'.heap.size a' (n + 1) c' (xs ++ [x0]) → Grows w w' (.slice a n c) (.slice a' (n + 1) c') → wpList Try.prog ops Q rest (ac.put o.dst (.slice a' (n + 1) c')) w') :
    wpList Try.prog ops Q (o :: rest) ac W := by
  subst hz
  exact wpList_pushI hW hgd s x ho hown hs hx hn hbase h
end Go.Proofs.Ytflkomgfgmephaa

namespace Go.Proofs.Ytflkomgfgmephaa
open Go.RowKit

theorem step_pushT {w W : World} {b : Option Addr} {m d : Nat} {y : Int} (hW : W = w.alloc (.cells #[.slice b m d, .int .i64 y] 72)) {ops : Array Oper} {o : Oper} {ac : Act} {K : Act → World → Prop} {Q : Exit → Act → World → Prop} (hwant : Region.wanted o (yielded ops ac.tmps) = true) (s x : Operand)
    (ho : o.op = .call { callee := .builtin .append, args := #[s, x], argTypes := #[27, 27] })
    {B S : Nat} {a : Option Addr} {n c : Nat} {xs : List (List Int × Int)} (hown : TO w B S a n c xs) (hs : ac.eval s = .slice a n c)
    {ys : List Int} {S' : Nat} (hr : OwI w S S' b m d ys) (hBS : B ≤ S) (hx : ac.eval x = .slice (some ⟨w.heap.size, 0, none⟩) 1 1) (hn : n + 1 ≤ 1048576) (hbase : B ≤ w.heap.size) (hS : S ≤ w.heap.size) (hS' : S' ≤ w.heap.size)
    (h : ∀ a' c' w', TO w' B w'.heap.size a' (n + 1) c' (xs ++ [(ys, y)]) → w.grownBy w' (Value.slice a n c).ownBlock → K (ac.put o.dst (.slice a' (n + 1) c')) w') :
    if Region.wanted o (yielded ops ac.tmps) = true then Oper.wp Try.prog o ac W K Q else K (ac.put o.dst undef) W := by
  rw [if_pos hwant]
  subst hW
  obtain ⟨i0, hi, hz0, hz1, hz2⟩ := info_parts Try.info72
  obtain ⟨vs, h1, h2, h3⟩ := hown
  have hlen := hr.len
  have hvl := h3.len
  have h10 := h1.1
  have h1a := h1.alloc (.cells #[.slice b m d, .int .i64 y] 72)
  obtain ⟨v', w', hrun, h4, h5, _⟩ := run_append_own (P := Try.prog) (w.alloc (.cells #[.slice b m d, .int .i64 y] 72)) B 27 o.type 72 i0 (.agg #[.slice none 0 0, .int .i64 0]) 2 32 Try.underlying27 hi hz0 hz1 hz2 rfl (by decide) (.slice a n c) n vs h1a ⟨w.heap.size, 0, none⟩ 1 1 [.slice b m d, .int .i64 y] rfl
    (by
      intro j u hj
      match j, hj with
      | 0, hj => simp at hj; subst hj; simp [Addr.add]
      | 1, hj => simp at hj; subst hj; simp [Addr.add])
    (by
      intro u hu
      simp at hu
      rcases hu with rfl | rfl <;> rfl) (by unfold maxLen; omega) (by omega) (by simp; omega)
  obtain ⟨a', c', rfl⟩ := slice_ofT h4
  unfold Oper.wp execOp
  simp only [ho, resolve, invoke, builtin, Sem.run_bind, Sem.run_pure, Result.andThen_ok, List.map_toArray, List.map_cons, List.map_nil, hs, hx, hrun]
  have hg := grownBy.trans (World.grownBy_alloc w (.cells #[.slice b m d, .int .i64 y] 72) (Value.slice a n c).ownBlock) h5
  have hsz := hg.size
  have keep : ∀ {B0 S0 : Nat} {a0 : Option Addr} {l0 c0 : Nat} {zs : List Int}, OwI w B0 S0 a0 l0 c0 zs → OwI w' B0 S0 a0 l0 c0 zs := fun hio => ⟨hio.1.kept hg (fun k hk e => ne_blockT h1 hio k e hk), hio.2⟩
  have hold : ∀ i v, vs[i * 2]? = some v → ∀ g, v.ownBlock = some g → g < S := by
    intro i v hv g hvg
    have hi := lt_of_some hv
    obtain ⟨p, hp⟩ := some_of (show i < xs.length by omega)
    obtain ⟨a2, c2, e1, _, e3⟩ := h3.each i p hp
    rw [hv] at e1
    obtain rfl := Option.some.inj e1
    exact e3.2 g hvg
  have hnew : ∀ g, (Value.slice b m d).ownBlock = some g → S ≤ g := fun g hg => hr.1.lo g hg
  refine h a' c' w' ⟨vs ++ [.slice b m d, .int .i64 y], h4, fun k hk => (h4.lt k hk).2, by simp; omega, fun k p hp => ?_, ?_⟩ hg
  · rcases Nat.lt_or_ge k xs.length with hk | hk
    · rw [List.getElem?_append_left hk] at hp
      obtain ⟨a2, c2, e1, e2, e3⟩ := h3.each k p hp
      exact ⟨a2, c2, by rw [List.getElem?_append_left (by omega)]; exact e1, by rw [List.getElem?_append_left (by omega)]; exact e2, (keep e3).mono (Nat.le_refl _) (by omega)⟩
    · rw [List.getElem?_append_right hk] at hp
      have hk0 : k - xs.length = 0 := by have := lt_of_some hp; simp at this; omega
      rw [hk0] at hp
      obtain rfl : (ys, y) = p := by simpa using hp
      have hkx : k = xs.length := by omega
      refine ⟨b, d, ?_, ?_, ?_⟩
      · rw [List.getElem?_append_right (by omega), show k * 2 - vs.length = 0 by omega, hlen]; rfl
      · rw [List.getElem?_append_right (by omega), show k * 2 + 1 - vs.length = 1 by omega]; rfl
      · show OwI w' B w'.heap.size b ys.length d ys
        rw [hlen]
        exact (keep hr).mono hBS (by omega)
  · intro i j u v g hu hv hug hvg
    have split : ∀ i u, (vs ++ [Value.slice b m d, .int .i64 y])[i * 2]? = some u → (i * 2 < vs.length ∧ vs[i * 2]? = some u) ∨ (i * 2 = vs.length ∧ u = .slice b m d) := by
      intro i u hu
      rcases Nat.lt_or_ge (i * 2) vs.length with hi | hi
      · rw [List.getElem?_append_left hi] at hu
        exact .inl ⟨hi, hu⟩
      · rw [List.getElem?_append_right hi] at hu
        have hlt := lt_of_some hu
        simp at hlt
        have e0 : i * 2 - vs.length = 0 := by omega
        rw [e0] at hu
        simp at hu
        exact .inr ⟨by omega, hu.symm⟩
    rcases split i u hu with ⟨_, hu⟩ | ⟨e1, rfl⟩ <;> rcases split j v hv with ⟨_, hv⟩ | ⟨e2, rfl⟩
    · exact h3.apart i j u v g hu hv hug hvg
    · have := hold i u hu g hug
      have := hnew g hvg
      omega
    · have := hold j v hv g hvg
      have := hnew g hug
      omega
    · omega
end Go.Proofs.Ytflkomgfgmephaa

namespace Go.Proofs.Ytflkomgfgmephaa
open Go.RowKit

theorem bits_one (y : Nat) (h : y < 9223372036854775808) : bits .and .i64 (y : Int) 1 = ((y % 2 : Nat) : Int) := by
  have e1 : BitVec.ofInt 64 (y : Int) = BitVec.ofNat 64 y := BitVec.ofInt_natCast ..
  show IntKind.i64.wrap ((BitVec.ofInt 64 (y : Int) &&& BitVec.ofInt 64 1).toNat : Int) = _
  rw [e1, BitVec.toNat_and, BitVec.toNat_ofNat, show (BitVec.ofInt 64 1).toNat = 1 from rfl, Nat.mod_eq_of_lt (by omega), Nat.and_one_is_mod]
  exact IntWalk.i64_in _ (by omega)
theorem bit_x (x t : Nat) (h : x < 9223372036854775808) : bits .and .i64 ((x : Int) / 2 ^ t) 1 = ((x / 2 ^ t % 2 : Nat) : Int) := by
  have e : (x : Int) / 2 ^ t = ((x / 2 ^ t : Nat) : Int) := by
    rw [Int.natCast_ediv, Int.natCast_pow]
    rfl
  rw [e]
  exact bits_one _ (Nat.lt_of_le_of_lt (Nat.div_le_self _ _) h)
theorem CO.kept {w w' : World} {B S n c : Nat} {a : Option Addr} {xs : List (Int × Int)} {row : Option Nat} (h : CO w B S a n c xs) (hg : w.grownBy w' row) (hne : ∀ k, (Value.slice a n c).ownBlock = some k → row ≠ some k) : CO w' B S a n c xs := by
  refine ⟨h.1.kept hg ?_, h.2⟩
  cases hv : (Value.slice a n c).ownBlock with
  | none => exact .inl rfl
  | some k => exact .inr (fun e => hne k hv e.symm)
theorem OwI.kept {w w' : World} {B S n c : Nat} {a : Option Addr} {xs : List Int} {row : Option Nat} (h : OwI w B S a n c xs) (hg : w.grownBy w' row) (hne : ∀ k, (Value.slice a n c).ownBlock = some k → row ≠ some k) : OwI w' B S a n c xs := ⟨h.1.kept hg hne, h.2⟩
end Go.Proofs.Ytflkomgfgmephaa
