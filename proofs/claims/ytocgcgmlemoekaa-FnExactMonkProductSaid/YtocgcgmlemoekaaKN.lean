/-
  Slices of classes whose row is a call's own and whose lists lie in its blocks, two of them perhaps in one block: read, appended to.
-/
import Derived.Test.YtocgcgmlemoekaaKK
import Derived.Test.YtocgcgmlemoekaaLess
namespace Go.Proofs.Ytocgcgmlemoekaa
open Go.RowKit

structure InN (w : World) (B S : Nat) (vs : List Value) (xs : List (List Int × Int)) : Prop where
  len : vs.length = xs.length * 2
  each : ∀ (k : Nat) (p : List Int × Int), xs[k]? = some p → ∃ (a : Option Addr) (c : Nat), vs[k * 2]? = some (Value.slice a p.1.length c) ∧ vs[k * 2 + 1]? = some (Value.int .i64 p.2) ∧ OwI w B S a p.1.length c p.1
def KN (w : World) (B S : Nat) (a : Option Addr) (n c : Nat) (xs : List (List Int × Int)) : Prop :=
  ∃ vs, w.ownsRow B 101 2 (.slice a n c) n vs ∧ (∀ k, (Value.slice a n c).ownBlock = some k → k < S) ∧ InN w B S vs xs
theorem KN.len {w : World} {B S : Nat} {a : Option Addr} {n c : Nat} {xs : List (List Int × Int)} (h : KN w B S a n c xs) : xs.length = n := by
  obtain ⟨vs, h1, _, h3⟩ := h
  have := h1.1
  have := h3.len
  omega
theorem KN.rd {w : World} {B S : Nat} {a : Option Addr} {n c : Nat} {xs : List (List Int × Int)} (h : KN w B S a n c xs) : RP w a xs := by
  obtain ⟨vs, h1, _, h3⟩ := h
  rcases row2_shape h1 with ⟨_, _, _, hv⟩ | ⟨g, rfl, _, _, _, hc, _⟩
  · left
    have := h3.len
    rw [hv] at this
    simp at this
    exact List.eq_nil_of_length_eq_zero (by omega)
  · refine .inr ⟨g, 0, rfl, fun k p hp => ?_⟩
    obtain ⟨a', c', e1, e2, ho⟩ := h3.each k p hp
    exact ⟨a', c', by rw [Nat.zero_add]; exact hc _ _ e1, by rw [Nat.zero_add]; exact hc _ _ e2, ho.rd, ho.1.lt⟩
theorem KN.only {w w' : World} {B S B' S' : Nat} {a : Option Addr} {n c : Nat} {xs : List (List Int × Int)} (h : KN w B S a n c xs) (ho : Only B' S' w w') (hd : S ≤ B' ∨ S' ≤ B) : KN w' B S a n c xs := by
  obtain ⟨vs, h1, h2, h3⟩ := h
  exact ⟨vs, row2_only h1 h2 ho hd, h2, h3.len, fun k p hp => by obtain ⟨a, c, e1, e2, e3⟩ := h3.each k p hp; exact ⟨a, c, e1, e2, e3.only ho hd⟩⟩
theorem KN.below {w w' : World} {B S : Nat} {a : Option Addr} {n c : Nat} {xs : List (List Int × Int)} (h : KN w B S a n c xs) (hb : Below w.heap.size w w') : KN w' B S a n c xs := h.only (Only.of_below hb) (.inr (Nat.zero_le _))
theorem KN.mono {w : World} {B S B' S' : Nat} {a : Option Addr} {n c : Nat} {xs : List (List Int × Int)} (h : KN w B S a n c xs) (hB : B' ≤ B) (hS : S ≤ S') : KN w B' S' a n c xs := by
  obtain ⟨vs, h1, h2, h3⟩ := h
  refine ⟨vs, ⟨h1.1, ?_⟩, fun k hk => Nat.lt_of_lt_of_le (h2 k hk) hS, h3.len, fun k p hp => by obtain ⟨a, c, e1, e2, e3⟩ := h3.each k p hp; exact ⟨a, c, e1, e2, e3.mono hB hS⟩⟩
  rcases h1.2 with h2 | ⟨g, cap, cur, hv, hg, r⟩
  · exact .inl h2
  · exact .inr ⟨g, cap, cur, hv, Nat.le_trans hB hg, r⟩
theorem KN.lo {w : World} {B S : Nat} {a : Option Addr} {n c : Nat} {xs : List (List Int × Int)} (h : KN w B S a n c xs) : ∀ k, (Value.slice a n c).ownBlock = some k → B ≤ k := by
  obtain ⟨vs, h1, _⟩ := h
  exact fun k hk => (h1.lt k hk).1
theorem KN.nil {w : World} {B S : Nat} : KN w B S none 0 0 [] := ⟨[], ⟨rfl, .inl ⟨rfl, rfl⟩⟩, fun k hk => by simp [Value.ownBlock] at hk, rfl, by simp⟩
theorem KN.made (w : World) : KN (w.alloc (.cells #[] 101)) w.heap.size (w.alloc (.cells #[] 101)).heap.size (some ⟨w.heap.size, 0, none⟩) 0 0 [] := by
  have h := World.ownsRow_made (base := w.heap.size) (e := 101) (size := 2) w #[] 0 (Nat.le_refl _) (Nat.zero_le _) rfl
  exact ⟨[], h, fun k hk => (h.lt k hk).2, rfl, by simp⟩
theorem KO.kn {w : World} {B S : Nat} {a : Option Addr} {n c : Nat} {xs : List (List Int × Int)} (h : KO w B S a n c xs) : KN w B S a n c xs := by
  obtain ⟨vs, h1, h2, h3⟩ := h
  exact ⟨vs, h1, h2, h3.len, h3.each⟩
/-- the append itself -/
theorem run_pushN {w : World} {ty : TypeId} {b : Option Addr} {m d : Nat} {y : Int} {B S : Nat} {a : Option Addr} {n c : Nat} {xs : List (List Int × Int)} (hown : KN w B S a n c xs)
    {ys : List Int} {B0 S0 : Nat} (hr : OwI w B0 S0 b m d ys) (hB0 : B ≤ B0) (hn : n + 1 ≤ 1048576) (hbase : B ≤ w.heap.size) (hS : S ≤ w.heap.size) (hS0 : S0 ≤ w.heap.size) :
    ∃ a' c' w', (Builtin.append_ #[36, 36] ty #[.slice a n c, .slice (some ⟨w.heap.size, 0, none⟩) 1 1]).run Try.prog (w.alloc (.cells #[.slice b m d, .int .i64 y] 101)) = .ok (.slice a' (n + 1) c') w' ∧ KN w' B w'.heap.size a' (n + 1) c' (xs ++ [(ys, y)]) ∧ w.grownBy w' (Value.slice a n c).ownBlock := by
  obtain ⟨i0, hi, hz0, hz1, hz2⟩ := info_parts Try.info101
  obtain ⟨vs, h1, h2, h3⟩ := hown
  have hlen := hr.len
  have hvl := h3.len
  have h10 := h1.1
  have h1a := h1.alloc (.cells #[.slice b m d, .int .i64 y] 101)
  obtain ⟨v', w', hrun, h4, h5, _⟩ := run_append_own (P := Try.prog) (w.alloc (.cells #[.slice b m d, .int .i64 y] 101)) B 36 ty 101 i0 (.agg #[.slice none 0 0, .int .i64 0]) 2 32 Try.underlying36 hi hz0 hz1 hz2 rfl (by decide) (.slice a n c) n vs h1a ⟨w.heap.size, 0, none⟩ 1 1 [.slice b m d, .int .i64 y] rfl
    (by
      intro j u hj
      match j, hj with
      | 0, hj => simp at hj; subst hj; simp [Addr.add]
      | 1, hj => simp at hj; subst hj; simp [Addr.add])
    (by
      intro u hu
      simp at hu
      rcases hu with rfl | rfl <;> rfl) (by unfold maxLen; omega) (by omega) (by simp; omega)
  obtain ⟨a', c', rfl⟩ := slice_ofT h4
  have hg := grownBy.trans (World.grownBy_alloc w (.cells #[.slice b m d, .int .i64 y] 101) (Value.slice a n c).ownBlock) h5
  have hsz := hg.size
  have keep : ∀ {B0 S0 : Nat} {a0 : Option Addr} {l0 c0 : Nat} {zs : List Int}, OwI w B0 S0 a0 l0 c0 zs → OwI w' B0 S0 a0 l0 c0 zs := fun hio => ⟨hio.1.kept hg (fun k hk e => ne_blockTK h1 hio k e hk), hio.2⟩
  refine ⟨a', c', w', hrun, ⟨vs ++ [.slice b m d, .int .i64 y], h4, fun k hk => (h4.lt k hk).2, by simp; omega, fun k p hp => ?_⟩, hg⟩
  rcases Nat.lt_or_ge k xs.length with hk | hk
  · rw [List.getElem?_append_left hk] at hp
    obtain ⟨a2, c2, e1, e2, e3⟩ := h3.each k p hp
    exact ⟨a2, c2, by rw [List.getElem?_append_left (by omega)]; exact e1, by rw [List.getElem?_append_left (by omega)]; exact e2, (keep e3).mono (Nat.le_refl _) (by omega)⟩
  · rw [List.getElem?_append_right hk] at hp
    have hk0 : k - xs.length = 0 := by have := lt_of_some hp; simp at this; omega
    rw [hk0] at hp
    obtain rfl : (ys, y) = p := by simpa using hp
    have hkx : k = xs.length := by omega
    refine ⟨b, d, ?_, ?_, ?_⟩
    · rw [List.getElem?_append_right (by omega), show k * 2 - vs.length = 0 by omega, hlen]; rfl
    · rw [List.getElem?_append_right (by omega), show k * 2 + 1 - vs.length = 1 by omega]; rfl
    · show OwI w' B w'.heap.size b ys.length d ys
      rw [hlen]
      exact (keep hr).mono hB0 (by omega)
theorem wpList_pushN {w W : World} {b : Option Addr} {m d : Nat} {y : Int} (hW : W = w.alloc (.cells #[.slice b m d, .int .i64 y] 101)) {ops : Array Oper} {rest : List Oper} {o : Oper} {ac : Act} {Q : Exit → Act → World → Prop} (hgd : o.guard = none) (s x : Operand)
    (ho : o.op = .call { callee := .builtin .append, args := #[s, x], argTypes := #[36, 36] })
    {B S : Nat} {a : Option Addr} {n c : Nat} {xs : List (List Int × Int)} (hown : KN w B S a n c xs) (hs : ac.eval s = .slice a n c)
    {ys : List Int} {B0 S0 : Nat} (hr : OwI w B0 S0 b m d ys) (hB0 : B ≤ B0) {z : Nat} (hx : ac.eval x = .slice (some ⟨z, 0, none⟩) 1 1) (hz : z = w.heap.size) (hn : n + 1 ≤ 1048576) (hbase : B ≤ w.heap.size) (hS : S ≤ w.heap.size) (hS0 : S0 ≤ w.heap.size)
    (h : ∀ a' c' w', KN w' B w'.heap.size a' (n + 1) c' (xs ++ [(ys, y)]) → w.grownBy w' (Value.slice a n c).ownBlock → wpList Try.prog ops Q rest (ac.put o.dst (.slice a' (n + 1) c')) w') :
    wpList Try.prog ops Q (o :: rest) ac W :=
  wpList_plain hgd fun _ hK => by
    subst hW
    subst hz
    obtain ⟨a', c', w', hrun, h2, h3⟩ := run_pushN (ty := o.type) (y := y) hown hr hB0 hn hbase hS hS0
    unfold Oper.wp execOp
    simp only [ho, resolve, invoke, builtin, Sem.run_bind, Sem.run_pure, Result.andThen_ok, List.map_toArray, List.map_cons, List.map_nil, hs, hx, hrun]
    exact hK _ _ (h a' c' w' h2 h3)
theorem step_pushN {w W : World} {b : Option Addr} {m d : Nat} {y : Int} (hW : W = w.alloc (.cells #[.slice b m d, .int .i64 y] 101)) {ops : Array Oper} {o : Oper} {ac : Act} {K : Act → World → Prop} {Q : Exit → Act → World → Prop} (hwant : Region.wanted o (yielded ops ac.tmps) = true) (s x : Operand)
    (ho : o.op = .call { callee := .builtin .append, args := #[s, x], argTypes := #[36, 36] })
    {B S : Nat} {a : Option Addr} {n c : Nat} {xs : List (List Int × Int)} (hown : KN w B S a n c xs) (hs : ac.eval s = .slice a n c)
    {ys : List Int} {B0 S0 : Nat} (hr : OwI w B0 S0 b m d ys) (hB0 : B ≤ B0) (hx : ac.eval x = .slice (some ⟨w.heap.size, 0, none⟩) 1 1) (hn : n + 1 ≤ 1048576) (hbase : B ≤ w.heap.size) (hS : S ≤ w.heap.size) (hS0 : S0 ≤ w.heap.size)
    (h : ∀ a' c' w', KN w' B w'.heap.size a' (n + 1) c' (xs ++ [(ys, y)]) → w.grownBy w' (Value.slice a n c).ownBlock → K (ac.put o.dst (.slice a' (n + 1) c')) w') :
    if Region.wanted o (yielded ops ac.tmps) = true then Oper.wp Try.prog o ac W K Q else K (ac.put o.dst undef) W := by
  rw [if_pos hwant]
  subst hW
  obtain ⟨a', c', w', hrun, h2, h3⟩ := run_pushN (ty := o.type) (y := y) hown hr hB0 hn hbase hS hS0
  unfold Oper.wp execOp
  simp only [ho, resolve, invoke, builtin, Sem.run_bind, Sem.run_pure, Result.andThen_ok, List.map_toArray, List.map_cons, List.map_nil, hs, hx, hrun]
  exact h a' c' w' h2 h3

theorem KN.keep {w w' : World} {B S B0 S0 : Nat} {a b : Option Addr} {n c m d : Nat} {xs : List (List Int × Int)} {ys : List Int} (h : KN w B S a n c xs) (hi : OwI w B0 S0 b m d ys) (hg : w.grownBy w' (Value.slice a n c).ownBlock) : OwI w' B0 S0 b m d ys := by
  obtain ⟨vs, h1, _⟩ := h
  exact ⟨hi.1.kept hg (fun k hk e => ne_blockTK h1 hi k e hk), hi.2⟩

/-! a class put into an ascending list -/
def insK (v : List Int) (x : Int) (xs : List (List Int × Int)) : List (List Int × Int) := xs.takeWhile (fun p => less p.1 v) ++ (v, x) :: xs.dropWhile fun p => less p.1 v
end Go.Proofs.Ytocgcgmlemoekaa
