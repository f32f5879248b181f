/-
  Contract of l1In.
  Contract of toIntS.
  Contract of eqIntS.
  Laws for slices that a call makes itself: appending, storing, reading; said of whole lists.
  Contracts of markIntS and heldIntS.
  What a law asks of lists of integers, in one form: copied, compared, marked, held.
  Slices of slices of integers: what they read as, what a call owns of them; copied, compared, marked, held.
  Slices of slices of integers: marked, held, copied.
  Appending: one law for every append of the program to a row that the call owns; which block the result lies in.
  Contracts of slices.Clone of integers and l1Ints.
-/
import Derived.Test.YtocgcgmlemoekaaBase
namespace Go.Proofs.Ytocgcgmlemoekaa
open Go.RowKit

set_option maxHeartbeats 400000 in
theorem l1In_any (n lo hi : Int) (w : World) :
    Calls Try.prog 73 #[.int .i64 n, .int .i64 lo, .int .i64 hi] w fun e w' => e = .returned (.bool (decide (lo ≤ n) && decide (n ≤ hi))) ∧ Drew w w' := by
  by_cases h1 : lo ≤ n <;> by_cases h2 : n ≤ hi
  all_goals
    go_enter Try.func73, Try.ntmps73
    go_wp2
    go_ret
    exact ⟨by simp [h1, h2], Drew.refl _⟩

theorem l1In_no (n lo hi : Int) (w : World) (h : n < lo ∨ hi < n) :
    Calls Try.prog 73 #[.int .i64 n, .int .i64 lo, .int .i64 hi] w fun e w' => e = .returned (.bool false) ∧ Drew w w' :=
  (l1In_any n lo hi w).mono fun _ _ ⟨he, hw⟩ => ⟨by rw [he]; exact ret_bool (by simp; omega), hw⟩
theorem l1In_yes (n lo hi : Int) (w : World) (h : lo ≤ n ∧ n ≤ hi) :
    Calls Try.prog 73 #[.int .i64 n, .int .i64 lo, .int .i64 hi] w fun e w' => e = .returned (.bool true) ∧ Drew w w' :=
  (l1In_any n lo hi w).mono fun _ _ ⟨he, hw⟩ => ⟨by rw [he]; exact ret_bool (by simp; omega), hw⟩

end Go.Proofs.Ytocgcgmlemoekaa

namespace Go.Proofs.Ytocgcgmlemoekaa
open Go.RowKit

def fillTo (xs : List Int) (n k : Nat) : List Int := xs.take k ++ List.replicate (n - k) 0
theorem fillTo_length {xs : List Int} {n k : Nat} (h : xs.length = n) (hk : k ≤ n) : (fillTo xs n k).length = n := by
  simp [fillTo]; omega
theorem fillTo_zero (xs : List Int) (n : Nat) : fillTo xs n 0 = List.replicate n 0 := by simp [fillTo]
theorem fillTo_all {xs : List Int} {n : Nat} (h : xs.length = n) : fillTo xs n n = xs := by simp [fillTo, ← h]
theorem fillTo_succ {xs : List Int} {n k : Nat} {x : Int} (h : xs.length = n) (hk : k < n) (hx : xs[k]? = some x) : (fillTo xs n k).set k x = fillTo xs n (k + 1) := by
  subst h
  apply List.ext_getElem?
  intro j
  obtain ⟨_, rfl⟩ := List.getElem?_eq_some_iff.1 hx
  rw [List.getElem?_set]
  by_cases hj : k = j
  · subst hj
    rw [if_pos rfl, if_pos (by rw [fillTo_length rfl (by omega)]; exact hk)]
    unfold fillTo
    rw [List.getElem?_append_left (by simp; omega), List.getElem?_take, if_pos (by omega), List.getElem?_eq_getElem hk]
  · simp only [if_neg hj, fillTo]
    rw [List.getElem?_append, List.getElem?_append]
    simp only [List.length_take, List.getElem?_take, List.getElem?_replicate]
    repeat' split
    all_goals first | rfl | omega

set_option maxHeartbeats 400000 in
theorem toIntS_any (a : Option Addr) (n c : Nat) (xs : List Int) (w : World) (hr : RI w a xs) (hn : xs.length = n) (hb : n ≤ 17592186044416) :
    Calls Try.prog 16 #[.slice a n c] w fun e w' => ∃ a' c', e = .returned (.slice a' n c') ∧ OS w' w.heap.size a' n c' xs ∧ Below w.heap.size w w' := by
  have Hn := Lib.hid hn; clear hn
  obtain ⟨i0, hi, hz0, hz1, hz2⟩ := info_parts Try.info3
  go_enter Try.func16, Try.ntmps16
  go_wp2_with (first | (at_make; refine wpList_make_full _ rfl _ _ 22 rfl w.heap.size 3 i0 (.int .i64 0) 1 Try.underlying22 hi hz0 hz1 .i64 .i64 _ _ n rfl rfl ?m1 ?m2 ?m3 ?m4 ?m5 ?_))
  case m1 => rfl
  case m2 => rfl
  case m3 => rw [hz2]; omega
  case m4 => unfold maxLen; omega
  case m5 => exact Nat.le_refl _
  intro w1 hown hg
  have hB : Below w.heap.size w w1 := (Below.refl _ _).grown hg (Nat.le_refl _) (by simp)
  have hrow : OI w1 w.heap.size (.slice (some ⟨w.heap.size, 0, none⟩) n n) (fillTo xs n 0) := by
    unfold OI
    rw [fillTo_length Hn.out (Nat.zero_le _), fillTo_zero]
    have e := toList_madeCells_one (.int .i64 0) n
    simpa [ints, Value.cells, e] using hown
  clear hown hg
  go_wp2
  go_loopw [4] (fun i wr => ∃ k : Nat, k ≤ n ∧ i = .int .i64 k ∧ OI wr w.heap.size (.slice (some ⟨w.heap.size, 0, none⟩) n n) (fillTo xs n k) ∧ Below w.heap.size w wr) (fun i _ => n - (intOf i).toNat)
  case atStart => exact ⟨0, Nat.zero_le _, rfl, hrow, hB⟩
  case round =>
    clear hrow hB
    obtain ⟨k, hk, rfl, hown, hbel⟩ := hrel
    by_cases hlt : k < n
    · obtain ⟨b, off, rfl, hcell⟩ := hr.at (k := k) (by rw [Hn.out]; exact hlt)
      obtain ⟨x, hx⟩ : ∃ x, xs[k]? = some x := ⟨xs[k]'(by rw [Hn.out]; exact hlt), by simp⟩
      have hc0 := hcell k x hx
      have hblt := World.block_lt_of_cell? w _ hc0
      have hc : wr.cell? ⟨b, off + k, none⟩ = some (.int .i64 x) := by rw [hbel.cell hblt]; exact hc0
      clear hcell hc0
      have hold : ∃ y, wr.cell? ⟨w.heap.size, k, none⟩ = some (.int .i64 y) := by
        unfold OI at hown
        rw [fillTo_length Hn.out hk] at hown
        rw [hown.cellAt k (by omega)]
        have : k < (fillTo xs n k).length := by rw [fillTo_length Hn.out hk]; exact hlt
        exact ⟨(fillTo xs n k)[k], by simp [ints, this]⟩
      obtain ⟨y, hy⟩ := hold
      have hfz : wr.frozen? ⟨w.heap.size, k, none⟩ = false := by
        unfold OI at hown
        rw [fillTo_length Hn.out hk] at hown
        exact hown.frozenAt k
      have Hx := Lib.hid hx; clear hx
      go_wp2
      go_roundw
      case rel =>
        refine ⟨k + 1, by omega, by go_num, ?_, hbel.setCell (Nat.le_refl _) _⟩
        have hs : OI (wr.setCell ⟨w.heap.size, k, none⟩ (.int .i64 x)) w.heap.size (.slice (some ⟨w.heap.size, 0, none⟩) n n) ((fillTo xs n k).set k x) := by
          unfold OI at hown ⊢
          rw [fillTo_length Hn.out hk] at hown
          rw [List.length_set, fillTo_length Hn.out hk]
          have := (hown.stored k (.int .i64 x)).1
          simpa [ints] using this
        rw [fillTo_succ Hn.out hlt Hx.out] at hs
        exact hs
      case measure => simp [intOf]; omega
    · obtain rfl : k = n := by omega
      go_wp2
      go_ret
      rw [fillTo_all Hn.out] at hown
      exact ⟨_, _, rfl, ⟨Hn.out, hown⟩, hbel⟩
end Go.Proofs.Ytocgcgmlemoekaa

namespace Go.Proofs.Ytocgcgmlemoekaa
open Go.RowKit

theorem eq_of_all {xs ys : List Int} (hl : xs.length = ys.length) (h : ∀ j, j < xs.length → xs[j]? = ys[j]?) : decide (xs = ys) = true := by
  rw [decide_eq_true_iff]
  apply List.ext_getElem?
  intro j
  rcases Nat.lt_or_ge j xs.length with h1 | h1
  · exact h j h1
  · rw [List.getElem?_eq_none h1, List.getElem?_eq_none (by omega)]
theorem ne_of_at {xs ys : List Int} {k : Nat} {x y : Int} (hx : xs[k]? = some x) (hy : ys[k]? = some y) (h : x ≠ y) : decide (xs = ys) = false := by
  rw [decide_eq_false_iff_not]
  rintro rfl
  rw [hx] at hy
  exact h (by simpa using hy)

set_option maxHeartbeats 400000 in
theorem eqIntS_any (a b : Option Addr) (n c m d : Nat) (xs ys : List Int) (w : World) (hr : RI w a xs) (hs : RI w b ys) (hn : xs.length = n) (hm : ys.length = m) (hb : n ≤ 17592186044416) :
    Calls Try.prog 19 #[.slice a n c, .slice b m d] w fun e w' => e = .returned (.bool (decide (xs = ys))) ∧ Drew w w' := by
  have Hn := Lib.hid hn; clear hn
  have Hm := Lib.hid hm; clear hm
  by_cases hnm : n = m
  · subst hnm
    go_enter Try.func19, Try.ntmps19
    go_wp2
    go_loopw [5] (fun i wr => ∃ k : Nat, k ≤ n ∧ i = .int .i64 k ∧ Hid (∀ j, j < k → xs[j]? = ys[j]?) ∧ Drew w wr) (fun i _ => n - (intOf i).toNat)
    case atStart => exact ⟨0, Nat.zero_le _, rfl, by intro j hj; omega, Drew.refl _⟩
    case round =>
      obtain ⟨k, hk, rfl, HA, hd⟩ := hrel
      by_cases hlt : k < n
      · obtain ⟨b, off, rfl, hcell⟩ := (hr.drew hd).at (k := k) (by rw [Hn.out]; exact hlt)
        obtain ⟨b2, off2, rfl, hcell2⟩ := (hs.drew hd).at (k := k) (by rw [Hm.out]; exact hlt)
        obtain ⟨x, hx⟩ : ∃ x, xs[k]? = some x := ⟨xs[k]'(by rw [Hn.out]; exact hlt), by simp⟩
        obtain ⟨y, hy⟩ : ∃ y, ys[k]? = some y := ⟨ys[k]'(by rw [Hm.out]; exact hlt), by simp⟩
        have hc := hcell k x hx
        have hc2 := hcell2 k y hy
        have Hx := Lib.hid hx; clear hx
        have Hy := Lib.hid hy; clear hy
        clear hcell hcell2
        have hltI : (k : Int) < (n : Int) := by omega
        by_cases h1 : x = y
        · subst h1
          go_wp2
          go_quiet (fail)
          go_wp2
          go_roundw
          case rel => exact ⟨k + 1, by omega, by go_num, by
                intro j hj
                rcases Nat.lt_or_ge j k with h | h
                · exact HA.out j h
                · obtain rfl : j = k := by omega
                  rw [Hx.out, Hy.out], hd.trans (Drew.drewN _ _)⟩
          case measure => simp [intOf]; omega
        · have hne : (x != y) = true := by simpa using h1
          have H1 := Lib.hid h1; clear h1
          go_wp2
          go_quiet (fail)
          go_wp2
          go_ret
          exact ⟨ret_bool (ne_of_at Hx.out Hy.out H1.out).symm, hd.trans (Drew.drewN _ _)⟩
      · go_wp2
        go_ret
        exact ⟨ret_bool (eq_of_all (Hn.out.trans Hm.out.symm) (by intro j hj; exact HA.out j (by rw [Hn.out] at hj; omega))).symm, hd⟩
  · go_enter Try.func19, Try.ntmps19
    have hne : ((n : Int) != (m : Int)) = true := by rw [bne_iff_ne]; omega
    go_wp2
    go_ret
    exact ⟨ret_bool (by symm; rw [decide_eq_false_iff_not]; rintro rfl; exact hnm (Hn.out.symm.trans Hm.out)), Drew.refl _⟩
end Go.Proofs.Ytocgcgmlemoekaa

namespace Go.Proofs.Ytocgcgmlemoekaa
open Go.RowKit

/-- w' is w with new blocks, and with writes to block row alone -/
theorem below_grown {B : Nat} {wS w w' : World} {v : Value} (h : Below B wS w) (hg : w.grownBy w' v.ownBlock) (hB : B ≤ w.heap.size) (hv : ∀ k, v.ownBlock = some k → B ≤ k) : Below B wS w' :=
  h.grown hg hB hv

theorem grownBy.trans {a b c : World} {row : Option Nat} (h : a.grownBy b row) (k : b.grownBy c row) : a.grownBy c row :=
  ⟨k.os.trans h.os, k.tape.trans h.tape, k.output.trans h.output, Nat.le_trans h.size k.size, fun i hi hr => (k.block i (Nat.lt_of_lt_of_le hi h.size) hr).trans (h.block i hi hr)⟩
theorem grownBy.drew (w : World) (n : Nat) (row : Option Nat) : w.grownBy (w.drewN n) row := ⟨rfl, rfl, rfl, Nat.le_refl _, fun _ _ _ => rfl⟩

/-- the shape of what an append hands back -/
theorem slice_of {w : World} {B e n : Nat} {v : Value} {xs : List Value} (h : w.ownsRow B e 1 v n xs) : ∃ a c, v = .slice a n c ∧ n ≤ c ∧ (a = none → c = 0) := by
  rcases h.2 with ⟨rfl, rfl⟩ | ⟨g, cap, cur, rfl, _, _, hl, _⟩
  · exact ⟨none, 0, rfl, Nat.le_refl _, fun _ => rfl⟩
  · exact ⟨_, cap, rfl, hl, fun h => by cases h⟩

/-- append of one element that has just been laid in a block of its own -/
theorem wpList_push {P : Program} (w : World) (u : Value) (e : TypeId) {W : World} (hW : W = w.alloc (.cells #[u] e)) {ops : Array Oper} {rest : List Oper} {o : Oper} {a : Act} {Q : Exit → Act → World → Prop} (hgd : o.guard = none) (s x : Operand) (t : TypeId)
    (ho : o.op = .call { callee := .builtin .append, args := #[s, x], argTypes := #[t, t] })
    (B : Nat) (i : TypeInfo) (z : Value) (bytes : Nat) (ht : P.underlying t = some (.slice e)) (hi : P.info? e = some i) (hz : i.zero = some z)
    (hsize : i.size = 1) (hby : i.bytes = bytes) (hzs : z.cells.size = 1)
    (v : Value) (n : Nat) (xs : List Value) (hs : a.eval s = v) (hown : w.ownsRow B e 1 v n xs)
    (hx : a.eval x = .slice (some ⟨w.heap.size, 0, none⟩) 1 1) (hu : u.oneCell' = true)
    (hn : n + 1 ≤ 1048576) (hb2 : bytes ≤ 1048576) (hbase : B ≤ w.heap.size)
    (h : ∀ a' c' w', w'.ownsRow B e 1 (.slice a' (n + 1) c') (n + 1) (xs ++ [u]) → w.grownBy w' v.ownBlock → wpList P ops Q rest (a.put o.dst (.slice a' (n + 1) c')) w') :
    wpList P ops Q (o :: rest) a W := by
  subst hW
  refine wpList_append_own _ hgd s x t ho B e i z 1 bytes ht hi hz hsize hby hzs (by decide) v n xs hs (hown.alloc _) ⟨w.heap.size, 0, none⟩ 1 1 [u] hx rfl ?_ ?_ (by unfold maxLen; omega) ?_ (by simp; omega) ?_
  · intro j y hj
    match j, hj with
    | 0, hj => simp at hj; subst hj; simp [Addr.add]
  · intro y hy; simp at hy; subst hy; exact hu
  · have := Nat.mul_le_mul hn hb2; omega
  · intro v' w' h2 h3 _
    obtain ⟨a', c', rfl, _⟩ := slice_of h2
    exact h a' c' w' h2 (grownBy.trans (World.grownBy_alloc w _ _) h3)

theorem OS.own {w : World} {B : Nat} {a : Option Addr} {n c : Nat} {xs : List Int} (h : OS w B a n c xs) : w.ownsRow B 3 1 (.slice a n c) n (ints xs) := by
  obtain ⟨rfl, h⟩ := h; exact h
theorem OS.of {w : World} {B : Nat} {a : Option Addr} {n c : Nat} {xs : List Int} (h : w.ownsRow B 3 1 (.slice a n c) n (ints xs)) : OS w B a n c xs := by
  have : xs.length = n := by have := h.1; simpa [ints] using this
  subst this
  exact ⟨rfl, h⟩
theorem OS.snoc {w : World} {B : Nat} {a : Option Addr} {n c : Nat} {xs : List Int} {x : Int} (h : w.ownsRow B 3 1 (.slice a n c) n (ints xs ++ [.int .i64 x])) : OS w B a n c (xs ++ [x]) :=
  OS.of (by simpa [ints] using h)
theorem OS.hi {w : World} {B : Nat} {a : Option Addr} {n c : Nat} {xs : List Int} (h : OS w B a n c xs) : ∀ k, (Value.slice a n c).ownBlock = some k → k < w.heap.size := fun k hk => (h.own.lt k hk).2
theorem OS.kept {w w' : World} {B : Nat} {a : Option Addr} {n c : Nat} {xs : List Int} {row : Option Nat} (h : OS w B a n c xs) (hg : w.grownBy w' row) (hne : ∀ k, (Value.slice a n c).ownBlock = some k → row ≠ some k) : OS w' B a n c xs := by
  refine OS.of (h.own.kept hg ?_)
  cases hv : (Value.slice a n c).ownBlock with
  | none => exact .inl rfl
  | some k => exact .inr (fun e => hne k hv e.symm)
theorem OS.lo {w : World} {B : Nat} {a : Option Addr} {n c : Nat} {xs : List Int} (h : OS w B a n c xs) : ∀ k, (Value.slice a n c).ownBlock = some k → B ≤ k := fun k hk => (h.own.lt k hk).1

/-- w' is w with new blocks, and with writes to blocks from B on and below S alone -/
structure Only (B S : Nat) (w w' : World) : Prop where
  os : w'.os = w.os
  tape : w'.tape = w.tape
  output : w'.output = w.output
  size : w.heap.size ≤ w'.heap.size
  block : ∀ k, k < w.heap.size → ¬ (B ≤ k ∧ k < S) → w'.heap[k]? = w.heap[k]?
theorem Only.refl (B S : Nat) (w : World) : Only B S w w := ⟨rfl, rfl, rfl, Nat.le_refl _, fun _ _ _ => rfl⟩
theorem Only.trans {B S : Nat} {a b c : World} (h : Only B S a b) (k : Only B S b c) : Only B S a c :=
  ⟨k.os.trans h.os, k.tape.trans h.tape, k.output.trans h.output, Nat.le_trans h.size k.size, fun i hi hn => (k.block i (Nat.lt_of_lt_of_le hi h.size) hn).trans (h.block i hi hn)⟩
theorem Only.of_below {w w' : World} (h : Below w.heap.size w w') : Only 0 0 w w' := ⟨h.os, h.tape, h.output, h.size, fun k hk _ => h.block k hk⟩
theorem Only.of_grown {B S : Nat} {w w' : World} {v : Value} (h : w.grownBy w' v.ownBlock) (hl : ∀ k, v.ownBlock = some k → B ≤ k) (hh : ∀ k, v.ownBlock = some k → k < S) : Only B S w w' :=
  ⟨h.os, h.tape, h.output, h.size, fun k hk hn => h.block k hk (fun e => hn ⟨hl k e.symm, hh k e.symm⟩)⟩
theorem Only.mono {B S B' S' : Nat} {w w' : World} (h : Only B S w w') (h1 : B' ≤ B) (h2 : S ≤ S') : Only B' S' w w' := ⟨h.os, h.tape, h.output, h.size, fun k hk hn => h.block k hk (fun e => hn ⟨Nat.le_trans h1 e.1, Nat.lt_of_lt_of_le e.2 h2⟩)⟩
theorem Only.below {A B S : Nat} {wS w w' : World} (h : Only B S w w') (hb : Below A wS w) (hA : A ≤ B) (hw : A ≤ w.heap.size) : Below A wS w' :=
  hb.trans ⟨h.os, h.tape, h.output, h.size, fun k hk => h.block k (by omega) (by omega)⟩
/-- the slice is a row of the call's own, in a block from B on and below S, and holds xs -/
def OwI (w : World) (B S : Nat) (a : Option Addr) (n c : Nat) (xs : List Int) : Prop := OS w B a n c xs ∧ ∀ k, (Value.slice a n c).ownBlock = some k → k < S
theorem OwI.of {w : World} {B : Nat} {a : Option Addr} {n c : Nat} {xs : List Int} (h : OS w B a n c xs) : OwI w B w.heap.size a n c xs := ⟨h, h.hi⟩
theorem OwI.len {w : World} {B S : Nat} {a : Option Addr} {n c : Nat} {xs : List Int} (h : OwI w B S a n c xs) : xs.length = n := h.1.1
theorem OwI.rd {w : World} {B S : Nat} {a : Option Addr} {n c : Nat} {xs : List Int} (h : OwI w B S a n c xs) : RI w a xs := h.1.ri
theorem OwI.only {w w' : World} {B S B' S' : Nat} {a : Option Addr} {n c : Nat} {xs : List Int} (h : OwI w B S a n c xs) (ho : Only B' S' w w') (hd : S ≤ B' ∨ S' ≤ B) : OwI w' B S a n c xs := by
  refine ⟨OS.of ⟨h.1.own.1, ?_⟩, h.2⟩
  have hh := h.2
  have hl := h.1.lo
  rcases h.1.own.2 with h2 | ⟨g, cap, cur, hv, hg, hb, r⟩
  · exact .inl h2
  · simp only [Value.slice.injEq] at hv
    obtain ⟨rfl, _, rfl⟩ := hv
    have h1 := hh g rfl
    have h3 := hl g rfl
    exact .inr ⟨g, c, cur, rfl, hg, by rw [ho.block g (Array.getElem?_eq_some_iff.1 hb).1 (by omega)]; exact hb, r⟩
theorem OwI.below {w w' : World} {B S : Nat} {a : Option Addr} {n c : Nat} {xs : List Int} (h : OwI w B S a n c xs) (hb : Below w.heap.size w w') : OwI w' B S a n c xs := h.only (Only.of_below hb) (.inr (Nat.zero_le _))

end Go.Proofs.Ytocgcgmlemoekaa

namespace Go.Proofs.Ytocgcgmlemoekaa
open Go.RowKit

/-- k, k + 1, .. -/
def iota (k : Int) (n : Nat) : List Int := (List.range n).map fun (i : Nat) => k + (i : Int)
theorem iota_length (k : Int) (n : Nat) : (iota k n).length = n := by simp [iota]
theorem iota_at {k : Int} {n j : Nat} (h : j < n) : (iota k n)[j]? = some (k + (j : Int)) := by simp [iota, h]
def marked (xs : List Int) (k : Int) (j : Nat) : List Int := iota k j ++ xs.drop j
theorem marked_length {xs : List Int} {k : Int} {n j : Nat} (h : xs.length = n) (hj : j ≤ n) : (marked xs k j).length = n := by simp [marked, iota_length]; omega
theorem marked_zero (xs : List Int) (k : Int) : marked xs k 0 = xs := by simp [marked, iota]
theorem marked_all {xs : List Int} {k : Int} {n : Nat} (h : xs.length = n) : marked xs k n = iota k n := by simp [marked, ← h]
theorem marked_succ {xs : List Int} {k : Int} {n j : Nat} (h : xs.length = n) (hj : j < n) : (marked xs k j).set j (k + (j : Int)) = marked xs k (j + 1) := by
  subst h
  apply List.ext_getElem?
  intro i
  rw [List.getElem?_set]
  by_cases hi : j = i
  · subst hi
    rw [if_pos rfl, if_pos (by rw [marked_length rfl (by omega)]; exact hj)]
    unfold marked
    rw [List.getElem?_append_left (by simp [iota_length]), iota_at (by omega)]
  · rw [if_neg hi]
    unfold marked
    rw [List.getElem?_append, List.getElem?_append, iota_length, iota_length]
    by_cases h1 : i < j
    · rw [if_pos h1, if_pos (by omega), iota_at h1, iota_at (by omega)]
    · rw [if_neg h1, if_neg (by omega), List.getElem?_drop, List.getElem?_drop]
      congr 1
      omega

theorem OI.cons {w : World} {B : Nat} {a : Option Addr} {n c : Nat} {xs : List Int} (h : OS w B a n c xs) {j : Nat} (hj : j < n) :
    ∃ g, a = some ⟨g, 0, none⟩ ∧ B ≤ g ∧ (∃ x, xs[j]? = some x ∧ w.cell? ⟨g, j, none⟩ = some (.int .i64 x)) ∧ w.frozen? ⟨g, j, none⟩ = false := by
  obtain ⟨rfl, h⟩ := h
  have h' := h
  rcases h.2 with ⟨_, h2⟩ | ⟨g, cap, cur, hv, hb, _⟩
  · omega
  · simp only [Value.slice.injEq] at hv
    obtain ⟨rfl, _, rfl⟩ := hv
    obtain ⟨x, hx⟩ := some_at rfl hj
    exact ⟨g, rfl, hb, ⟨x, hx, by rw [h'.cellAt j (by omega)]; simp [ints, hx]⟩, h'.frozenAt j⟩
theorem OS.store {w : World} {B : Nat} {g : Nat} {n c : Nat} {xs : List Int} (h : OS w B (some ⟨g, 0, none⟩) n c xs) (j : Nat) (x : Int) :
    OS (w.setCell ⟨g, j, none⟩ (.int .i64 x)) B (some ⟨g, 0, none⟩) n c (xs.set j x) ∧ w.grownBy (w.setCell ⟨g, j, none⟩ (.int .i64 x)) (some g) := by
  obtain ⟨rfl, h⟩ := h
  have := h.stored j (.int .i64 x)
  refine ⟨⟨by simp, ?_⟩, this.2⟩
  unfold OI
  rw [List.length_set]
  have h1 := this.1
  simpa [ints] using h1

set_option maxHeartbeats 400000 in
theorem markIntS_any (B : Nat) (a : Option Addr) (n c : Nat) (xs : List Int) (k : Int) (w : World) (ho : OS w B a n c xs) (hk0 : 0 ≤ k) (hk : k ≤ 17592186044416) (hb : n ≤ 17592186044416) :
    Calls Try.prog 20 #[.slice a n c, .int .i64 k] w fun e w' => e = .returned (.int .i64 (k + n)) ∧ OS w' B a n c (iota k n) ∧ w.grownBy w' (Value.slice a n c).ownBlock := by
  go_enter Try.func20, Try.ntmps20
  go_wp2
  go_loopw [1, 5] (fun kk i wr => ∃ j : Nat, j ≤ n ∧ i = .int .i64 j ∧ kk = .int .i64 (k + j) ∧ OS wr B a n c (marked xs k j) ∧ w.grownBy wr (Value.slice a n c).ownBlock) (fun _ i _ => n - (intOf i).toNat)
  case atStart => exact ⟨0, Nat.zero_le _, rfl, by simp, by rw [marked_zero]; exact ho, ⟨rfl, rfl, rfl, Nat.le_refl _, fun _ _ _ => rfl⟩⟩
  case round =>
    obtain ⟨j, hj, rfl, rfl, hr, hg⟩ := hrel
    by_cases hlt : j < n
    · obtain ⟨g, rfl, hB, ⟨x, hx, hc⟩, hf⟩ := OI.cons hr hlt
      clear hx
      go_wp2
      go_roundw
      case rel =>
        have hs := hr.store j (k + j)
        rw [marked_succ ho.1 hlt] at hs
        exact ⟨j + 1, by omega, by go_num, by go_num, hs.1, grownBy.trans hg hs.2⟩
      case measure => simp [intOf]; omega
    · obtain rfl : j = n := by omega
      go_wp2
      go_ret
      rw [marked_all ho.1] at hr
      exact ⟨rfl, hr, hg⟩

theorem markI_any (B S : Nat) (a : Option Addr) (n c : Nat) (xs : List Int) (k : Int) (w : World) (ho : OwI w B S a n c xs) (hk0 : 0 ≤ k) (hk : k ≤ 17592186044416) (hb : n ≤ 17592186044416) :
    Calls Try.prog 20 #[.slice a n c, .int .i64 k] w fun e w' => e = .returned (.int .i64 (k + n)) ∧ OwI w' B S a n c (iota k n) ∧ Only B S w w' :=
  (markIntS_any B a n c xs k w ho.1 hk0 hk hb).mono fun _ _ ⟨he, h1, h2⟩ => ⟨he, ⟨h1, ho.2⟩, Only.of_grown h2 ho.1.lo ho.2⟩

set_option maxHeartbeats 400000 in
theorem heldIntS_any (a : Option Addr) (n c : Nat) (k : Int) (w : World) (hr : RI w a (iota k n)) (hk0 : 0 ≤ k) (hk : k ≤ 17592186044416) (hb : n ≤ 17592186044416) :
    Calls Try.prog 44 #[.slice a n c, .int .i64 k] w fun e w' => e = .returned (.int .i64 (k + n)) ∧ Drew w w' := by
  go_enter Try.func44, Try.ntmps44
  go_wp2
  go_loop [1, 5] (fun kk i => ∃ j : Nat, j ≤ n ∧ i = .int .i64 j ∧ kk = .int .i64 (k + j)) (fun _ i => n - (intOf i).toNat)
  case atStart => exact ⟨0, Nat.zero_le _, rfl, by simp⟩
  case round =>
    obtain ⟨j, hj, rfl, rfl⟩ := hrel
    by_cases hlt : j < n
    · obtain ⟨b, off, rfl, hcell⟩ := hr.at (k := j) (by rw [iota_length]; exact hlt)
      have hc := hcell j _ (iota_at hlt)
      clear hcell
      have hne : ((k + (j : Int)) != (k + (j : Int))) = false := by simp
      go_wp2
      go_round
      case rel => exact ⟨j + 1, by omega, by go_num, by go_num⟩
      case measure => simp [intOf]; omega
    · obtain rfl : j = n := by omega
      go_wp2
      go_ret
      exact ⟨rfl, Drew.refl _⟩
end Go.Proofs.Ytocgcgmlemoekaa

namespace Go.Proofs.Ytocgcgmlemoekaa
open Go.RowKit

theorem wf_bounds {x : Int} (h : (Lit.int .i64 x).wf = true) : -9223372036854775808 ≤ x ∧ x ≤ 9223372036854775807 := by
  simp [Lit.wf, IntKind.min, IntKind.max, IntKind.signed, IntKind.bits] at h
  omega
abbrev sz_I (xs : List Int) : Nat := xs.length
def mk_I (xs : List Int) (k : Int) : List Int := iota k xs.length
theorem conv_I (a : Option Addr) (n c : Nat) (xs : List Int) (w : World) (hr : RI w a xs) (hn : xs.length = n) (hb : n ≤ 17592186044416) :
    Calls Try.prog 16 #[.slice a n c] w fun e w' => ∃ a' c', e = .returned (.slice a' n c') ∧ OwI w' w.heap.size w'.heap.size a' n c' xs ∧ Below w.heap.size w w' :=
  (toIntS_any a n c xs w hr hn hb).mono fun _ _ ⟨a', c', he, ho, hb⟩ => ⟨a', c', he, OwI.of ho, hb⟩
theorem eq_I (a b : Option Addr) (n c m d : Nat) (xs ys : List Int) (w : World) (hr : RI w a xs) (hs : RI w b ys) (hn : xs.length = n) (hm : ys.length = m) (hb : n ≤ 17592186044416) :
    Calls Try.prog 19 #[.slice a n c, .slice b m d] w fun e w' => e = .returned (.bool (decide (xs = ys))) ∧ Drew w w' := eqIntS_any a b n c m d xs ys w hr hs hn hm hb
theorem mark_I (B S : Nat) (a : Option Addr) (n c : Nat) (xs : List Int) (k : Int) (w : World) {Z : Nat} (ho : OwI w B S a n c xs) (hk0 : 0 ≤ k) (hk : k ≤ 4398046511104) (hb : Z ≤ 1099511627776) (hZ : sz_I xs = Z) :
    Calls Try.prog 20 #[.slice a n c, .int .i64 k] w fun e w' => e = .returned (.int .i64 (k + Z)) ∧ OwI w' B S a n c (mk_I xs k) ∧ Only B S w w' := by
  obtain rfl : n = Z := ho.len.symm.trans hZ
  have hl := ho.len
  have h := markI_any B S a n c xs k w ho hk0 (by omega) (by omega)
  unfold mk_I
  rw [hl]
  exact h
theorem held_I {B S : Nat} (a : Option Addr) (n c : Nat) (xs : List Int) (k : Int) (w : World) {Z : Nat} (ho : OwI w B S a n c (mk_I xs k)) (hk0 : 0 ≤ k) (hk : k ≤ 4398046511104) (hb : Z ≤ 1099511627776) (hZ : sz_I xs = Z) :
    Calls Try.prog 44 #[.slice a n c, .int .i64 k] w fun e w' => e = .returned (.int .i64 (k + Z)) ∧ Drew w w' := by
  have hl := ho.len
  simp only [mk_I, iota_length] at hl
  obtain rfl : n = Z := hl.symm.trans hZ
  have h := ho.rd
  unfold mk_I at h
  rw [hl] at h
  exact heldIntS_any a n c k w h hk0 (by omega) (by omega)
end Go.Proofs.Ytocgcgmlemoekaa

namespace Go.Proofs.Ytocgcgmlemoekaa
open Go.RowKit

theorem Try.info22 : (Try.prog.info? 22).map (fun i => (i.zero, i.size, i.bytes)) = some (some (.slice none 0 0), 1, 24) := by kernel_rfl

/-- the slice at address a reads as xss -/
def RII (w : World) (a : Option Addr) (xss : List (List Int)) : Prop :=
  xss = [] ∨ ∃ b off, a = some ⟨b, off, none⟩ ∧ ∀ k xs, xss[k]? = some xs → ∃ a' c', w.cell? ⟨b, off + k, none⟩ = some (.slice a' xs.length c') ∧ RI w a' xs
theorem RII.at {w : World} {a : Option Addr} {xss : List (List Int)} (h : RII w a xss) {k : Nat} (hk : k < xss.length) :
    ∃ b off, a = some ⟨b, off, none⟩ ∧ ∀ k xs, xss[k]? = some xs → ∃ a' c', w.cell? ⟨b, off + k, none⟩ = some (.slice a' xs.length c') ∧ RI w a' xs := by
  rcases h with rfl | h
  · simp at hk
  · exact h
theorem RII.below {w w' : World} {a : Option Addr} {xss : List (List Int)} (h : RII w a xss) (hb : Below w.heap.size w w') : RII w' a xss := by
  rcases h with h | ⟨b, off, ha, hc⟩
  · exact .inl h
  · exact .inr ⟨b, off, ha, fun k xs hx => by
      obtain ⟨a', c', h1, h2⟩ := hc k xs hx
      exact ⟨a', c', by rw [hb.cell (World.block_lt_of_cell? w _ h1)]; exact h1, h2.below hb⟩⟩
theorem RII.drew {w w' : World} {a : Option Addr} {xss : List (List Int)} (h : RII w a xss) (d : Drew w w') : RII w' a xss := h.below (d.below _)

/-- a row of slices: each holds its integers in a block of its own, from block B on and below S -/
structure Inner (w : World) (B S : Nat) (vs : List Value) (xss : List (List Int)) : Prop where
  len : vs.length = xss.length
  each : ∀ (k : Nat) (xs : List Int), xss[k]? = some xs → ∃ (a : Option Addr) (c : Nat), vs[k]? = some (Value.slice a xs.length c) ∧ OwI w B S a xs.length c xs
  apart : ∀ (i j : Nat) (u v : Value) (g : Nat), vs[i]? = some u → vs[j]? = some v → u.ownBlock = some g → v.ownBlock = some g → i = j
/-- the slice is a row of the call's own and so are its rows -/
def IIO (w : World) (B S : Nat) (a : Option Addr) (n c : Nat) (xss : List (List Int)) : Prop :=
  ∃ vs, w.ownsRow B 22 1 (.slice a n c) n vs ∧ (∀ k, (Value.slice a n c).ownBlock = some k → k < S) ∧ Inner w B S vs xss
theorem some_of {α : Type} {xs : List α} {k : Nat} (hk : k < xs.length) : ∃ x, xs[k]? = some x := ⟨xs[k], List.getElem?_eq_getElem hk⟩
theorem lt_of_some {α : Type} {xs : List α} {k : Nat} {x : α} (h : xs[k]? = some x) : k < xs.length := (List.getElem?_eq_some_iff.1 h).1
theorem IIO.len {w : World} {B S : Nat} {a : Option Addr} {n c : Nat} {xss : List (List Int)} (h : IIO w B S a n c xss) : xss.length = n := by
  obtain ⟨vs, h1, _, h3⟩ := h
  rw [← h3.len]; have := h1.1; omega
/-- a row's cells, its address known -/
theorem ownsRow_shape {w : World} {B e n : Nat} {a : Option Addr} {c : Nat} {vs : List Value} (h : w.ownsRow B e 1 (.slice a n c) n vs) :
    (n = 0 ∧ a = none ∧ c = 0 ∧ vs = []) ∨ ∃ g, a = some ⟨g, 0, none⟩ ∧ B ≤ g ∧ g < w.heap.size ∧ (∀ k v, vs[k]? = some v → w.cell? ⟨g, k, none⟩ = some v) ∧ (∃ cur, w.heap[g]? = some (.cells cur e (0, 0))) := by
  have h' := h
  rcases h.2 with ⟨hv, h2⟩ | ⟨g, cap, cur, hv, hb, hh, _⟩
  · simp only [Value.slice.injEq] at hv
    have hl := h.1
    rw [h2] at hl
    exact .inl ⟨h2, hv.1, hv.2.2, List.eq_nil_of_length_eq_zero (by simpa using hl)⟩
  · simp only [Value.slice.injEq] at hv
    obtain ⟨rfl, _, rfl⟩ := hv
    refine .inr ⟨g, rfl, hb, (Array.getElem?_eq_some_iff.1 hh).1, fun k v hk => ?_, cur, hh⟩
    have hl := lt_of_some hk
    have := h'.1
    rw [h'.cellAt k (by omega)]
    exact hk
theorem IIO.rd {w : World} {B S : Nat} {a : Option Addr} {n c : Nat} {xss : List (List Int)} (h : IIO w B S a n c xss) : RII w a xss := by
  obtain ⟨vs, h1, _, h3⟩ := h
  rcases ownsRow_shape h1 with ⟨_, _, _, hv⟩ | ⟨g, rfl, _, _, hc, _⟩
  · left
    have := h3.len
    rw [hv] at this
    exact List.eq_nil_of_length_eq_zero this.symm
  · refine .inr ⟨g, 0, rfl, fun k xs hx => ?_⟩
    obtain ⟨a', c', hk, ho⟩ := h3.each k xs hx
    exact ⟨a', c', by rw [Nat.zero_add]; exact hc k _ hk, ho.rd⟩
theorem ownsRow_only {w w' : World} {B S B' S' e n : Nat} {v : Value} {vs : List Value} (h : w.ownsRow B e 1 v n vs) (hh : ∀ k, v.ownBlock = some k → k < S) (ho : Only B' S' w w') (hd : S ≤ B' ∨ S' ≤ B) : w'.ownsRow B e 1 v n vs := by
  refine ⟨h.1, ?_⟩
  have hl := h.lt
  rcases h.2 with h2 | ⟨g, cap, cur, hv, hg, hb, r⟩
  · exact .inl h2
  · subst hv
    have h1 := hh g rfl
    have h3 := (hl g rfl).1
    exact .inr ⟨g, cap, cur, rfl, hg, by rw [ho.block g (Array.getElem?_eq_some_iff.1 hb).1 (by omega)]; exact hb, r⟩
theorem Inner.only {w w' : World} {B S B' S' : Nat} {vs : List Value} {xss : List (List Int)} (h : Inner w B S vs xss) (ho : Only B' S' w w') (hd : S ≤ B' ∨ S' ≤ B) : Inner w' B S vs xss :=
  ⟨h.len, fun k xs hx => by obtain ⟨a, c, h1, h2⟩ := h.each k xs hx; exact ⟨a, c, h1, h2.only ho hd⟩, h.apart⟩
theorem IIO.only {w w' : World} {B S B' S' : Nat} {a : Option Addr} {n c : Nat} {xss : List (List Int)} (h : IIO w B S a n c xss) (ho : Only B' S' w w') (hd : S ≤ B' ∨ S' ≤ B) : IIO w' B S a n c xss := by
  obtain ⟨vs, h1, h2, h3⟩ := h
  exact ⟨vs, ownsRow_only h1 h2 ho hd, h2, h3.only ho hd⟩
theorem IIO.below {w w' : World} {B S : Nat} {a : Option Addr} {n c : Nat} {xss : List (List Int)} (h : IIO w B S a n c xss) (hb : Below w.heap.size w w') : IIO w' B S a n c xss := h.only (Only.of_below hb) (.inr (Nat.zero_le _))

/-! compared -/
theorem eqs_of_all {xs ys : List (List Int)} (hl : xs.length = ys.length) (h : ∀ j, j < xs.length → xs[j]? = ys[j]?) : decide (xs = ys) = true := by
  rw [decide_eq_true_iff]
  apply List.ext_getElem?
  intro j
  rcases Nat.lt_or_ge j xs.length with h1 | h1
  · exact h j h1
  · rw [List.getElem?_eq_none h1, List.getElem?_eq_none (by omega)]
theorem nes_of_at {xs ys : List (List Int)} {k : Nat} {x y : List Int} (hx : xs[k]? = some x) (hy : ys[k]? = some y) (h : x ≠ y) : decide (xs = ys) = false := by
  rw [decide_eq_false_iff_not]
  rintro rfl
  rw [hx] at hy
  exact h (by simpa using hy)

/-- a row's length is no more than so -/
def ShortII (xss : List (List Int)) : Prop := ∀ xs ∈ xss, xs.length ≤ 1048576

set_option maxHeartbeats 800000 in
theorem eqIntSS_any (a b : Option Addr) (n c m d : Nat) (xs ys : List (List Int)) (w : World) (hr : RII w a xs) (hs : RII w b ys) (hn : xs.length = n) (hm : ys.length = m) (hb : n ≤ 17592186044416) (hsh : ShortII xs) :
    Calls Try.prog 42 #[.slice a n c, .slice b m d] w fun e w' => e = .returned (.bool (decide (xs = ys))) ∧ Drew w w' := by
  have Hn := Lib.hid hn; clear hn
  have Hm := Lib.hid hm; clear hm
  have HSh := Lib.hid hsh; clear hsh
  by_cases hnm : n = m
  · subst hnm
    go_enter Try.func42, Try.ntmps42
    go_wp2
    go_loopw [5] (fun i wr => ∃ k : Nat, k ≤ n ∧ i = .int .i64 k ∧ Hid (∀ j, j < k → xs[j]? = ys[j]?) ∧ Drew w wr) (fun i _ => n - (intOf i).toNat)
    case atStart => exact ⟨0, Nat.zero_le _, rfl, by intro j hj; omega, Drew.refl _⟩
    case round =>
      obtain ⟨k, hk, rfl, HA, hd⟩ := hrel
      by_cases hlt : k < n
      · obtain ⟨b, off, rfl, hcell⟩ := (hr.drew hd).at (k := k) (by rw [Hn.out]; exact hlt)
        obtain ⟨b2, off2, rfl, hcell2⟩ := (hs.drew hd).at (k := k) (by rw [Hm.out]; exact hlt)
        obtain ⟨x, hx⟩ := some_of (show k < xs.length by rw [Hn.out]; exact hlt)
        obtain ⟨y, hy⟩ := some_of (show k < ys.length by rw [Hm.out]; exact hlt)
        obtain ⟨a1, c1, hc, hr1⟩ := hcell k x hx
        obtain ⟨a2, c2, hc2, hr2⟩ := hcell2 k y hy
        have hxl := HSh.out x (List.mem_of_getElem? hx)
        have Hx := Lib.hid hx; clear hx
        have Hy := Lib.hid hy; clear hy
        clear hcell hcell2
        have hltI : (k : Int) < (n : Int) := by omega
        obtain ⟨lx, hlx⟩ : ∃ l, x.length = l := ⟨_, rfl⟩
        obtain ⟨ly, hly⟩ : ∃ l, y.length = l := ⟨_, rfl⟩
        rw [hlx] at hc hxl
        rw [hly] at hc2
        have Hlx := Lib.hid hlx; clear hlx
        have Hly := Lib.hid hly; clear hly
        by_cases h1 : x = y
        · go_wp2
          go_quiet ((go_at_call 19; exact quiet (is (eqIntS_any _ _ _ _ _ _ x y _ (hr1.drew (Drew.drewN _ _)) (hr2.drew (Drew.drewN _ _)) Hlx.out Hly.out (by omega)) (by simp [h1] : _ = true))))
          go_wp2
          go_roundw
          case rel => exact ⟨k + 1, by omega, by go_num, by
                intro j hj
                rcases Nat.lt_or_ge j k with h | h
                · exact HA.out j h
                · obtain rfl : j = k := by omega
                  rw [Hx.out, Hy.out, h1], hd.trans (Drew.drewN _ _)⟩
          case measure => simp [intOf]; omega
        · have H1 := Lib.hid h1; clear h1
          go_wp2
          go_quiet ((go_at_call 19; exact quiet (is (eqIntS_any _ _ _ _ _ _ x y _ (hr1.drew (Drew.drewN _ _)) (hr2.drew (Drew.drewN _ _)) Hlx.out Hly.out (by omega)) (by simp [H1.out] : _ = false))))
          go_wp2
          go_ret
          exact ⟨ret_bool (nes_of_at Hx.out Hy.out H1.out).symm, hd.trans (Drew.drewN _ _)⟩
      · go_wp2
        go_ret
        exact ⟨ret_bool (eqs_of_all (Hn.out.trans Hm.out.symm) (by intro j hj; exact HA.out j (by rw [Hn.out] at hj; omega))).symm, hd⟩
  · go_enter Try.func42, Try.ntmps42
    have hne : ((n : Int) != (m : Int)) = true := by rw [bne_iff_ne]; omega
    go_wp2
    go_ret
    exact ⟨ret_bool (by symm; rw [decide_eq_false_iff_not]; rintro rfl; exact hnm (Hn.out.symm.trans Hm.out)), Drew.refl _⟩
end Go.Proofs.Ytocgcgmlemoekaa

namespace Go.Proofs.Ytocgcgmlemoekaa
open Go.RowKit

def mk_II : List (List Int) → Int → List (List Int)
  | [], _ => []
  | xs :: r, k => mk_I xs k :: mk_II r (k + (xs.length : Int))
def sz_II : List (List Int) → Nat
  | [] => 0
  | xs :: r => xs.length + sz_II r
theorem sz_II_append (xs ys : List (List Int)) : sz_II (xs ++ ys) = sz_II xs + sz_II ys := by
  induction xs with
  | nil => simp [sz_II]
  | cons x xs ih => rw [List.cons_append, sz_II, sz_II, ih]; omega
theorem mk_II_length (xs : List (List Int)) (k : Int) : (mk_II xs k).length = xs.length := by
  induction xs generalizing k with
  | nil => rfl
  | cons x xs ih => rw [mk_II, List.length_cons, List.length_cons, ih]
theorem mk_II_append (xs ys : List (List Int)) (k : Int) : mk_II (xs ++ ys) k = mk_II xs k ++ mk_II ys (k + (sz_II xs : Int)) := by
  induction xs generalizing k with
  | nil => simp [sz_II, mk_II]
  | cons x xs ih =>
    rw [List.cons_append, mk_II, mk_II, ih, sz_II, List.cons_append]
    congr 3
    simp; omega
theorem take_at {α : Type} {xs : List α} {i : Nat} {x : α} (h : xs[i]? = some x) : xs.take (i + 1) = xs.take i ++ [x] := by
  obtain ⟨hi, rfl⟩ := List.getElem?_eq_some_iff.1 h
  exact List.take_succ_eq_append_getElem hi
theorem drop_at {α : Type} {xs : List α} {i : Nat} {x : α} (h : xs[i]? = some x) : xs.drop i = x :: xs.drop (i + 1) := by
  obtain ⟨hi, rfl⟩ := List.getElem?_eq_some_iff.1 h
  exact List.drop_eq_getElem_cons hi
theorem sz_II_take {xs : List (List Int)} {i : Nat} {x : List Int} (h : xs[i]? = some x) : sz_II (xs.take (i + 1)) = sz_II (xs.take i) + x.length := by
  rw [take_at h, sz_II_append]; rfl
theorem sz_II_le (xs : List (List Int)) (i : Nat) : sz_II (xs.take i) ≤ sz_II xs := by
  conv => rhs; rw [← List.take_append_drop i xs, sz_II_append]
  omega
theorem sz_II_each {xs : List (List Int)} {x : List Int} (h : x ∈ xs) : x.length ≤ sz_II xs := by
  induction xs with
  | nil => cases h
  | cons y ys ih =>
    rw [sz_II]
    rcases List.mem_cons.1 h with rfl | h
    · omega
    · have := ih h; omega
def mark_part (xs : List (List Int)) (k : Int) (i : Nat) : List (List Int) := mk_II (xs.take i) k ++ xs.drop i
theorem mark_part_zero (xs : List (List Int)) (k : Int) : mark_part xs k 0 = xs := by simp [mark_part, mk_II]
theorem mark_part_all {xs : List (List Int)} {n : Nat} (h : xs.length = n) (k : Int) : mark_part xs k n = mk_II xs k := by simp [mark_part, ← h]
theorem mark_part_at {xs : List (List Int)} {i : Nat} {x : List Int} (h : xs[i]? = some x) (k : Int) : (mark_part xs k i)[i]? = some x := by
  have hi := lt_of_some h
  have hl : (mk_II (xs.take i) k).length = i := by rw [mk_II_length, List.length_take]; omega
  unfold mark_part
  rw [List.getElem?_append_right (by omega), hl, Nat.sub_self, List.getElem?_drop, Nat.add_zero]
  exact h
theorem mark_part_succ {xs : List (List Int)} {i : Nat} {x : List Int} (h : xs[i]? = some x) (k : Int) : (mark_part xs k i).set i (mk_I x (k + (sz_II (xs.take i) : Int))) = mark_part xs k (i + 1) := by
  have hi := lt_of_some h
  have hl : (mk_II (xs.take i) k).length = i := by rw [mk_II_length, List.length_take]; omega
  unfold mark_part
  rw [drop_at h, List.set_append_right _ _ (by omega), hl, Nat.sub_self, take_at h, mk_II_append]
  simp [mk_II]
theorem mk_II_at {xs : List (List Int)} {i : Nat} {x : List Int} (h : xs[i]? = some x) (k : Int) : (mk_II xs k)[i]? = some (mk_I x (k + (sz_II (xs.take i) : Int))) := by
  have hi := lt_of_some h
  have hl : (mk_II (xs.take i) k).length = i := by rw [mk_II_length, List.length_take]; omega
  conv => lhs; rw [← List.take_append_drop i xs, mk_II_append, drop_at h]
  rw [List.getElem?_append_right (by omega), hl, Nat.sub_self, mk_II]
  rfl
theorem mk_I_length (xs : List Int) (k : Int) : (mk_I xs k).length = xs.length := by simp [mk_I, iota_length]

/-- a row of integers lies in another block than a row of slices -/
theorem ne_block {w : World} {B S B' n l : Nat} {a a' : Option Addr} {c c' : Nat} {vs : List Value} {xs : List Int} (h : w.ownsRow B' 22 1 (.slice a n c) n vs) (hi : OwI w B S a' l c' xs) :
    ∀ k, (Value.slice a n c).ownBlock = some k → (Value.slice a' l c').ownBlock ≠ some k := by
  intro k hk hk'
  rcases ownsRow_shape h with ⟨_, rfl, _⟩ | ⟨g, rfl, _, _, _, cur, hg⟩
  · cases hk
  · rcases ownsRow_shape hi.1.own with ⟨_, rfl, _⟩ | ⟨g', rfl, _, _, _, cur', hg'⟩
    · cases hk'
    · have e1 : g = k := by simpa [Value.ownBlock] using hk
      have e2 : g' = k := by simpa [Value.ownBlock] using hk'
      subst e1 e2
      rw [hg] at hg'
      simp at hg'
theorem grown_keeps {w w' : World} {B e n : Nat} {v : Value} {vs : List Value} {row : Option Nat} (h : w.ownsRow B e 1 v n vs) (hg : w.grownBy w' row) (hne : ∀ k, v.ownBlock = some k → row ≠ some k) : w'.ownsRow B e 1 v n vs := by
  refine h.kept hg ?_
  cases hv : v.ownBlock with
  | none => exact .inl rfl
  | some k => exact .inr (fun e => hne k hv e.symm)
theorem IIO.open {w : World} {B S : Nat} {a : Option Addr} {n c : Nat} {yss : List (List Int)} (h : IIO w B S a n c yss) {i : Nat} {xs : List Int} (hi : yss[i]? = some xs) :
    ∃ g a' c', a = some ⟨g, 0, none⟩ ∧ w.cell? ⟨g, i, none⟩ = some (.slice a' xs.length c') ∧ OwI w B S a' xs.length c' xs ∧
      ∀ w' ys, ys.length = xs.length → OS w' B a' xs.length c' ys → w.grownBy w' (Value.slice a' xs.length c').ownBlock → IIO w' B S a n c (yss.set i ys) := by
  obtain ⟨vs, h1, h2, h3⟩ := h
  obtain ⟨a', c', hv, ho⟩ := h3.each i xs hi
  rcases ownsRow_shape h1 with ⟨_, _, _, hv0⟩ | ⟨g, rfl, hB, hlt, hc, _⟩
  · rw [hv0] at hv; cases hv
  · refine ⟨g, a', c', rfl, hc i _ hv, ho, fun w' ys hl hos hg => ?_⟩
    refine ⟨vs, grown_keeps h1 hg (fun k hk e => ne_block h1 ho k hk e), h2, ?_⟩
    refine ⟨by rw [List.length_set]; exact h3.len, fun k zs hz => ?_, h3.apart⟩
    rw [List.getElem?_set] at hz
    by_cases hk : i = k
    · subst hk
      rw [if_pos rfl, if_pos (lt_of_some hi)] at hz
      obtain rfl := Option.some.inj hz
      exact ⟨a', c', by rw [hl]; exact hv, by rw [hl]; exact ⟨hos, ho.2⟩⟩
    · rw [if_neg hk] at hz
      obtain ⟨a2, c2, hv2, ho2⟩ := h3.each k zs hz
      refine ⟨a2, c2, hv2, ho2.1.kept hg (fun q hq e => hk (h3.apart i k _ _ q hv hv2 e hq)), ho2.2⟩

set_option maxHeartbeats 800000 in
theorem markIntSS_any (B S : Nat) (a : Option Addr) (n c : Nat) (xs : List (List Int)) (k : Int) (w : World) {Z : Nat} (ho : IIO w B S a n c xs) (hk0 : 0 ≤ k) (hk : k ≤ 4398046511104) (hb : Z ≤ 1099511627776) (hZ : sz_II xs = Z) (hbn : n ≤ 17592186044416) :
    Calls Try.prog 43 #[.slice a n c, .int .i64 k] w fun e w' => e = .returned (.int .i64 (k + Z)) ∧ IIO w' B S a n c (mk_II xs k) ∧ Only B S w w' := by
  have hn := ho.len
  have Hn := Lib.hid hn; clear hn
  have HZ := Lib.hid hZ; clear hZ
  go_enter Try.func43, Try.ntmps43
  go_wp2
  go_loopw [1, 5] (fun kk i wr => ∃ j : Nat, j ≤ n ∧ i = .int .i64 j ∧ kk = .int .i64 (k + (sz_II (xs.take j) : Int)) ∧ IIO wr B S a n c (mark_part xs k j) ∧ Only B S w wr) (fun _ i _ => n - (intOf i).toNat)
  case atStart => exact ⟨0, Nat.zero_le _, rfl, by simp [sz_II], by rw [mark_part_zero]; exact ho, Only.refl _ _ _⟩
  case round =>
    obtain ⟨j, hj, rfl, rfl, hr, hg⟩ := hrel
    by_cases hlt : j < n
    · obtain ⟨x, hx⟩ := some_of (show j < xs.length by rw [Hn.out]; exact hlt)
      obtain ⟨g, a', c', rfl, hc, hio, hset⟩ := hr.open (mark_part_at hx k)
      have hs1 := sz_II_take hx
      have hs2 := sz_II_le xs j
      have hs3 := sz_II_le xs (j + 1)
      have hst := mark_part_succ hx k
      rw [HZ.out] at hs2 hs3
      obtain ⟨s, hs⟩ : ∃ s, sz_II (xs.take j) = s := ⟨_, rfl⟩
      obtain ⟨l, hl⟩ : ∃ l, x.length = l := ⟨_, rfl⟩
      rw [hs] at hs1 hs2 hst ⊢
      rw [hl] at hs1 hc hio hset
      have hsl : s + l ≤ 1099511627776 := by omega
      have Hs1 := Lib.hid hs1; clear hs1 hs3
      have Hs := Lib.hid hs; clear hs
      have Hl := Lib.hid hl; clear hl
      have Hst := Lib.hid hst; clear hst hx
      have Hset := Lib.hid hset; clear hset
      go_wp2_with fail
      refine (markIntS_any _ _ _ _ _ _ _ hio.1 (by omega) (by omega) (by omega)).mono ?_
      rintro e w1 ⟨rfl, hos, hgr⟩
      have hio' : IIO w1 B S (some ⟨g, 0, none⟩) n c (mark_part xs k (j + 1)) := by
        have := Hset.out w1 (mk_I x (k + (s : Int))) (by rw [mk_I_length, Hl.out]) (by unfold mk_I; rw [Hl.out]; exact hos) hgr
        rw [Hst.out] at this
        exact this
      have ho1 : Only B S w w1 := hg.trans (Only.of_grown hgr hio.1.lo hio.2)
      clear hos hgr hio hr hg
      go_wp2
      go_roundw
      case rel => exact ⟨j + 1, by omega, by go_num, by rw [Hs1.out]; go_num, hio', ho1⟩
      case measure => simp [intOf]; omega
    · obtain rfl : j = n := by omega
      go_wp2
      go_ret
      rw [mark_part_all Hn.out] at hr
      exact ⟨ret_int (by rw [List.take_of_length_le (by rw [Hn.out]; omega), HZ.out]), hr, hg⟩

set_option maxHeartbeats 800000 in
theorem heldIntSS_any (a : Option Addr) (n c : Nat) (xs : List (List Int)) (k : Int) (w : World) {Z : Nat} (hr : RII w a (mk_II xs k)) (hn : xs.length = n) (hk0 : 0 ≤ k) (hk : k ≤ 4398046511104) (hb : Z ≤ 1099511627776) (hZ : sz_II xs = Z) (hbn : n ≤ 17592186044416) :
    Calls Try.prog 45 #[.slice a n c, .int .i64 k] w fun e w' => e = .returned (.int .i64 (k + Z)) ∧ Drew w w' := by
  have Hn := Lib.hid hn; clear hn
  have HZ := Lib.hid hZ; clear hZ
  go_enter Try.func45, Try.ntmps45
  go_wp2
  go_loopw [1, 5] (fun kk i wr => ∃ j : Nat, j ≤ n ∧ i = .int .i64 j ∧ kk = .int .i64 (k + (sz_II (xs.take j) : Int)) ∧ Drew w wr) (fun _ i _ => n - (intOf i).toNat)
  case atStart => exact ⟨0, Nat.zero_le _, rfl, by simp [sz_II], Drew.refl _⟩
  case round =>
    obtain ⟨j, hj, rfl, rfl, hd⟩ := hrel
    by_cases hlt : j < n
    · obtain ⟨x, hx⟩ := some_of (show j < xs.length by rw [Hn.out]; exact hlt)
      obtain ⟨b, off, rfl, hcell⟩ := (hr.drew hd).at (k := j) (by rw [mk_II_length, Hn.out]; exact hlt)
      obtain ⟨a', c', hc, hri⟩ := hcell j _ (mk_II_at hx k)
      rw [mk_I_length] at hc
      have hs1 := sz_II_take hx
      have hs2 := sz_II_le xs j
      have hs3 := sz_II_le xs (j + 1)
      rw [HZ.out] at hs2 hs3
      obtain ⟨s, hs⟩ : ∃ s, sz_II (xs.take j) = s := ⟨_, rfl⟩
      obtain ⟨l, hl⟩ : ∃ l, x.length = l := ⟨_, rfl⟩
      unfold mk_I at hri
      rw [hs] at hs1 hs2 hri ⊢
      rw [hl] at hs1 hc hri
      have hsl : s + l ≤ 1099511627776 := by omega
      have Hs1 := Lib.hid hs1; clear hs1 hs3
      have Hs := Lib.hid hs; clear hs
      have Hl := Lib.hid hl; clear hl hx hcell
      go_wp2_with fail
      refine (heldIntS_any _ _ _ _ _ hri (by omega) (by omega) (by omega)).mono ?_
      rintro e w1 ⟨rfl, hd1⟩
      have hd' := hd.trans hd1
      clear hc hri hd hd1
      go_wp2
      go_roundw
      case rel => exact ⟨j + 1, by omega, by go_num, by rw [Hs1.out]; go_num, hd'⟩
      case measure => simp [intOf]; omega
    · obtain rfl : j = n := by omega
      go_wp2
      go_ret
      exact ⟨ret_int (by rw [List.take_of_length_le (by rw [Hn.out]; omega), HZ.out]), hd⟩

theorem eq_II (a b : Option Addr) (n c m d : Nat) (xs ys : List (List Int)) (w : World) (hr : RII w a xs) (hs : RII w b ys) (hn : xs.length = n) (hm : ys.length = m) (hb : n ≤ 17592186044416) (hsh : ShortII xs) :
    Calls Try.prog 42 #[.slice a n c, .slice b m d] w fun e w' => e = .returned (.bool (decide (xs = ys))) ∧ Drew w w' := eqIntSS_any a b n c m d xs ys w hr hs hn hm hb hsh
theorem mark_II (B S : Nat) (a : Option Addr) (n c : Nat) (xs : List (List Int)) (k : Int) (w : World) {Z : Nat} (ho : IIO w B S a n c xs) (hk0 : 0 ≤ k) (hk : k ≤ 4398046511104) (hb : Z ≤ 1099511627776) (hZ : sz_II xs = Z) (hbn : n ≤ 17592186044416) :
    Calls Try.prog 43 #[.slice a n c, .int .i64 k] w fun e w' => e = .returned (.int .i64 (k + Z)) ∧ IIO w' B S a n c (mk_II xs k) ∧ Only B S w w' := markIntSS_any B S a n c xs k w ho hk0 hk hb hZ hbn
theorem held_II {B S : Nat} (a : Option Addr) (n c : Nat) (xs : List (List Int)) (k : Int) (w : World) {Z : Nat} (ho : IIO w B S a n c (mk_II xs k)) (hk0 : 0 ≤ k) (hk : k ≤ 4398046511104) (hb : Z ≤ 1099511627776) (hZ : sz_II xs = Z) (hbn : n ≤ 17592186044416) :
    Calls Try.prog 45 #[.slice a n c, .int .i64 k] w fun e w' => e = .returned (.int .i64 (k + Z)) ∧ Drew w w' :=
  heldIntSS_any a n c xs k w ho.rd (by rw [← ho.len, mk_II_length]) hk0 hk hb hZ hbn
end Go.Proofs.Ytocgcgmlemoekaa

namespace Go.Proofs.Ytocgcgmlemoekaa
open Go.RowKit

/-- a slice that was appended to: writes went to its own block or to new ones, and so does the slice that came of it lie -/
structure Grows (w w' : World) (v v' : Value) : Prop where
  grown : w.grownBy w' v.ownBlock
  home : v'.ownBlock = v.ownBlock ∨ ∀ k, v'.ownBlock = some k → w.heap.size ≤ k
theorem Grows.refl (w : World) (v : Value) : Grows w w v v := ⟨⟨rfl, rfl, rfl, Nat.le_refl _, fun _ _ _ => rfl⟩, .inl rfl⟩
theorem Grows.trans {w w1 w2 : World} {v v1 v2 : Value} (h : Grows w w1 v v1) (k : Grows w1 w2 v1 v2) : Grows w w2 v v2 := by
  refine ⟨⟨k.grown.os.trans h.grown.os, k.grown.tape.trans h.grown.tape, k.grown.output.trans h.grown.output, Nat.le_trans h.grown.size k.grown.size, fun i hi hn => ?_⟩, ?_⟩
  · refine (k.grown.block i (Nat.lt_of_lt_of_le hi h.grown.size) ?_).trans (h.grown.block i hi hn)
    rcases h.home with e | e
    · rw [e]; exact hn
    · intro e1; have := e i e1.symm; omega
  · rcases k.home with e | e
    · rw [e]; exact h.home
    · right; intro i hi; exact Nat.le_trans h.grown.size (e i hi)
theorem Grows.of_below {w w1 : World} (v : Value) (h : Below w.heap.size w w1) : Grows w w1 v v := ⟨⟨h.os, h.tape, h.output, h.size, fun k hk _ => h.block k hk⟩, .inl rfl⟩
theorem Grows.below {A : Nat} {wS w w' : World} {v v' : Value} (h : Grows w w' v v') (hb : Below A wS w) (hA : A ≤ w.heap.size) (hv : ∀ k, v.ownBlock = some k → A ≤ k) : Below A wS w' := below_grown hb h.grown hA hv
theorem Grows.only {w w' : World} {v v' : Value} {B S : Nat} (h : Grows w w' v v') (hl : ∀ k, v.ownBlock = some k → B ≤ k) (hh : ∀ k, v.ownBlock = some k → k < S) : Only B S w w' := Only.of_grown h.grown hl hh

theorem ownsRow_base {w : World} {B B' e n : Nat} {v : Value} {vs : List Value} (h : w.ownsRow B e 1 v n vs) (hB : B' ≤ B) : w.ownsRow B' e 1 v n vs := by
  refine ⟨h.1, ?_⟩
  rcases h.2 with h2 | ⟨g, cap, cur, hv, hg, r⟩
  · exact .inl h2
  · exact .inr ⟨g, cap, cur, hv, Nat.le_trans hB hg, r⟩

section
variable {P : Program} (w : World)
theorem run_app (B : Nat) (t ty e : TypeId) (i : TypeInfo) (z : Value) (bytes : Nat) (ht : P.underlying t = some (.slice e)) (hi : P.info? e = some i) (hz : i.zero = some z)
    (hsize : i.size = 1) (hby : i.bytes = bytes) (hzs : z.cells.size = 1)
    (v : Value) (n : Nat) (xs : List Value) (hown : w.ownsRow B e 1 v n xs)
    (a : Option Addr) (m c : Nat) (news : List Value) (hl : news.length = m) (hna : a = none → m = 0) (hnews : ∀ ad, a = some ad → ∀ j u, news[j]? = some u → w.cell? (ad.add j) = some u) (h1 : ∀ u ∈ news, u.oneCell' = true)
    (hn : n + m ≤ 16777216) (hb2 : bytes ≤ 1048576) (hbase : B ≤ w.heap.size) :
    ∃ v' w', (Builtin.append_ #[t, t] ty #[v, .slice a m c]).run P w = .ok v' w' ∧ w'.ownsRow B e 1 v' (n + m) (xs ++ news) ∧ Grows w w' v v' := by
  have hbytes : (n + m) * bytes ≤ 140737488355328 := by have := Nat.mul_le_mul hn hb2; omega
  have h63 : n + m ≤ maxLen := by unfold maxLen; omega
  cases a with
  | none =>
    have hm := hna rfl
    subst hm
    have hne : news = [] := List.eq_nil_of_length_eq_zero hl
    subst hne
    refine ⟨v, w, ?_, by simpa using hown, Grows.refl _ _⟩
    rcases hown.2 with ⟨rfl, rfl⟩ | ⟨g, cap, cur, rfl, _, _, hnc, _⟩
    · simp [Builtin.append_, run_underlying ht, sizeOf, typeInfo, hi, Builtin.lenOf, Builtin.firstCells]
    · simp [Builtin.append_, run_underlying ht, sizeOf, typeInfo, hi, Builtin.lenOf, Builtin.firstCells, hnc, storeCells]
  | some ad =>
    have hnw := hnews ad rfl
    have hl' : news.length = m * 1 := by omega
    rcases hown.2 with ⟨rfl, rfl⟩ | ⟨g, cap, cur, rfl, hbg, hg, hnc, hcm, hcs, htake⟩
    · have hx : xs = [] := List.eq_nil_of_length_eq_zero (by simpa using hown.1)
      subst hx
      obtain ⟨v', w', hr, ho, hgr, _⟩ := run_append_own (P := P) w w.heap.size t ty e i z 1 bytes ht hi hz hsize hby hzs (by decide) (.slice none 0 0) 0 [] (World.ownsRow_nil _ _ _ _) ad m c news hl' hnw h1 h63 hbytes (Nat.le_refl _)
      exact ⟨v', w', hr, ownsRow_base ho hbase, hgr, .inr (fun k hk => (ho.lt k hk).1)⟩
    · obtain ⟨v', w', hr, ho, hgr, _⟩ := run_append_own (P := P) w B t ty e i z 1 bytes ht hi hz hsize hby hzs (by decide) (.slice (some ⟨g, 0, none⟩) n cap) n xs hown ad m c news hl' hnw h1 h63 hbytes hbase
      refine ⟨v', w', hr, ho, hgr, ?_⟩
      by_cases hroom : n + m ≤ cap
      · obtain ⟨w2, hr2, _⟩ := run_append_fits (P := P) w B t ty e i 1 ht hi hsize g n cap xs hown ad m c news hl' hnw h1 hroom
        rw [hr] at hr2
        left
        simp only [Result.ok.injEq] at hr2
        rw [hr2.1]; rfl
      · have holds : ∀ j u, xs[j]? = some u → w.cell? ((⟨g, 0, none⟩ : Addr).add j) = some u := hown.cells (g := g) rfl
        have hr2 := run_append_grow (P := P) (ty := ty) w t e i z ht hi hz ⟨g, 0, none⟩ n cap xs (by rw [hsize]; exact hown.1) holds ad m c news (by rw [hsize]; exact hl') hnw (by omega) (by omega) (growslice_fits (by omega) (by rw [hby]; exact hbytes))
        rw [hr] at hr2
        right
        simp only [Result.ok.injEq] at hr2
        rw [hr2.1]
        intro k hk
        simp [Value.ownBlock] at hk
        omega
end
theorem wpList_app {P : Program} (w : World) {ops : Array Oper} {rest : List Oper} {o : Oper} {ac : Act} {Q : Exit → Act → World → Prop} (hgd : o.guard = none) (s x : Operand) (t : TypeId)
    (ho : o.op = .call { callee := .builtin .append, args := #[s, x], argTypes := #[t, t] })
    (B : Nat) (e : TypeId) (i : TypeInfo) (z : Value) (bytes : Nat) (ht : P.underlying t = some (.slice e)) (hi : P.info? e = some i) (hz : i.zero = some z)
    (hsize : i.size = 1) (hby : i.bytes = bytes) (hzs : z.cells.size = 1)
    (v : Value) (n : Nat) (xs : List Value) (hs : ac.eval s = v) (hown : w.ownsRow B e 1 v n xs)
    (a : Option Addr) (m c : Nat) (news : List Value) (hx : ac.eval x = .slice a m c) (hl : news.length = m) (hna : a = none → m = 0) (hnews : ∀ ad, a = some ad → ∀ j u, news[j]? = some u → w.cell? (ad.add j) = some u) (h1 : ∀ u ∈ news, u.oneCell' = true)
    (hn : n + m ≤ 16777216) (hb2 : bytes ≤ 1048576) (hbase : B ≤ w.heap.size)
    (h : ∀ a' c' w', w'.ownsRow B e 1 (.slice a' (n + m) c') (n + m) (xs ++ news) → Grows w w' v (.slice a' (n + m) c') → wpList P ops Q rest (ac.put o.dst (.slice a' (n + m) c')) w') :
    wpList P ops Q (o :: rest) ac w :=
  wpList_plain hgd fun _ hK => by
    obtain ⟨v', w', hr, h2, h3⟩ := run_app (P := P) w B t o.type e i z bytes ht hi hz hsize hby hzs v n xs hown a m c news hl hna hnews h1 hn hb2 hbase
    obtain ⟨a', c', rfl, _⟩ := slice_of h2
    unfold Oper.wp execOp
    simp only [ho, resolve, invoke, builtin, Sem.run_bind, Sem.run_pure, Result.andThen_ok, List.map_toArray, List.map_cons, List.map_nil, hs, hx, hr]
    exact hK _ _ (h a' c' w' h2 h3)

theorem ints_one (xs : List Int) : ∀ u ∈ ints xs, u.oneCell' = true := by
  intro u hu; simp [ints] at hu; obtain ⟨x, _, rfl⟩ := hu; rfl
theorem RI.cells {w : World} {a : Option Addr} {xs : List Int} (h : RI w a xs) : ∀ ad, a = some ad → ∀ j u, (ints xs)[j]? = some u → w.cell? (ad.add j) = some u := by
  intro ad had j u hu
  simp only [ints, List.getElem?_map, Option.map_eq_some_iff] at hu
  obtain ⟨x, hx, rfl⟩ := hu
  obtain ⟨b, off, ha, hc⟩ := h.at (lt_of_some hx)
  rw [had] at ha
  obtain rfl := Option.some.inj ha
  have := hc j x hx
  rw [show (⟨b, off, none⟩ : Addr).add j = ⟨b, off + j, none⟩ from by unfold Addr.add; split <;> simp_all]
  exact this
theorem OwI.mk {w : World} {B : Nat} {a : Option Addr} {n c : Nat} {xs : List Int} (h : w.ownsRow B 3 1 (.slice a n c) n (ints xs)) : OwI w B w.heap.size a n c xs := OwI.of (OS.of h)
theorem OwI.own {w : World} {B S : Nat} {a : Option Addr} {n c : Nat} {xs : List Int} (h : OwI w B S a n c xs) : w.ownsRow B 3 1 (.slice a n c) n (ints xs) := h.1.own

/-- append of one number: 'append(out, x)' -/
theorem wpList_pushI {w : World} {W : World} {x0 : Int} (hW : W = w.alloc (.cells #[.int .i64 x0] 3)) {ops : Array Oper} {rest : List Oper} {o : Oper} {ac : Act} {Q : Exit → Act → World → Prop} (hgd : o.guard = none) (s x : Operand)
    (ho : o.op = .call { callee := .builtin .append, args := #[s, x], argTypes := #[22, 22] })
    {B S : Nat} {a : Option Addr} {n c : Nat} {xs : List Int} (hown : OwI w B S a n c xs) (hs : ac.eval s = .slice a n c)
    (hx : ac.eval x = .slice (some ⟨w.heap.size, 0, none⟩) 1 1) (hn : n + 1 ≤ 16777216) (hbase : B ≤ w.heap.size)
    (h : ∀ a' c' w', OwI w' B w'.heap.size a' (n + 1) c' (xs ++ [x0]) → Grows w w' (.slice a n c) (.slice a' (n + 1) c') → wpList Try.prog ops Q rest (ac.put o.dst (.slice a' (n + 1) c')) w') :
    wpList Try.prog ops Q (o :: rest) ac W := by
  subst hW
  obtain ⟨i0, hi, hz0, hz1, hz2⟩ := info_parts Try.info3
  refine wpList_app _ hgd s x 22 ho B 3 i0 (.int .i64 0) 8 Try.underlying22 hi hz0 hz1 hz2 rfl _ n (ints xs) hs (hown.own.alloc _) _ 1 1 [.int .i64 x0] hx rfl (by simp) ?_ ?_ hn (by omega) (by simp; omega) ?_
  · intro ad had j u hu
    obtain rfl := Option.some.inj had
    match j, hu with
    | 0, hu => simp at hu; subst hu; simp [Addr.add]
  · intro u hu; simp at hu; subst hu; rfl
  · intro a' c' w' h2 h3
    refine h a' c' w' (OwI.mk (by simpa [ints] using h2)) ((Grows.of_below _ ((Below.refl _ _).alloc (Nat.le_refl _) _)).trans h3)
/-- append of a list: 'append(out, l...)' -/
theorem wpList_appI {w : World} {ops : Array Oper} {rest : List Oper} {o : Oper} {ac : Act} {Q : Exit → Act → World → Prop} (hgd : o.guard = none) (s x : Operand)
    (ho : o.op = .call { callee := .builtin .append, args := #[s, x], argTypes := #[22, 22] })
    {B S : Nat} {a : Option Addr} {n c : Nat} {xs : List Int} (hown : OwI w B S a n c xs) (hs : ac.eval s = .slice a n c)
    {b : Option Addr} {m d : Nat} {ys : List Int} (hr : RI w b ys) (hm : ys.length = m) (hx : ac.eval x = .slice b m d) (hn : n + m ≤ 16777216) (hbase : B ≤ w.heap.size)
    (h : ∀ a' c' w', OwI w' B w'.heap.size a' (n + m) c' (xs ++ ys) → Grows w w' (.slice a n c) (.slice a' (n + m) c') → wpList Try.prog ops Q rest (ac.put o.dst (.slice a' (n + m) c')) w') :
    wpList Try.prog ops Q (o :: rest) ac w := by
  obtain ⟨i0, hi, hz0, hz1, hz2⟩ := info_parts Try.info3
  refine wpList_app _ hgd s x 22 ho B 3 i0 (.int .i64 0) 8 Try.underlying22 hi hz0 hz1 hz2 rfl _ n (ints xs) hs hown.own b m d (ints ys) hx (by simp [ints, hm]) ?_ hr.cells (ints_one _) hn (by omega) hbase ?_
  · intro hb
    rcases hr with rfl | ⟨_, _, hb', _⟩
    · simpa using hm.symm
    · rw [hb] at hb'; cases hb'
  · intro a' c' w' h2 h3
    refine h a' c' w' (OwI.mk (by simpa [ints] using h2)) h3

/-- rows of integers, each in a block of the call's own (two may share one) -/
structure InnerS (w : World) (B S : Nat) (vs : List Value) (xss : List (List Int)) : Prop where
  len : vs.length = xss.length
  each : ∀ (k : Nat) (xs : List Int), xss[k]? = some xs → ∃ (a : Option Addr) (c : Nat), vs[k]? = some (Value.slice a xs.length c) ∧ OwI w B S a xs.length c xs
def IIS (w : World) (B S : Nat) (a : Option Addr) (n c : Nat) (xss : List (List Int)) : Prop :=
  ∃ vs, w.ownsRow B 22 1 (.slice a n c) n vs ∧ (∀ k, (Value.slice a n c).ownBlock = some k → k < S) ∧ InnerS w B S vs xss
theorem IIO.toS {w : World} {B S : Nat} {a : Option Addr} {n c : Nat} {xss : List (List Int)} (h : IIO w B S a n c xss) : IIS w B S a n c xss := by
  obtain ⟨vs, h1, h2, h3⟩ := h
  exact ⟨vs, h1, h2, h3.len, h3.each⟩
theorem IIS.len {w : World} {B S : Nat} {a : Option Addr} {n c : Nat} {xss : List (List Int)} (h : IIS w B S a n c xss) : xss.length = n := by
  obtain ⟨vs, h1, _, h3⟩ := h
  rw [← h3.len]; have := h1.1; omega
theorem IIS.rd {w : World} {B S : Nat} {a : Option Addr} {n c : Nat} {xss : List (List Int)} (h : IIS w B S a n c xss) : RII w a xss := by
  obtain ⟨vs, h1, _, h3⟩ := h
  rcases ownsRow_shape h1 with ⟨_, _, _, hv⟩ | ⟨g, rfl, _, _, hc, _⟩
  · left
    have := h3.len
    rw [hv] at this
    exact List.eq_nil_of_length_eq_zero this.symm
  · refine .inr ⟨g, 0, rfl, fun k xs hx => ?_⟩
    obtain ⟨a', c', hk, ho⟩ := h3.each k xs hx
    exact ⟨a', c', by rw [Nat.zero_add]; exact hc k _ hk, ho.rd⟩
theorem IIS.only {w w' : World} {B S B' S' : Nat} {a : Option Addr} {n c : Nat} {xss : List (List Int)} (h : IIS w B S a n c xss) (ho : Only B' S' w w') (hd : S ≤ B' ∨ S' ≤ B) : IIS w' B S a n c xss := by
  obtain ⟨vs, h1, h2, h3⟩ := h
  exact ⟨vs, ownsRow_only h1 h2 ho hd, h2, h3.len, fun k xs hx => by obtain ⟨a, c, h1, h2⟩ := h3.each k xs hx; exact ⟨a, c, h1, h2.only ho hd⟩⟩
theorem IIS.below {w w' : World} {B S : Nat} {a : Option Addr} {n c : Nat} {xss : List (List Int)} (h : IIS w B S a n c xss) (hb : Below w.heap.size w w') : IIS w' B S a n c xss := h.only (Only.of_below hb) (.inr (Nat.zero_le _))
theorem IIS.mono {w : World} {B S S' : Nat} {a : Option Addr} {n c : Nat} {xss : List (List Int)} (h : IIS w B S a n c xss) (hS : S ≤ S') : IIS w B S' a n c xss := by
  obtain ⟨vs, h1, h2, h3⟩ := h
  exact ⟨vs, h1, fun k hk => Nat.lt_of_lt_of_le (h2 k hk) hS, h3.len, fun k xs hx => by obtain ⟨a, c, h1, h2⟩ := h3.each k xs hx; exact ⟨a, c, h1, h2.1, fun k hk => Nat.lt_of_lt_of_le (h2.2 k hk) hS⟩⟩
theorem OwI.mono {w : World} {B S B' S' : Nat} {a : Option Addr} {n c : Nat} {xs : List Int} (h : OwI w B S a n c xs) (hB : B' ≤ B) (hS : S ≤ S') : OwI w B' S' a n c xs :=
  ⟨OS.of (ownsRow_base h.own hB), fun k hk => Nat.lt_of_lt_of_le (h.2 k hk) hS⟩
theorem IIO.mono {w : World} {B S S' : Nat} {a : Option Addr} {n c : Nat} {xss : List (List Int)} (h : IIO w B S a n c xss) (hS : S ≤ S') : IIO w B S' a n c xss := by
  obtain ⟨vs, h1, h2, h3⟩ := h
  exact ⟨vs, h1, fun k hk => Nat.lt_of_lt_of_le (h2 k hk) hS, h3.len, fun k xs hx => by obtain ⟨a, c, h1, h2⟩ := h3.each k xs hx; exact ⟨a, c, h1, h2.mono (Nat.le_refl _) hS⟩, h3.apart⟩
theorem OwI.grows {w w' : World} {B S B' n m : Nat} {a b : Option Addr} {c d : Nat} {xs : List Int} {vs : List Value} {v' : Value} (h : OwI w B S a n c xs) (hg : Grows w w' (.slice b m d) v') (ho : w.ownsRow B' 22 1 (.slice b m d) m vs) : OwI w' B S a n c xs :=
  ⟨h.1.kept hg.grown (fun k hk e => ne_block ho h k e hk), h.2⟩

/-- append of a row of integers: 'append(out, l)' -/
theorem wpList_pushIIS {w : World} {W : World} {b : Option Addr} {m d : Nat} (hW : W = w.alloc (.cells #[.slice b m d] 22)) {ops : Array Oper} {rest : List Oper} {o : Oper} {ac : Act} {Q : Exit → Act → World → Prop} (hgd : o.guard = none) (s x : Operand)
    (ho : o.op = .call { callee := .builtin .append, args := #[s, x], argTypes := #[47, 47] })
    {B S : Nat} {a : Option Addr} {n c : Nat} {xss : List (List Int)} (hown : IIS w B S a n c xss) (hs : ac.eval s = .slice a n c)
    {ys : List Int} {S' : Nat} (hr : OwI w B S' b m d ys) (hx : ac.eval x = .slice (some ⟨w.heap.size, 0, none⟩) 1 1) (hn : n + 1 ≤ 16777216) (hbase : B ≤ w.heap.size) (hS : S ≤ w.heap.size) (hS' : S' ≤ w.heap.size)
    (h : ∀ a' c' w', IIS w' B w'.heap.size a' (n + 1) c' (xss ++ [ys]) → Grows w w' (.slice a n c) (.slice a' (n + 1) c') → wpList Try.prog ops Q rest (ac.put o.dst (.slice a' (n + 1) c')) w') :
    wpList Try.prog ops Q (o :: rest) ac W := by
  subst hW
  obtain ⟨i0, hi, hz0, hz1, hz2⟩ := info_parts Try.info22
  obtain ⟨vs, h1, h2, h3⟩ := hown
  have hlen := hr.len
  refine wpList_app _ hgd s x 47 ho B 22 i0 (.slice none 0 0) 24 Try.underlying47 hi hz0 hz1 hz2 rfl _ n vs hs (h1.alloc _) _ 1 1 [.slice b m d] hx rfl (by simp) ?_ ?_ hn (by omega) (by simp; omega) ?_
  · intro ad had j u hu
    obtain rfl := Option.some.inj had
    match j, hu with
    | 0, hu => simp at hu; subst hu; simp [Addr.add]
  · intro u hu; simp at hu; subst hu; rfl
  · intro a' c' w' h4 h5
    have hb0 : Below w.heap.size w (w.alloc (.cells #[.slice b m d] 22)) := (Below.refl _ _).alloc (Nat.le_refl _) _
    have hg := (Grows.of_below (.slice a n c) hb0).trans h5
    have hsz := hg.grown.size
    refine h a' c' w' ⟨vs ++ [.slice b m d], h4, fun k hk => (h4.lt k hk).2, by simp [h3.len], fun k zs hz => ?_⟩ hg
    rcases Nat.lt_or_ge k xss.length with hk | hk
    · rw [List.getElem?_append_left hk] at hz
      obtain ⟨a2, c2, e1, e2⟩ := h3.each k zs hz
      exact ⟨a2, c2, by rw [List.getElem?_append_left (by rw [h3.len]; exact hk)]; exact e1, (e2.grows hg h1).mono (Nat.le_refl _) (by omega)⟩
    · rw [List.getElem?_append_right hk] at hz
      have hk0 : k - xss.length = 0 := by have := lt_of_some hz; simp at this; omega
      rw [hk0] at hz
      obtain rfl : ys = zs := by simpa using hz
      refine ⟨b, d, by rw [List.getElem?_append_right (by rw [h3.len]; exact hk), h3.len, hk0, hlen]; rfl, ?_⟩
      rw [hlen]
      exact (hr.grows hg h1).mono (Nat.le_refl _) (by omega)
/-- the same where the row that is appended lies in a newer block than all that are there -/
theorem wpList_pushII {w : World} {W : World} {b : Option Addr} {m d : Nat} (hW : W = w.alloc (.cells #[.slice b m d] 22)) {ops : Array Oper} {rest : List Oper} {o : Oper} {ac : Act} {Q : Exit → Act → World → Prop} (hgd : o.guard = none) (s x : Operand)
    (ho : o.op = .call { callee := .builtin .append, args := #[s, x], argTypes := #[47, 47] })
    {B S : Nat} {a : Option Addr} {n c : Nat} {xss : List (List Int)} (hown : IIO w B S a n c xss) (hs : ac.eval s = .slice a n c)
    {ys : List Int} {S' : Nat} (hr : OwI w S S' b m d ys) (hBS : B ≤ S) (hx : ac.eval x = .slice (some ⟨w.heap.size, 0, none⟩) 1 1) (hn : n + 1 ≤ 16777216) (hbase : B ≤ w.heap.size) (hS : S ≤ w.heap.size) (hS' : S' ≤ w.heap.size)
    (h : ∀ a' c' w', IIO w' B w'.heap.size a' (n + 1) c' (xss ++ [ys]) → Grows w w' (.slice a n c) (.slice a' (n + 1) c') → wpList Try.prog ops Q rest (ac.put o.dst (.slice a' (n + 1) c')) w') :
    wpList Try.prog ops Q (o :: rest) ac W := by
  subst hW
  obtain ⟨i0, hi, hz0, hz1, hz2⟩ := info_parts Try.info22
  obtain ⟨vs, h1, h2, h3⟩ := hown
  have hlen := hr.len
  refine wpList_app _ hgd s x 47 ho B 22 i0 (.slice none 0 0) 24 Try.underlying47 hi hz0 hz1 hz2 rfl _ n vs hs (h1.alloc _) _ 1 1 [.slice b m d] hx rfl (by simp) ?_ ?_ hn (by omega) (by simp; omega) ?_
  · intro ad had j u hu
    obtain rfl := Option.some.inj had
    match j, hu with
    | 0, hu => simp at hu; subst hu; simp [Addr.add]
  · intro u hu; simp at hu; subst hu; rfl
  · intro a' c' w' h4 h5
    have hb0 : Below w.heap.size w (w.alloc (.cells #[.slice b m d] 22)) := (Below.refl _ _).alloc (Nat.le_refl _) _
    have hg := (Grows.of_below (.slice a n c) hb0).trans h5
    have hsz := hg.grown.size
    have hold : ∀ (k : Nat) (v : Value), vs[k]? = some v → ∀ q, v.ownBlock = some q → q < S := by
      intro k v hv q hq
      have hk : k < xss.length := by rw [← h3.len]; exact lt_of_some hv
      obtain ⟨zs, hz⟩ := some_of hk
      obtain ⟨a2, c2, e1, e2⟩ := h3.each k zs hz
      rw [hv] at e1
      obtain rfl := Option.some.inj e1
      exact e2.2 q hq
    have hnew : ∀ q, (Value.slice b m d).ownBlock = some q → S ≤ q := hr.1.lo
    refine h a' c' w' ⟨vs ++ [.slice b m d], h4, fun k hk => (h4.lt k hk).2, by simp [h3.len], fun k zs hz => ?_, ?_⟩ hg
    · rcases Nat.lt_or_ge k xss.length with hk | hk
      · rw [List.getElem?_append_left hk] at hz
        obtain ⟨a2, c2, e1, e2⟩ := h3.each k zs hz
        exact ⟨a2, c2, by rw [List.getElem?_append_left (by rw [h3.len]; exact hk)]; exact e1, (e2.grows hg h1).mono (Nat.le_refl _) (by omega)⟩
      · rw [List.getElem?_append_right hk] at hz
        have hk0 : k - xss.length = 0 := by have := lt_of_some hz; simp at this; omega
        rw [hk0] at hz
        obtain rfl : ys = zs := by simpa using hz
        refine ⟨b, d, by rw [List.getElem?_append_right (by rw [h3.len]; exact hk), h3.len, hk0, hlen]; rfl, ?_⟩
        rw [hlen]
        exact (hr.grows hg h1).mono hBS (by omega)
    · intro i j u v g hu hv hug hvg
      rcases Nat.lt_or_ge i vs.length with hi | hi <;> rcases Nat.lt_or_ge j vs.length with hj | hj
      · rw [List.getElem?_append_left hi] at hu
        rw [List.getElem?_append_left hj] at hv
        exact h3.apart i j u v g hu hv hug hvg
      · rw [List.getElem?_append_left hi] at hu
        rw [List.getElem?_append_right hj] at hv
        have hj0 : j - vs.length = 0 := by have := lt_of_some hv; simp at this; omega
        rw [hj0] at hv
        obtain rfl : Value.slice b m d = v := by simpa using hv
        have := hold i u hu g hug
        have := hnew g hvg
        omega
      · rw [List.getElem?_append_right hi] at hu
        rw [List.getElem?_append_left hj] at hv
        have hi0 : i - vs.length = 0 := by have := lt_of_some hu; simp at this; omega
        rw [hi0] at hu
        obtain rfl : Value.slice b m d = u := by simpa using hu
        have := hold j v hv g hvg
        have := hnew g hug
        omega
      · rw [List.getElem?_append_right hi] at hu
        rw [List.getElem?_append_right hj] at hv
        have := lt_of_some hu
        have := lt_of_some hv
        simp at *
        omega
theorem IIO.nil {w : World} {B S : Nat} : IIO w B S none 0 0 [] := ⟨[], World.ownsRow_nil _ _ _ _, by simp [Value.ownBlock], rfl, by simp, by simp⟩
end Go.Proofs.Ytocgcgmlemoekaa

namespace Go.Proofs.Ytocgcgmlemoekaa
open Go.RowKit

theorem OwI.nil {w : World} {B S : Nat} : OwI w B S none 0 0 [] := ⟨OS.of ⟨rfl, .inl ⟨rfl, rfl⟩⟩, fun k hk => by simp [Value.ownBlock] at hk⟩

set_option maxRecDepth 100000 in
set_option maxHeartbeats 400000 in
theorem cloneI_any (a : Option Addr) (n c : Nat) (xs : List Int) (w : World) (hr : RI w a xs) (hn : xs.length = n) (hb : n ≤ 1048576) :
    Calls Try.prog 156 #[.slice a n c] w fun e w' => ∃ a' c', e = .returned (.slice a' n c') ∧ OwI w' w.heap.size w'.heap.size a' n c' xs ∧ Below w.heap.size w w' := by
  have q22 : ∀ (w : World) (a : Option Addr) (n c n' c' : Nat), (binOp .eql 22 (.slice a n c) (.slice none n' c')).run Try.prog w = .ok (.bool a.isNone) w := fun w a n c n' c' => Lib.run_eql_slice_nil w _ _ a n c n' c' Try.underlying22
  rcases a with _ | ad
  · have hx : xs = [] := by
      rcases hr with h | ⟨b, off, h, _⟩
      · exact h
      · cases h
    subst hx
    simp only [List.length_nil] at hn
    subst hn
    go_enter Try.func156, Try.ntmps156
    go_wp2
    go_ret
    exact ⟨_, _, rfl, OwI.nil, Below.refl _ _⟩
  · have h1 : OwI (w.alloc (.cells #[] 3)) w.heap.size (w.alloc (.cells #[] 3)).heap.size (some ⟨w.heap.size, 0, none⟩) 0 0 [] := OwI.mk (World.ownsRow_made _ #[] 0 (Nat.le_refl _) (Nat.zero_le _) rfl)
    have hB0 : Below w.heap.size w (w.alloc (.cells #[] 3)) := (Below.refl _ _).alloc (Nat.le_refl _) _
    have hr0 := hr.below hB0
    have Hn := Lib.hid hn; clear hn
    have H1 := Lib.hid h1; clear h1
    go_enter Try.func156, Try.ntmps156
    go_wp2_with (first | (at_builtin; go_loud (refine wpList_appI (by rfl) _ _ (by rfl) H1.out (by rfl) hr0 Hn.out (by rfl) (by omega) (by simp) ?_)))
    intro a2 c2 w2 ho2 hg2
    have hB2 : Below w.heap.size w w2 := hg2.below hB0 (by simp) (fun k hk => by simp [Value.ownBlock] at hk; omega)
    go_wp2
    go_ret
    exact ⟨a2, c2, by simp, by simpa using ho2, hB2⟩
set_option maxHeartbeats 400000 in
theorem l1Ints_any (a : Option Addr) (n c : Nat) (xs : List Int) (w : World) (hr : RI w a xs) (hn : xs.length = n) (hb : n ≤ 1048576) :
    Calls Try.prog 74 #[.slice a n c] w fun e w' => ∃ a' c', e = .returned (.slice a' n c') ∧ OwI w' w.heap.size w'.heap.size a' n c' xs ∧ Below w.heap.size w w' := by
  have Hn := Lib.hid hn; clear hn
  have hemp : (w.alloc (.cells #[] 3)).ownsRow w.heap.size 3 1 (.slice (some ⟨w.heap.size, 0, none⟩) 0 0) 0 [] := World.ownsRow_made _ #[] 0 (Nat.le_refl _) (Nat.zero_le _) rfl
  have h1 : OwI (w.alloc (.cells #[] 3)) w.heap.size (w.alloc (.cells #[] 3)).heap.size (some ⟨w.heap.size, 0, none⟩) 0 0 [] := OwI.mk hemp
  have hB0 : Below w.heap.size w (w.alloc (.cells #[] 3)) := (Below.refl _ _).alloc (Nat.le_refl _) _
  have hr0 := hr.below hB0
  have H1 := Lib.hid h1; clear h1 hemp
  go_enter Try.func74, Try.ntmps74
  go_wp2_with (first | (at_builtin; go_loud (refine wpList_appI (by rfl) _ _ (by rfl) H1.out (by rfl) hr0 Hn.out (by rfl) (by omega) (by simp) ?_)))
  intro a2 c2 w2 ho2 hg2
  have hB2 : Below w.heap.size w w2 := hg2.below hB0 (by simp) (fun k hk => by simp [Value.ownBlock] at hk; omega)
  go_wp2
  go_ret
  exact ⟨a2, c2, by simp, by simpa using ho2, hB2⟩
end Go.Proofs.Ytocgcgmlemoekaa
