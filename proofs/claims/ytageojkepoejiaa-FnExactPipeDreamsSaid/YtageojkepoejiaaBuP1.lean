/-
  Contract of toIntS.
  Contract of eqIntS.
  Laws for slices that a call makes itself: appending, storing, reading; said of whole lists.
  Contracts of markIntS and heldIntS.
  What a law asks of lists of integers, in one form: copied, compared, marked, held.
-/
import Derived.Test.YtageojkepoejiaaBase
namespace Go.Proofs.Ytageojkepoejiaa
open Go.RowKit

def fillTo (xs : List Int) (n k : Nat) : List Int := xs.take k ++ List.replicate (n - k) 0
theorem fillTo_length {xs : List Int} {n k : Nat} (h : xs.length = n) (hk : k ≤ n) : (fillTo xs n k).length = n := by
  simp [fillTo]; omega
theorem fillTo_zero (xs : List Int) (n : Nat) : fillTo xs n 0 = List.replicate n 0 := by simp [fillTo]
theorem fillTo_all {xs : List Int} {n : Nat} (h : xs.length = n) : fillTo xs n n = xs := by simp [fillTo, ← h]
theorem fillTo_succ {xs : List Int} {n k : Nat} {x : Int} (h : xs.length = n) (hk : k < n) (hx : xs[k]? = some x) : (fillTo xs n k).set k x = fillTo xs n (k + 1) := by
  subst h
  apply List.ext_getElem?
  intro j
  obtain ⟨_, rfl⟩ := List.getElem?_eq_some_iff.1 hx
  rw [List.getElem?_set]
  by_cases hj : k = j
  · subst hj
    rw [if_pos rfl, if_pos (by rw [fillTo_length rfl (by omega)]; exact hk)]
    unfold fillTo
    rw [List.getElem?_append_left (by simp; omega), List.getElem?_take, if_pos (by omega), List.getElem?_eq_getElem hk]
  · simp only [if_neg hj, fillTo]
    rw [List.getElem?_append, List.getElem?_append]
    simp only [List.length_take, List.getElem?_take, List.getElem?_replicate]
    repeat' split
    all_goals first | rfl | omega

set_option maxHeartbeats 400000 in
theorem toIntS_any (a : Option Addr) (n c : Nat) (xs : List Int) (w : World) (hr : RI w a xs) (hn : xs.length = n) (hb : n ≤ 17592186044416) :
    Calls Try.prog 9 #[.slice a n c] w fun e w' => ∃ a' c', e = .returned (.slice a' n c') ∧ OS w' w.heap.size a' n c' xs ∧ Below w.heap.size w w' := by
  have Hn := Lib.hid hn; clear hn
  obtain ⟨i0, hi, hz0, hz1, hz2⟩ := info_parts Try.info3
  go_enter Try.func9, Try.ntmps9
  go_wp2_with (first | (at_make; refine wpList_make_full _ rfl _ _ 22 rfl w.heap.size 3 i0 (.int .i64 0) 1 Try.underlying22 hi hz0 hz1 .i64 .i64 _ _ n rfl rfl ?m1 ?m2 ?m3 ?m4 ?m5 ?_))
  case m1 => rfl
  case m2 => rfl
  case m3 => rw [hz2]; omega
  case m4 => unfold maxLen; omega
  case m5 => exact Nat.le_refl _
  intro w1 hown hg
  have hB : Below w.heap.size w w1 := (Below.refl _ _).grown hg (Nat.le_refl _) (by simp)
  have hrow : OI w1 w.heap.size (.slice (some ⟨w.heap.size, 0, none⟩) n n) (fillTo xs n 0) := by
    unfold OI
    rw [fillTo_length Hn.out (Nat.zero_le _), fillTo_zero]
    have e := toList_madeCells_one (.int .i64 0) n
    simpa [ints, Value.cells, e] using hown
  clear hown hg
  go_wp2
  go_loopw [4] (fun i wr => ∃ k : Nat, k ≤ n ∧ i = .int .i64 k ∧ OI wr w.heap.size (.slice (some ⟨w.heap.size, 0, none⟩) n n) (fillTo xs n k) ∧ Below w.heap.size w wr) (fun i _ => n - (intOf i).toNat)
  case atStart => exact ⟨0, Nat.zero_le _, rfl, hrow, hB⟩
  case round =>
    clear hrow hB
    obtain ⟨k, hk, rfl, hown, hbel⟩ := hrel
    by_cases hlt : k < n
    · obtain ⟨b, off, rfl, hcell⟩ := hr.at (k := k) (by rw [Hn.out]; exact hlt)
      obtain ⟨x, hx⟩ : ∃ x, xs[k]? = some x := ⟨xs[k]'(by rw [Hn.out]; exact hlt), by simp⟩
      have hc0 := hcell k x hx
      have hblt := World.block_lt_of_cell? w _ hc0
      have hc : wr.cell? ⟨b, off + k, none⟩ = some (.int .i64 x) := by rw [hbel.cell hblt]; exact hc0
      clear hcell hc0
      have hold : ∃ y, wr.cell? ⟨w.heap.size, k, none⟩ = some (.int .i64 y) := by
        unfold OI at hown
        rw [fillTo_length Hn.out hk] at hown
        rw [hown.cellAt k (by omega)]
        have : k < (fillTo xs n k).length := by rw [fillTo_length Hn.out hk]; exact hlt
        exact ⟨(fillTo xs n k)[k], by simp [ints, this]⟩
      obtain ⟨y, hy⟩ := hold
      have hfz : wr.frozen? ⟨w.heap.size, k, none⟩ = false := by
        unfold OI at hown
        rw [fillTo_length Hn.out hk] at hown
        exact hown.frozenAt k
      have Hx := Lib.hid hx; clear hx
      go_wp2
      go_roundw
      case rel =>
        refine ⟨k + 1, by omega, by go_num, ?_, hbel.setCell (Nat.le_refl _) _⟩
        have hs : OI (wr.setCell ⟨w.heap.size, k, none⟩ (.int .i64 x)) w.heap.size (.slice (some ⟨w.heap.size, 0, none⟩) n n) ((fillTo xs n k).set k x) := by
          unfold OI at hown ⊢
          rw [fillTo_length Hn.out hk] at hown
          rw [List.length_set, fillTo_length Hn.out hk]
          have := (hown.stored k (.int .i64 x)).1
          simpa [ints] using this
        rw [fillTo_succ Hn.out hlt Hx.out] at hs
        exact hs
      case measure => simp [intOf]; omega
    · obtain rfl : k = n := by omega
      go_wp2
      go_ret
      rw [fillTo_all Hn.out] at hown
      exact ⟨_, _, rfl, ⟨Hn.out, hown⟩, hbel⟩
end Go.Proofs.Ytageojkepoejiaa

namespace Go.Proofs.Ytageojkepoejiaa
open Go.RowKit

theorem eq_of_all {xs ys : List Int} (hl : xs.length = ys.length) (h : ∀ j, j < xs.length → xs[j]? = ys[j]?) : decide (xs = ys) = true := by
  rw [decide_eq_true_iff]
  apply List.ext_getElem?
  intro j
  rcases Nat.lt_or_ge j xs.length with h1 | h1
  · exact h j h1
  · rw [List.getElem?_eq_none h1, List.getElem?_eq_none (by omega)]
theorem ne_of_at {xs ys : List Int} {k : Nat} {x y : Int} (hx : xs[k]? = some x) (hy : ys[k]? = some y) (h : x ≠ y) : decide (xs = ys) = false := by
  rw [decide_eq_false_iff_not]
  rintro rfl
  rw [hx] at hy
  exact h (by simpa using hy)

set_option maxHeartbeats 400000 in
theorem eqIntS_any (a b : Option Addr) (n c m d : Nat) (xs ys : List Int) (w : World) (hr : RI w a xs) (hs : RI w b ys) (hn : xs.length = n) (hm : ys.length = m) (hb : n ≤ 17592186044416) :
    Calls Try.prog 11 #[.slice a n c, .slice b m d] w fun e w' => e = .returned (.bool (decide (xs = ys))) ∧ Drew w w' := by
  have Hn := Lib.hid hn; clear hn
  have Hm := Lib.hid hm; clear hm
  by_cases hnm : n = m
  · subst hnm
    go_enter Try.func11, Try.ntmps11
    go_wp2
    go_loopw [5] (fun i wr => ∃ k : Nat, k ≤ n ∧ i = .int .i64 k ∧ Hid (∀ j, j < k → xs[j]? = ys[j]?) ∧ Drew w wr) (fun i _ => n - (intOf i).toNat)
    case atStart => exact ⟨0, Nat.zero_le _, rfl, by intro j hj; omega, Drew.refl _⟩
    case round =>
      obtain ⟨k, hk, rfl, HA, hd⟩ := hrel
      by_cases hlt : k < n
      · obtain ⟨b, off, rfl, hcell⟩ := (hr.drew hd).at (k := k) (by rw [Hn.out]; exact hlt)
        obtain ⟨b2, off2, rfl, hcell2⟩ := (hs.drew hd).at (k := k) (by rw [Hm.out]; exact hlt)
        obtain ⟨x, hx⟩ : ∃ x, xs[k]? = some x := ⟨xs[k]'(by rw [Hn.out]; exact hlt), by simp⟩
        obtain ⟨y, hy⟩ : ∃ y, ys[k]? = some y := ⟨ys[k]'(by rw [Hm.out]; exact hlt), by simp⟩
        have hc := hcell k x hx
        have hc2 := hcell2 k y hy
        have Hx := Lib.hid hx; clear hx
        have Hy := Lib.hid hy; clear hy
        clear hcell hcell2
        have hltI : (k : Int) < (n : Int) := by omega
        by_cases h1 : x = y
        · subst h1
          go_wp2
          go_quiet (fail)
          go_wp2
          go_roundw
          case rel => exact ⟨k + 1, by omega, by go_num, by
                intro j hj
                rcases Nat.lt_or_ge j k with h | h
                · exact HA.out j h
                · obtain rfl : j = k := by omega
                  rw [Hx.out, Hy.out], hd.trans (Drew.drewN _ _)⟩
          case measure => simp [intOf]; omega
        · have hne : (x != y) = true := by simpa using h1
          have H1 := Lib.hid h1; clear h1
          go_wp2
          go_quiet (fail)
          go_wp2
          go_ret
          exact ⟨ret_bool (ne_of_at Hx.out Hy.out H1.out).symm, hd.trans (Drew.drewN _ _)⟩
      · go_wp2
        go_ret
        exact ⟨ret_bool (eq_of_all (Hn.out.trans Hm.out.symm) (by intro j hj; exact HA.out j (by rw [Hn.out] at hj; omega))).symm, hd⟩
  · go_enter Try.func11, Try.ntmps11
    have hne : ((n : Int) != (m : Int)) = true := by rw [bne_iff_ne]; omega
    go_wp2
    go_ret
    exact ⟨ret_bool (by symm; rw [decide_eq_false_iff_not]; rintro rfl; exact hnm (Hn.out.symm.trans Hm.out)), Drew.refl _⟩
end Go.Proofs.Ytageojkepoejiaa

namespace Go.Proofs.Ytageojkepoejiaa
open Go.RowKit

/-- w' is w with new blocks, and with writes to block row alone -/
theorem below_grown {B : Nat} {wS w w' : World} {v : Value} (h : Below B wS w) (hg : w.grownBy w' v.ownBlock) (hB : B ≤ w.heap.size) (hv : ∀ k, v.ownBlock = some k → B ≤ k) : Below B wS w' :=
  h.grown hg hB hv

theorem grownBy.trans {a b c : World} {row : Option Nat} (h : a.grownBy b row) (k : b.grownBy c row) : a.grownBy c row :=
  ⟨k.os.trans h.os, k.tape.trans h.tape, k.output.trans h.output, Nat.le_trans h.size k.size, fun i hi hr => (k.block i (Nat.lt_of_lt_of_le hi h.size) hr).trans (h.block i hi hr)⟩
theorem grownBy.drew (w : World) (n : Nat) (row : Option Nat) : w.grownBy (w.drewN n) row := ⟨rfl, rfl, rfl, Nat.le_refl _, fun _ _ _ => rfl⟩

/-- the shape of what an append hands back -/
theorem slice_of {w : World} {B e n : Nat} {v : Value} {xs : List Value} (h : w.ownsRow B e 1 v n xs) : ∃ a c, v = .slice a n c ∧ n ≤ c ∧ (a = none → c = 0) := by
  rcases h.2 with ⟨rfl, rfl⟩ | ⟨g, cap, cur, rfl, _, _, hl, _⟩
  · exact ⟨none, 0, rfl, Nat.le_refl _, fun _ => rfl⟩
  · exact ⟨_, cap, rfl, hl, fun h => by cases h⟩

/-- append of one element that has just been laid in a block of its own -/
theorem wpList_push {P : Program} (w : World) (u : Value) (e : TypeId) {W : World} (hW : W = w.alloc (.cells #[u] e)) {ops : Array Oper} {rest : List Oper} {o : Oper} {a : Act} {Q : Exit → Act → World → Prop} (hgd : o.guard = none) (s x : Operand) (t : TypeId)
    (ho : o.op = .call { callee := .builtin .append, args := #[s, x], argTypes := #[t, t] })
    (B : Nat) (i : TypeInfo) (z : Value) (bytes : Nat) (ht : P.underlying t = some (.slice e)) (hi : P.info? e = some i) (hz : i.zero = some z)
    (hsize : i.size = 1) (hby : i.bytes = bytes) (hzs : z.cells.size = 1)
    (v : Value) (n : Nat) (xs : List Value) (hs : a.eval s = v) (hown : w.ownsRow B e 1 v n xs)
    (hx : a.eval x = .slice (some ⟨w.heap.size, 0, none⟩) 1 1) (hu : u.oneCell' = true)
    (hn : n + 1 ≤ 1048576) (hb2 : bytes ≤ 1048576) (hbase : B ≤ w.heap.size)
    (h : ∀ a' c' w', w'.ownsRow B e 1 (.slice a' (n + 1) c') (n + 1) (xs ++ [u]) → w.grownBy w' v.ownBlock → wpList P ops Q rest (a.put o.dst (.slice a' (n + 1) c')) w') :
    wpList P ops Q (o :: rest) a W := by
  subst hW
  refine wpList_append_own _ hgd s x t ho B e i z 1 bytes ht hi hz hsize hby hzs (by decide) v n xs hs (hown.alloc _) ⟨w.heap.size, 0, none⟩ 1 1 [u] hx rfl ?_ ?_ (by unfold maxLen; omega) ?_ (by simp; omega) ?_
  · intro j y hj
    match j, hj with
    | 0, hj => simp at hj; subst hj; simp [Addr.add]
  · intro y hy; simp at hy; subst hy; exact hu
  · have := Nat.mul_le_mul hn hb2; omega
  · intro v' w' h2 h3 _
    obtain ⟨a', c', rfl, _⟩ := slice_of h2
    exact h a' c' w' h2 (grownBy.trans (World.grownBy_alloc w _ _) h3)

theorem OS.own {w : World} {B : Nat} {a : Option Addr} {n c : Nat} {xs : List Int} (h : OS w B a n c xs) : w.ownsRow B 3 1 (.slice a n c) n (ints xs) := by
  obtain ⟨rfl, h⟩ := h; exact h
theorem OS.of {w : World} {B : Nat} {a : Option Addr} {n c : Nat} {xs : List Int} (h : w.ownsRow B 3 1 (.slice a n c) n (ints xs)) : OS w B a n c xs := by
  have : xs.length = n := by have := h.1; simpa [ints] using this
  subst this
  exact ⟨rfl, h⟩
theorem OS.snoc {w : World} {B : Nat} {a : Option Addr} {n c : Nat} {xs : List Int} {x : Int} (h : w.ownsRow B 3 1 (.slice a n c) n (ints xs ++ [.int .i64 x])) : OS w B a n c (xs ++ [x]) :=
  OS.of (by simpa [ints] using h)
theorem OS.hi {w : World} {B : Nat} {a : Option Addr} {n c : Nat} {xs : List Int} (h : OS w B a n c xs) : ∀ k, (Value.slice a n c).ownBlock = some k → k < w.heap.size := fun k hk => (h.own.lt k hk).2
theorem OS.kept {w w' : World} {B : Nat} {a : Option Addr} {n c : Nat} {xs : List Int} {row : Option Nat} (h : OS w B a n c xs) (hg : w.grownBy w' row) (hne : ∀ k, (Value.slice a n c).ownBlock = some k → row ≠ some k) : OS w' B a n c xs := by
  refine OS.of (h.own.kept hg ?_)
  cases hv : (Value.slice a n c).ownBlock with
  | none => exact .inl rfl
  | some k => exact .inr (fun e => hne k hv e.symm)
theorem OS.lo {w : World} {B : Nat} {a : Option Addr} {n c : Nat} {xs : List Int} (h : OS w B a n c xs) : ∀ k, (Value.slice a n c).ownBlock = some k → B ≤ k := fun k hk => (h.own.lt k hk).1

/-- w' is w with new blocks, and with writes to blocks from B on and below S alone -/
structure Only (B S : Nat) (w w' : World) : Prop where
  os : w'.os = w.os
  tape : w'.tape = w.tape
  output : w'.output = w.output
  size : w.heap.size ≤ w'.heap.size
  block : ∀ k, k < w.heap.size → ¬ (B ≤ k ∧ k < S) → w'.heap[k]? = w.heap[k]?
theorem Only.refl (B S : Nat) (w : World) : Only B S w w := ⟨rfl, rfl, rfl, Nat.le_refl _, fun _ _ _ => rfl⟩
theorem Only.trans {B S : Nat} {a b c : World} (h : Only B S a b) (k : Only B S b c) : Only B S a c :=
  ⟨k.os.trans h.os, k.tape.trans h.tape, k.output.trans h.output, Nat.le_trans h.size k.size, fun i hi hn => (k.block i (Nat.lt_of_lt_of_le hi h.size) hn).trans (h.block i hi hn)⟩
theorem Only.of_below {w w' : World} (h : Below w.heap.size w w') : Only 0 0 w w' := ⟨h.os, h.tape, h.output, h.size, fun k hk _ => h.block k hk⟩
theorem Only.of_grown {B S : Nat} {w w' : World} {v : Value} (h : w.grownBy w' v.ownBlock) (hl : ∀ k, v.ownBlock = some k → B ≤ k) (hh : ∀ k, v.ownBlock = some k → k < S) : Only B S w w' :=
  ⟨h.os, h.tape, h.output, h.size, fun k hk hn => h.block k hk (fun e => hn ⟨hl k e.symm, hh k e.symm⟩)⟩
theorem Only.mono {B S B' S' : Nat} {w w' : World} (h : Only B S w w') (h1 : B' ≤ B) (h2 : S ≤ S') : Only B' S' w w' := ⟨h.os, h.tape, h.output, h.size, fun k hk hn => h.block k hk (fun e => hn ⟨Nat.le_trans h1 e.1, Nat.lt_of_lt_of_le e.2 h2⟩)⟩
theorem Only.below {A B S : Nat} {wS w w' : World} (h : Only B S w w') (hb : Below A wS w) (hA : A ≤ B) (hw : A ≤ w.heap.size) : Below A wS w' :=
  hb.trans ⟨h.os, h.tape, h.output, h.size, fun k hk => h.block k (by omega) (by omega)⟩
/-- the slice is a row of the call's own, in a block from B on and below S, and holds xs -/
def OwI (w : World) (B S : Nat) (a : Option Addr) (n c : Nat) (xs : List Int) : Prop := OS w B a n c xs ∧ ∀ k, (Value.slice a n c).ownBlock = some k → k < S
theorem OwI.of {w : World} {B : Nat} {a : Option Addr} {n c : Nat} {xs : List Int} (h : OS w B a n c xs) : OwI w B w.heap.size a n c xs := ⟨h, h.hi⟩
theorem OwI.len {w : World} {B S : Nat} {a : Option Addr} {n c : Nat} {xs : List Int} (h : OwI w B S a n c xs) : xs.length = n := h.1.1
theorem OwI.rd {w : World} {B S : Nat} {a : Option Addr} {n c : Nat} {xs : List Int} (h : OwI w B S a n c xs) : RI w a xs := h.1.ri
theorem OwI.only {w w' : World} {B S B' S' : Nat} {a : Option Addr} {n c : Nat} {xs : List Int} (h : OwI w B S a n c xs) (ho : Only B' S' w w') (hd : S ≤ B' ∨ S' ≤ B) : OwI w' B S a n c xs := by
  refine ⟨OS.of ⟨h.1.own.1, ?_⟩, h.2⟩
  have hh := h.2
  have hl := h.1.lo
  rcases h.1.own.2 with h2 | ⟨g, cap, cur, hv, hg, hb, r⟩
  · exact .inl h2
  · simp only [Value.slice.injEq] at hv
    obtain ⟨rfl, _, rfl⟩ := hv
    have h1 := hh g rfl
    have h3 := hl g rfl
    exact .inr ⟨g, c, cur, rfl, hg, by rw [ho.block g (Array.getElem?_eq_some_iff.1 hb).1 (by omega)]; exact hb, r⟩
theorem OwI.below {w w' : World} {B S : Nat} {a : Option Addr} {n c : Nat} {xs : List Int} (h : OwI w B S a n c xs) (hb : Below w.heap.size w w') : OwI w' B S a n c xs := h.only (Only.of_below hb) (.inr (Nat.zero_le _))

end Go.Proofs.Ytageojkepoejiaa

namespace Go.Proofs.Ytageojkepoejiaa
open Go.RowKit

/-- k, k + 1, .. -/
def iota (k : Int) (n : Nat) : List Int := (List.range n).map fun (i : Nat) => k + (i : Int)
theorem iota_length (k : Int) (n : Nat) : (iota k n).length = n := by simp [iota]
theorem iota_at {k : Int} {n j : Nat} (h : j < n) : (iota k n)[j]? = some (k + (j : Int)) := by simp [iota, h]
def marked (xs : List Int) (k : Int) (j : Nat) : List Int := iota k j ++ xs.drop j
theorem marked_length {xs : List Int} {k : Int} {n j : Nat} (h : xs.length = n) (hj : j ≤ n) : (marked xs k j).length = n := by simp [marked, iota_length]; omega
theorem marked_zero (xs : List Int) (k : Int) : marked xs k 0 = xs := by simp [marked, iota]
theorem marked_all {xs : List Int} {k : Int} {n : Nat} (h : xs.length = n) : marked xs k n = iota k n := by simp [marked, ← h]
theorem marked_succ {xs : List Int} {k : Int} {n j : Nat} (h : xs.length = n) (hj : j < n) : (marked xs k j).set j (k + (j : Int)) = marked xs k (j + 1) := by
  subst h
  apply List.ext_getElem?
  intro i
  rw [List.getElem?_set]
  by_cases hi : j = i
  · subst hi
    rw [if_pos rfl, if_pos (by rw [marked_length rfl (by omega)]; exact hj)]
    unfold marked
    rw [List.getElem?_append_left (by simp [iota_length]), iota_at (by omega)]
  · rw [if_neg hi]
    unfold marked
    rw [List.getElem?_append, List.getElem?_append, iota_length, iota_length]
    by_cases h1 : i < j
    · rw [if_pos h1, if_pos (by omega), iota_at h1, iota_at (by omega)]
    · rw [if_neg h1, if_neg (by omega), List.getElem?_drop, List.getElem?_drop]
      congr 1
      omega

theorem OI.cons {w : World} {B : Nat} {a : Option Addr} {n c : Nat} {xs : List Int} (h : OS w B a n c xs) {j : Nat} (hj : j < n) :
    ∃ g, a = some ⟨g, 0, none⟩ ∧ B ≤ g ∧ (∃ x, xs[j]? = some x ∧ w.cell? ⟨g, j, none⟩ = some (.int .i64 x)) ∧ w.frozen? ⟨g, j, none⟩ = false := by
  obtain ⟨rfl, h⟩ := h
  have h' := h
  rcases h.2 with ⟨_, h2⟩ | ⟨g, cap, cur, hv, hb, _⟩
  · omega
  · simp only [Value.slice.injEq] at hv
    obtain ⟨rfl, _, rfl⟩ := hv
    obtain ⟨x, hx⟩ := some_at rfl hj
    exact ⟨g, rfl, hb, ⟨x, hx, by rw [h'.cellAt j (by omega)]; simp [ints, hx]⟩, h'.frozenAt j⟩
theorem OS.store {w : World} {B : Nat} {g : Nat} {n c : Nat} {xs : List Int} (h : OS w B (some ⟨g, 0, none⟩) n c xs) (j : Nat) (x : Int) :
    OS (w.setCell ⟨g, j, none⟩ (.int .i64 x)) B (some ⟨g, 0, none⟩) n c (xs.set j x) ∧ w.grownBy (w.setCell ⟨g, j, none⟩ (.int .i64 x)) (some g) := by
  obtain ⟨rfl, h⟩ := h
  have := h.stored j (.int .i64 x)
  refine ⟨⟨by simp, ?_⟩, this.2⟩
  unfold OI
  rw [List.length_set]
  have h1 := this.1
  simpa [ints] using h1

set_option maxHeartbeats 400000 in
theorem markIntS_any (B : Nat) (a : Option Addr) (n c : Nat) (xs : List Int) (k : Int) (w : World) (ho : OS w B a n c xs) (hk0 : 0 ≤ k) (hk : k ≤ 17592186044416) (hb : n ≤ 17592186044416) :
    Calls Try.prog 13 #[.slice a n c, .int .i64 k] w fun e w' => e = .returned (.int .i64 (k + n)) ∧ OS w' B a n c (iota k n) ∧ w.grownBy w' (Value.slice a n c).ownBlock := by
  go_enter Try.func13, Try.ntmps13
  go_wp2
  go_loopw [1, 5] (fun kk i wr => ∃ j : Nat, j ≤ n ∧ i = .int .i64 j ∧ kk = .int .i64 (k + j) ∧ OS wr B a n c (marked xs k j) ∧ w.grownBy wr (Value.slice a n c).ownBlock) (fun _ i _ => n - (intOf i).toNat)
  case atStart => exact ⟨0, Nat.zero_le _, rfl, by simp, by rw [marked_zero]; exact ho, ⟨rfl, rfl, rfl, Nat.le_refl _, fun _ _ _ => rfl⟩⟩
  case round =>
    obtain ⟨j, hj, rfl, rfl, hr, hg⟩ := hrel
    by_cases hlt : j < n
    · obtain ⟨g, rfl, hB, ⟨x, hx, hc⟩, hf⟩ := OI.cons hr hlt
      clear hx
      go_wp2
      go_roundw
      case rel =>
        have hs := hr.store j (k + j)
        rw [marked_succ ho.1 hlt] at hs
        exact ⟨j + 1, by omega, by go_num, by go_num, hs.1, grownBy.trans hg hs.2⟩
      case measure => simp [intOf]; omega
    · obtain rfl : j = n := by omega
      go_wp2
      go_ret
      rw [marked_all ho.1] at hr
      exact ⟨rfl, hr, hg⟩

theorem markI_any (B S : Nat) (a : Option Addr) (n c : Nat) (xs : List Int) (k : Int) (w : World) (ho : OwI w B S a n c xs) (hk0 : 0 ≤ k) (hk : k ≤ 17592186044416) (hb : n ≤ 17592186044416) :
    Calls Try.prog 13 #[.slice a n c, .int .i64 k] w fun e w' => e = .returned (.int .i64 (k + n)) ∧ OwI w' B S a n c (iota k n) ∧ Only B S w w' :=
  (markIntS_any B a n c xs k w ho.1 hk0 hk hb).mono fun _ _ ⟨he, h1, h2⟩ => ⟨he, ⟨h1, ho.2⟩, Only.of_grown h2 ho.1.lo ho.2⟩

set_option maxHeartbeats 400000 in
theorem heldIntS_any (a : Option Addr) (n c : Nat) (k : Int) (w : World) (hr : RI w a (iota k n)) (hk0 : 0 ≤ k) (hk : k ≤ 17592186044416) (hb : n ≤ 17592186044416) :
    Calls Try.prog 15 #[.slice a n c, .int .i64 k] w fun e w' => e = .returned (.int .i64 (k + n)) ∧ Drew w w' := by
  go_enter Try.func15, Try.ntmps15
  go_wp2
  go_loop [1, 5] (fun kk i => ∃ j : Nat, j ≤ n ∧ i = .int .i64 j ∧ kk = .int .i64 (k + j)) (fun _ i => n - (intOf i).toNat)
  case atStart => exact ⟨0, Nat.zero_le _, rfl, by simp⟩
  case round =>
    obtain ⟨j, hj, rfl, rfl⟩ := hrel
    by_cases hlt : j < n
    · obtain ⟨b, off, rfl, hcell⟩ := hr.at (k := j) (by rw [iota_length]; exact hlt)
      have hc := hcell j _ (iota_at hlt)
      clear hcell
      have hne : ((k + (j : Int)) != (k + (j : Int))) = false := by simp
      go_wp2
      go_round
      case rel => exact ⟨j + 1, by omega, by go_num, by go_num⟩
      case measure => simp [intOf]; omega
    · obtain rfl : j = n := by omega
      go_wp2
      go_ret
      exact ⟨rfl, Drew.refl _⟩
end Go.Proofs.Ytageojkepoejiaa

namespace Go.Proofs.Ytageojkepoejiaa
open Go.RowKit

theorem wf_bounds {x : Int} (h : (Lit.int .i64 x).wf = true) : -9223372036854775808 ≤ x ∧ x ≤ 9223372036854775807 := by
  simp [Lit.wf, IntKind.min, IntKind.max, IntKind.signed, IntKind.bits] at h
  omega
abbrev sz_I (xs : List Int) : Nat := xs.length
def mk_I (xs : List Int) (k : Int) : List Int := iota k xs.length
theorem conv_I (a : Option Addr) (n c : Nat) (xs : List Int) (w : World) (hr : RI w a xs) (hn : xs.length = n) (hb : n ≤ 17592186044416) :
    Calls Try.prog 9 #[.slice a n c] w fun e w' => ∃ a' c', e = .returned (.slice a' n c') ∧ OwI w' w.heap.size w'.heap.size a' n c' xs ∧ Below w.heap.size w w' :=
  (toIntS_any a n c xs w hr hn hb).mono fun _ _ ⟨a', c', he, ho, hb⟩ => ⟨a', c', he, OwI.of ho, hb⟩
theorem eq_I (a b : Option Addr) (n c m d : Nat) (xs ys : List Int) (w : World) (hr : RI w a xs) (hs : RI w b ys) (hn : xs.length = n) (hm : ys.length = m) (hb : n ≤ 17592186044416) :
    Calls Try.prog 11 #[.slice a n c, .slice b m d] w fun e w' => e = .returned (.bool (decide (xs = ys))) ∧ Drew w w' := eqIntS_any a b n c m d xs ys w hr hs hn hm hb
theorem mark_I (B S : Nat) (a : Option Addr) (n c : Nat) (xs : List Int) (k : Int) (w : World) {Z : Nat} (ho : OwI w B S a n c xs) (hk0 : 0 ≤ k) (hk : k ≤ 4398046511104) (hb : Z ≤ 1099511627776) (hZ : sz_I xs = Z) :
    Calls Try.prog 13 #[.slice a n c, .int .i64 k] w fun e w' => e = .returned (.int .i64 (k + Z)) ∧ OwI w' B S a n c (mk_I xs k) ∧ Only B S w w' := by
  obtain rfl : n = Z := ho.len.symm.trans hZ
  have hl := ho.len
  have h := markI_any B S a n c xs k w ho hk0 (by omega) (by omega)
  unfold mk_I
  rw [hl]
  exact h
theorem held_I {B S : Nat} (a : Option Addr) (n c : Nat) (xs : List Int) (k : Int) (w : World) {Z : Nat} (ho : OwI w B S a n c (mk_I xs k)) (hk0 : 0 ≤ k) (hk : k ≤ 4398046511104) (hb : Z ≤ 1099511627776) (hZ : sz_I xs = Z) :
    Calls Try.prog 15 #[.slice a n c, .int .i64 k] w fun e w' => e = .returned (.int .i64 (k + Z)) ∧ Drew w w' := by
  have hl := ho.len
  simp only [mk_I, iota_length] at hl
  obtain rfl : n = Z := hl.symm.trans hZ
  have h := ho.rd
  unfold mk_I at h
  rw [hl] at h
  exact heldIntS_any a n c k w h hk0 (by omega) (by omega)
end Go.Proofs.Ytageojkepoejiaa
