/-
  Contract of FormatInt, the reference's.
  Slices of strings that a call owns; strings glued; contract of strings.Join in these words.
  Contracts of FormatPerm, the program's and the reference's, at permutations.
-/
import Derived.Test.YtdpjcjnednmoeaaBuM16
import Derived.Test.YtdpjcjnednmoeaaBuM2
import Derived.Laws.IdiomStrings
import Derived.Deep.LoopGhost
import Derived.Test.YtdpjcjnednmoeaaBuM1
import Derived.Test.YtdpjcjnednmoeaaBuM3
namespace Go.Proofs.Ytdpjcjnednmoeaa
open Go.RowKit

def u8s (bs : List UInt8) : List Value := bs.map fun b => Value.int .u8 (b.toNat : Int)
/-- the slice of bytes is a row of the call's own, in a block from B on and below S -/
def BO (w : World) (B S : Nat) (a : Option Addr) (n c : Nat) (bs : List UInt8) : Prop :=
  w.ownsRow B 5 1 (.slice a n c) n (u8s bs) ∧ ∀ k, (Value.slice a n c).ownBlock = some k → k < S
theorem BO.mk {w : World} {B : Nat} {a : Option Addr} {n c : Nat} {bs : List UInt8} (h : w.ownsRow B 5 1 (.slice a n c) n (u8s bs)) : BO w B w.heap.size a n c bs := ⟨h, fun k hk => (h.lt k hk).2⟩
theorem BO.len {w : World} {B S : Nat} {a : Option Addr} {n c : Nat} {bs : List UInt8} (h : BO w B S a n c bs) : bs.length = n := by have := h.1.1; simpa [u8s] using this
theorem BO.lo {w : World} {B S : Nat} {a : Option Addr} {n c : Nat} {bs : List UInt8} (h : BO w B S a n c bs) : ∀ k, (Value.slice a n c).ownBlock = some k → B ≤ k := fun k hk => (h.1.lt k hk).1
theorem BO.cons {w : World} {B S : Nat} {a : Option Addr} {n c : Nat} {bs : List UInt8} (h : BO w B S a n c bs) {j : Nat} (hj : j < n) :
    ∃ g, a = some ⟨g, 0, none⟩ ∧ ∃ b, bs[j]? = some b ∧ w.cell? ⟨g, j, none⟩ = some (.int .u8 (b.toNat : Int)) := by
  have hl := h.len
  have h' := h.1
  rcases h.1.2 with ⟨_, h2⟩ | ⟨g, cap, cur, hv, hb, _⟩
  · omega
  · simp only [Value.slice.injEq] at hv
    obtain ⟨rfl, _, rfl⟩ := hv
    refine ⟨g, rfl, bs[j]'(by omega), List.getElem?_eq_getElem (by omega), ?_⟩
    rw [h'.cellAt j (by omega)]
    unfold u8s
    rw [List.getElem?_map, List.getElem?_eq_getElem (by omega)]
    rfl
theorem BO.only {w w' : World} {B S B' S' : Nat} {a : Option Addr} {n c : Nat} {bs : List UInt8} (h : BO w B S a n c bs) (ho : Only B' S' w w') (hd : S ≤ B' ∨ S' ≤ B) : BO w' B S a n c bs := by
  refine ⟨⟨h.1.1, ?_⟩, h.2⟩
  have hh := h.2
  have hl := h.lo
  rcases h.1.2 with h2 | ⟨g, cap, cur, hv, hg, hb, r⟩
  · exact .inl h2
  · simp only [Value.slice.injEq] at hv
    obtain ⟨rfl, _, rfl⟩ := hv
    have h1 := hh g rfl
    have h3 := hl g rfl
    exact .inr ⟨g, c, cur, rfl, hg, by rw [ho.block g (Array.getElem?_eq_some_iff.1 hb).1 (by omega)]; exact hb, r⟩
theorem BO.made (w : World) : BO (w.alloc (.cells #[] 5)) w.heap.size (w.alloc (.cells #[] 5)).heap.size (some ⟨w.heap.size, 0, none⟩) 0 0 [] :=
  BO.mk (World.ownsRow_made _ #[] 0 (Nat.le_refl _) (Nat.zero_le _) rfl)
theorem Try.info5 : (Try.prog.info? 5).map (fun i => (i.zero, i.size, i.bytes)) = some (some (.int .u8 0), 1, 1) := by kernel_rfl
/-- append of one byte -/
theorem wpList_pushU {w : World} {W : World} {x0 : Int} {b0 : UInt8} (hW : W = w.alloc (.cells #[.int .u8 x0] 5)) (hx0 : x0 = (b0.toNat : Int)) {ops : Array Oper} {rest : List Oper} {o : Oper} {ac : Act} {Q : Exit → Act → World → Prop} (hgd : o.guard = none) (s x : Operand)
    (ho : o.op = .call { callee := .builtin .append, args := #[s, x], argTypes := #[22, 22] })
    {B S : Nat} {a : Option Addr} {n c : Nat} {bs : List UInt8} (hown : BO w B S a n c bs) (hs : ac.eval s = .slice a n c)
    (hx : ac.eval x = .slice (some ⟨w.heap.size, 0, none⟩) 1 1) (hn : n + 1 ≤ 16777216) (hbase : B ≤ w.heap.size)
    (h : ∀ a' c' w', BO w' B w'.heap.size a' (n + 1) c' (bs ++ [b0]) → Grows w w' (.slice a n c) (.slice a' (n + 1) c') → wpList Try.prog ops Q rest (ac.put o.dst (.slice a' (n + 1) c')) w') :
    wpList Try.prog ops Q (o :: rest) ac W := by
  subst hW hx0
  obtain ⟨i0, hi, hz0, hz1, hz2⟩ := info_parts Try.info5
  refine wpList_app _ hgd s x 22 ho B 5 i0 (.int .u8 0) 1 Try.underlying22 hi hz0 hz1 hz2 rfl _ n (u8s bs) hs (hown.1.alloc _) _ 1 1 [.int .u8 (b0.toNat : Int)] hx rfl (by simp) ?_ ?_ hn (by omega) (by simp; omega) ?_
  · intro ad had j u hu
    obtain rfl := Option.some.inj had
    match j, hu with
    | 0, hu => simp at hu; subst hu; simp [Addr.add]
  · intro u hu; simp at hu; subst hu; rfl
  · intro a' c' w' h2 h3
    exact h a' c' w' (BO.mk (by simpa [u8s] using h2)) ((Grows.of_below _ ((Below.refl _ _).alloc (Nat.le_refl _) _)).trans h3)

/-- the digits, the least first -/
def lsd (m : Nat) : List Nat := (digits m m).reverse
theorem lsd_small {m : Nat} (h : m < 10) : lsd m = [m] := by rw [lsd, digits_small h]; rfl
theorem lsd_big {m : Nat} (h : ¬ m < 10) : lsd m = (m % 10) :: lsd (m / 10) := by rw [lsd, digits_big h]; simp [lsd]
theorem lsd_step (q : Nat) : ∃ t, lsd q = (q % 10) :: t ∧ ((t = [] ∧ q / 10 = 0) ∨ (t = lsd (q / 10) ∧ q / 10 ≠ 0)) := by
  by_cases h : q < 10
  · exact ⟨[], by rw [lsd_small h, Nat.mod_eq_of_lt h], .inl ⟨rfl, by omega⟩⟩
  · exact ⟨_, lsd_big h, .inr ⟨rfl, by omega⟩⟩
theorem glyph_nat {d : Nat} (h : d < 10) : ((glyph d).toNat : Int) = 48 + (d : Int) := by
  have h1 : (List.range 10).all (fun d => decide (((glyph d).toNat : Int) = 48 + (d : Int))) = true := by decide +kernel
  rw [List.all_eq_true] at h1
  exact of_decide_eq_true (h1 d (by rw [List.mem_range]; exact h))
theorem lsd_len {m : Nat} (h : m ≤ 9223372036854775808) : (lsd m).length ≤ 19 := by
  have h3 : (10 : Nat) ^ 19 = 10000000000000000000 := by rfl
  have := digits_len 19 m m (by omega) (by omega)
  simpa [lsd] using this
def outs (pre D : List UInt8) (j : Nat) : List UInt8 := pre ++ (D.drop j).reverse
theorem outs_all {pre D : List UInt8} {l : Nat} (h : D.length = l) : outs pre D l = pre := by unfold outs; rw [List.drop_of_length_le (by omega)]; simp
theorem outs_zero (pre D : List UInt8) : outs pre D 0 = pre ++ D.reverse := rfl
theorem outs_step {pre D : List UInt8} {t : Nat} {b : UInt8} (h : D[t]? = some b) : outs pre D (t + 1) ++ [b] = outs pre D t := by
  obtain ⟨ht, hb2⟩ := List.getElem?_eq_some_iff.1 h
  unfold outs
  rw [List.drop_eq_getElem_cons ht, hb2]
  simp
/-- what is still to come -/
def Todo (m : Nat) (ds : List Nat) (q g : Nat) : Prop :=
  ∃ t, lsd m = ds ++ t ∧ t.length = g ∧ ((t = [] ∧ q = 0 ∧ ds ≠ []) ∨ (t = lsd q ∧ (q ≠ 0 ∨ ds = [])))
theorem Todo.start (m : Nat) : Todo m [] m (lsd m).length := ⟨lsd m, rfl, rfl, .inr ⟨rfl, .inr rfl⟩⟩
theorem Todo.done {m q : Nat} {ds : List Nat} {g : Nat} (h : Todo m ds q g) (hq : q = 0) (hd : ds ≠ []) : lsd m = ds := by
  obtain ⟨t, h1, _, ⟨rfl, _⟩ | ⟨_, h3 | h3⟩⟩ := h
  · simpa using h1
  · exact absurd hq h3
  · exact absurd h3 hd
theorem Todo.next {m q : Nat} {ds : List Nat} {g : Nat} (h : Todo m ds q g) (hc : q ≠ 0 ∨ ds = []) : ∃ g', g = g' + 1 ∧ Todo m (ds ++ [q % 10]) (q / 10) g' := by
  obtain ⟨t, h1, h2, ⟨rfl, h3, h4⟩ | ⟨rfl, _⟩⟩ := h
  · rcases hc with h5 | h5
    · exact absurd h3 h5
    · exact absurd h5 h4
  · obtain ⟨t', e1, e2⟩ := lsd_step q
    refine ⟨t'.length, by rw [← h2, e1]; rfl, t', by rw [h1, e1]; simp, rfl, ?_⟩
    rcases e2 with ⟨e3, e4⟩ | ⟨e3, e4⟩
    · exact .inl ⟨e3, e4, by simp⟩
    · exact .inr ⟨e3, .inl e4⟩
theorem Todo.len {m q : Nat} {ds : List Nat} {g : Nat} (h : Todo m ds q g) : ds.length ≤ (lsd m).length := by
  obtain ⟨t, h1, _⟩ := h
  rw [h1, List.length_append]; omega

/-- a number that stands for q, with a sign -/
def Signed (neg : Bool) (q : Nat) (K : Int) : Prop := K = if neg then -(q : Int) else (q : Int)
end Go.Proofs.Ytdpjcjnednmoeaa

namespace Go.Proofs.Ytdpjcjnednmoeaa
open Go.RowKit

def strs (l : List ByteArray) : List Value := l.map Value.string
/-- the slice of strings is a row of the call's own, in a block from B on and below S -/
def SO (w : World) (B S : Nat) (a : Option Addr) (n c : Nat) (l : List ByteArray) : Prop :=
  w.ownsRow B 9 1 (.slice a n c) n (strs l) ∧ ∀ k, (Value.slice a n c).ownBlock = some k → k < S
theorem SO.mk {w : World} {B : Nat} {a : Option Addr} {n c : Nat} {l : List ByteArray} (h : w.ownsRow B 9 1 (.slice a n c) n (strs l)) : SO w B w.heap.size a n c l := ⟨h, fun k hk => (h.lt k hk).2⟩
theorem SO.len {w : World} {B S : Nat} {a : Option Addr} {n c : Nat} {l : List ByteArray} (h : SO w B S a n c l) : l.length = n := by have := h.1.1; simpa [strs] using this
theorem SO.lo {w : World} {B S : Nat} {a : Option Addr} {n c : Nat} {l : List ByteArray} (h : SO w B S a n c l) : ∀ k, (Value.slice a n c).ownBlock = some k → B ≤ k := fun k hk => (h.1.lt k hk).1
theorem SO.only {w w' : World} {B S B' S' : Nat} {a : Option Addr} {n c : Nat} {l : List ByteArray} (h : SO w B S a n c l) (ho : Only B' S' w w') (hd : S ≤ B' ∨ S' ≤ B) : SO w' B S a n c l := by
  refine ⟨⟨h.1.1, ?_⟩, h.2⟩
  have hh := h.2
  have hl := h.lo
  rcases h.1.2 with h2 | ⟨g, cap, cur, hv, hg, hb, r⟩
  · exact .inl h2
  · simp only [Value.slice.injEq] at hv
    obtain ⟨rfl, _, rfl⟩ := hv
    have h1 := hh g rfl
    have h3 := hl g rfl
    exact .inr ⟨g, c, cur, rfl, hg, by rw [ho.block g (Array.getElem?_eq_some_iff.1 hb).1 (by omega)]; exact hb, r⟩
theorem SO.below {w w' : World} {B S : Nat} {a : Option Addr} {n c : Nat} {l : List ByteArray} (h : SO w B S a n c l) (hb : Below w.heap.size w w') : SO w' B S a n c l := h.only (Only.of_below hb) (.inr (Nat.zero_le _))
theorem SO.mono {w : World} {B S S' : Nat} {a : Option Addr} {n c : Nat} {l : List ByteArray} (h : SO w B S a n c l) (hS : S ≤ S') : SO w B S' a n c l := ⟨h.1, fun k hk => Nat.lt_of_lt_of_le (h.2 k hk) hS⟩
theorem SO.made (w : World) : SO (w.alloc (.cells #[] 9)) w.heap.size (w.alloc (.cells #[] 9)).heap.size (some ⟨w.heap.size, 0, none⟩) 0 0 [] :=
  SO.mk (World.ownsRow_made _ #[] 0 (Nat.le_refl _) (Nat.zero_le _) rfl)
theorem Try.info9 : (Try.prog.info? 9).map (fun i => (i.zero, i.size, i.bytes)) = some (some (.string ⟨#[]⟩), 1, 16) := by kernel_rfl
/-- the first k, with sep between them -/
def glue (sep : ByteArray) (l : List ByteArray) : Nat → ByteArray
  | 0 => ⟨#[]⟩
  | k + 1 => (if k = 0 then ⟨#[]⟩ else glue sep l k ++ sep) ++ l.getD k ⟨#[]⟩
theorem glue_zero (sep : ByteArray) (l : List ByteArray) : glue sep l 0 = ⟨#[]⟩ := rfl
theorem glue_first (sep : ByteArray) {l : List ByteArray} {x : ByteArray} (h : l[0]? = some x) : glue sep l 1 = x := by
  rw [glue, if_pos rfl, empty_append, List.getD_eq_getElem?_getD, h]; rfl
theorem glue_next (sep : ByteArray) {l : List ByteArray} {x : ByteArray} {k : Nat} (hk : k ≠ 0) (h : l[k]? = some x) : glue sep l (k + 1) = glue sep l k ++ sep ++ x := by
  rw [glue, if_neg hk, List.getD_eq_getElem?_getD, h]; rfl
theorem glue_size (sep : ByteArray) (l : List ByteArray) (M : Nat) (h : ∀ s ∈ l, s.size ≤ M) : ∀ k, (glue sep l k).size ≤ k * (M + sep.size) := by
  intro k
  induction k with
  | zero => rw [glue_zero]; exact Nat.zero_le _
  | succ k ih =>
    have h1 : (l.getD k ⟨#[]⟩).size ≤ M := by
      rw [List.getD_eq_getElem?_getD]
      cases hx : l[k]? with
      | none => exact Nat.zero_le _
      | some x => exact h x (List.mem_of_getElem? hx)
    rw [glue, append_size, Nat.succ_mul]
    split
    · have : (⟨#[]⟩ : ByteArray).size = 0 := rfl
      omega
    · rw [append_size]; omega
def raw (s : ByteArray) : List UInt8 := s.data.toList
theorem raw_append (a b : ByteArray) : raw (a ++ b) = raw a ++ raw b := by simp [raw, ByteArray.data_append]
theorem glue_raw (sep x : ByteArray) (r : List ByteArray) : ∀ k, k ≤ r.length → raw (glue sep (x :: r) (k + 1)) = raw x ++ Lib.joinTail (raw sep) ((r.take k).map raw) := by
  intro k
  induction k with
  | zero => intro _; rw [glue_first sep (x := x) rfl]; simp [Lib.joinTail]
  | succ k ih =>
    intro hk
    obtain ⟨y, hy⟩ : ∃ y, r[k]? = some y := ⟨r[k], List.getElem?_eq_getElem (by omega)⟩
    rw [glue_next sep (x := y) (by omega) (by simpa using hy), raw_append, raw_append, ih (by omega), List.take_add_one, hy]
    simp [Lib.joinTail]
theorem glue_join (sep : ByteArray) (l : List ByteArray) : (⟨(Lib.join (l.map (·.data.toList)) sep.data.toList).toArray⟩ : ByteArray) = glue sep l l.length := by
  have e : ∀ s : ByteArray, (⟨(raw s).toArray⟩ : ByteArray) = s := fun s => by apply ByteArray.ext; simp [raw]
  cases l with
  | nil => rfl
  | cons x r =>
    rw [← e (glue sep (x :: r) (x :: r).length), List.length_cons, glue_raw sep x r r.length (Nat.le_refl _), List.take_length]
    rw [List.map_cons, Lib.join_cons]
    rfl
end Go.Proofs.Ytdpjcjnednmoeaa

namespace Go.Proofs.Ytdpjcjnednmoeaa
open Go.RowKit

def permBytes (s : List Int) : List UInt8 := s.map fun x => glyph (x + 1).toNat
def permPre (s : List Int) (k : Nat) : ByteArray := ⟨((permBytes s).take k).toArray⟩
def permText (s : List Int) : ByteArray := ⟨(permBytes s).toArray⟩
theorem permBytes_length (s : List Int) : (permBytes s).length = s.length := by simp [permBytes]
theorem permBytes_at {s : List Int} {k : Nat} {x : Int} (h : s[k]? = some x) : (permBytes s)[k]? = some (glyph (x + 1).toNat) := by
  rw [permBytes, List.getElem?_map, h]; rfl
theorem permPre_zero (s : List Int) : permPre s 0 = ⟨#[]⟩ := rfl
theorem permPre_all {s : List Int} {n : Nat} (h : s.length = n) : permPre s n = permText s := by
  unfold permPre permText
  rw [List.take_of_length_le (by rw [permBytes_length, h]; exact Nat.le_refl _)]
theorem permPre_size (s : List Int) (k : Nat) : (permPre s k).size ≤ k := by
  simp only [permPre, ByteArray.size, List.size_toArray, List.length_take]
  omega
theorem permPre_step {s : List Int} {k : Nat} {x : Int} (h : s[k]? = some x) : permPre s k ++ text [(x + 1).toNat] = permPre s (k + 1) := by
  apply ByteArray.ext
  simp [permPre, text, ByteArray.data_append, List.take_add_one, permBytes_at h]
theorem permText_size {s : List Int} : (permText s).size = s.length := by
  simp [permText, ByteArray.size, permBytes_length]
theorem perm_digit {s : List Int} {n : Nat} (hp : isPerm s = true) (hn : s.length = n) {k : Nat} {x : Int} (h : s[k]? = some x) : 0 ≤ x ∧ x ≤ 6 := by
  have h1 := isPerm_iff s
  rw [hp] at h1
  obtain ⟨h2, h3, h4, _⟩ := h1.1 rfl
  have := h4 x (List.mem_of_getElem? h)
  omega

set_option maxRecDepth 100000 in
set_option maxHeartbeats 1600000 in
theorem implFmtPerm_any (a : Option Addr) (n c : Nat) (xs : List Int) (w : World) (hr : RI w a xs) (hn : xs.length = n) (hb : n ≤ 1048576) (hp : isPerm xs = true) :
    Calls Try.prog 42 #[.slice a n c] w fun e w' => e = .returned (.string (permText xs)) ∧ Below w.heap.size w w' := by
  have hpl := perm_len hp
  rw [hn] at hpl
  have Hn := Lib.hid hn; clear hn
  have Hp := Lib.hid hp; clear hp
  go_enter Try.func42, Try.ntmps42
  go_wp2_with fail
  refine (is (implIsPerm_any _ _ _ xs _ hr Hn.out (by omega)) Hp.out).mono ?_
  rintro e w1 ⟨rfl, hB1⟩
  have hr1 := hr.below hB1
  go_wp2
  go_loopw [3, 11] (fun s i wr => Hid (∃ k : Nat, k ≤ n ∧ i = .int .i64 k ∧ s = .string (permPre xs k)) ∧ Below w.heap.size w wr ∧ RI wr a xs) (fun _ i _ => n - (intOf i).toNat)
  case atStart => exact ⟨⟨0, Nat.zero_le _, rfl, rfl⟩, hB1, hr1⟩
  case round =>
    clear hB1 hr1
    obtain ⟨HV, hB, hr1⟩ := hrel
    obtain ⟨wo, rfl⟩ : ∃ wo : World, wo = wr := ⟨_, rfl⟩
    obtain ⟨k, hk, rfl, rfl⟩ := HV.out
    clear HV
    by_cases hlt : k < n
    · obtain ⟨b, off, rfl, hcell⟩ := hr1.at (k := k) (by rw [Hn.out]; exact hlt)
      obtain ⟨x, hx⟩ := some_at Hn.out hlt
      have hc := hcell k x hx
      obtain ⟨x0, x6⟩ := perm_digit Hp.out Hn.out hx
      have hst := permPre_step hx
      have hfm : fmt (x + 1) = text [(x + 1).toNat] := by
        have h1 := fmt_small (m := (x + 1).toNat) (by omega)
        rw [show (((x + 1).toNat : Nat) : Int) = x + 1 by omega] at h1
        exact h1
      have hus := permPre_size xs k
      have hqs : (text [(x + 1).toNat]).size = 1 := text_size _
      have hspec := implFmt_any (x + 1) (by omega) (by omega) wo
      rw [hfm] at hspec
      generalize text [(x + 1).toNat] = q at hst hqs hspec
      generalize permPre xs k = u at hst hus ⊢
      have Hst := Lib.hid hst
      have HS := Lib.hid hspec
      have q1 : (k : Int) < (n : Int) := by omega
      have hz : ¬ 9223372036854775807 < u.size + q.size := by omega
      clear hcell hx hst hfm hspec
      go_wp2_with fail
      refine HS.out.mono ?_
      rintro e w2 ⟨rfl, rfl⟩
      go_wp2
      go_roundw
      case rel => exact ⟨⟨k + 1, by omega, by go_num, by rw [Hst.out]⟩, hB, hr1⟩
      case measure => simp [intOf]; omega
    · obtain rfl : k = n := by omega
      rw [permPre_all Hn.out]
      go_wp2
      go_ret
      exact ⟨rfl, hB⟩
end Go.Proofs.Ytdpjcjnednmoeaa
