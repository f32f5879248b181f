/-
  Contract of strings.Join; given by the kit's shelf: Any.strings_Join.
  Contract of FormatInt, the program's.
  Contract of FormatInt, the reference's.
  Slices of strings that a call owns; strings glued; contract of strings.Join in these words.
  Contracts of FormatInts, the program's and the reference's.
-/
import Derived.Test.YtcminkcoifkbgaaGreatDoorBase
import Derived.Shelf.Strings.OnBuilder
import Derived.Test.YtcminkcoifkbgaaGreatDoorBuA
import Derived.Laws.IdiomStrings
import Derived.Deep.LoopGhost
namespace Go.Proofs.YtcminkcoifkbgaaGreatDoor
open Go.RowKit Go.Shelf

def renJoin : Ren :=
  ⟨fun k => if k = 156 then 28 else if k = 165 then 47 else if k = 166 then 48 else if k = 169 then 49 else if k = 240 then 67 else if k = 241 then 68 else if k = 276 then 84 else if k = 277 then 85 else k,
   fun k => if k = 5 then 5 else if k = 20 then 20 else if k = 31 then 40 else if k = 37 then 22 else if k = 70 then 71 else if k = 72 then 73 else if k = 75 then 76 else if k = 76 then 77 else if k = 80 then 79 else if k = 127 then 95 else if k = 164 then 109 else k, fun k => k⟩
theorem laysJoin : Lays.n156 Tryz.prog renJoin where
  mixed := by kernel_rfl
  f156 := by kernel_rfl
  f165 := by kernel_rfl
  f166 := by kernel_rfl
  f169 := by kernel_rfl
  f240 := by kernel_rfl
  f241 := by kernel_rfl
  f276 := by kernel_rfl
  f277 := by kernel_rfl
  t0 := by kernel_rfl
  a0 := fun w => by kernel_rfl
  z0 := fun w => by kernel_rfl
  v0 := fun w => by kernel_rfl
  t3 := by kernel_rfl
  a3 := fun w => by kernel_rfl
  z3 := fun w => by kernel_rfl
  v3 := fun w => by kernel_rfl
  t4 := by kernel_rfl
  a4 := fun w => by kernel_rfl
  z4 := fun w => by kernel_rfl
  v4 := fun w => by kernel_rfl
  t9 := by kernel_rfl
  a9 := fun w => by kernel_rfl
  z9 := fun w => by kernel_rfl
  v9 := fun w => by kernel_rfl
  t20 := by kernel_rfl
  a20 := fun w => by kernel_rfl
  z20 := fun w => by kernel_rfl
  v20 := fun w => by kernel_rfl
  t31 := by kernel_rfl
  a31 := fun w => by kernel_rfl
  z31 := fun w => by kernel_rfl
  v31 := fun w => by kernel_rfl
  t37 := by kernel_rfl
  a37 := fun w => by kernel_rfl
  z37 := fun w => by kernel_rfl
  v37 := fun w => by kernel_rfl
  t70 := by kernel_rfl
  a70 := fun w => by kernel_rfl
  z70 := fun w => by kernel_rfl
  v70 := fun w => by kernel_rfl
  t72 := by kernel_rfl
  a72 := fun w => by kernel_rfl
  z72 := fun w => by kernel_rfl
  v72 := fun w => by kernel_rfl
  t75 := by kernel_rfl
  a75 := fun w => by kernel_rfl
  z75 := fun w => by kernel_rfl
  v75 := fun w => by kernel_rfl
  t76 := by kernel_rfl
  a76 := fun w => by kernel_rfl
  z76 := fun w => by kernel_rfl
  v76 := fun w => by kernel_rfl
  t127 := by kernel_rfl
  a127 := fun w => by kernel_rfl
  z127 := fun w => by kernel_rfl
  v127 := fun w => by kernel_rfl
  t164 := by kernel_rfl
  a164 := fun w => by kernel_rfl
  z164 := fun w => by kernel_rfl
  v164 := fun w => by kernel_rfl
theorem extraJoin : Builder.Extra Tryz.prog renJoin where
  sizeBuilder := by kernel_rfl
  liesBuilder := by kernel_rfl
  t5 := by kernel_rfl
  a5 := fun w => by kernel_rfl
  z5 := fun w => by kernel_rfl
  v5 := fun w => by kernel_rfl
  infoByte := by kernel_rfl
  cellsByte := by kernel_rfl
  sizeByte := by kernel_rfl
  neB5 := by decide
end Go.Proofs.YtcminkcoifkbgaaGreatDoor

namespace Go.Proofs.YtcminkcoifkbgaaGreatDoor
open Go.RowKit

/-- the digits of a number, the greatest first -/
def digits : Nat → Nat → List Nat
  | 0, m => [m]
  | f + 1, m => if m < 10 then [m] else digits f (m / 10) ++ [m % 10]
theorem digits_small {m : Nat} (h : m < 10) (f : Nat) : digits f m = [m] := by
  cases f with
  | zero => rfl
  | succ f => rw [digits, if_pos h]
theorem digits_fuel : ∀ (f g m : Nat), m ≤ f → m ≤ g → digits f m = digits g m := by
  intro f
  induction f with
  | zero => intro g m h1 h2; rw [digits_small (by omega), digits_small (by omega)]
  | succ f ih =>
    intro g m h1 h2
    by_cases hm : m < 10
    · rw [digits_small hm, digits_small hm]
    · cases g with
      | zero => omega
      | succ g => rw [digits, if_neg hm, digits, if_neg hm, ih g (m / 10) (by omega) (by omega)]
theorem digits_big {m : Nat} (h : ¬ m < 10) : digits m m = digits (m / 10) (m / 10) ++ [m % 10] := by
  obtain ⟨f, rfl⟩ : ∃ f, m = f + 1 := ⟨m - 1, by omega⟩
  rw [digits, if_neg h, digits_fuel f ((f + 1) / 10) ((f + 1) / 10) (by omega) (Nat.le_refl _)]
def glyph (d : Nat) : UInt8 := UInt8.ofNat (48 + d)
def text (ds : List Nat) : ByteArray := ⟨(ds.map glyph).toArray⟩
def minus : ByteArray := ⟨#[45]⟩
def fmt (n : Int) : ByteArray := (if n < 0 then minus else ⟨#[]⟩) ++ text (digits n.natAbs n.natAbs)
theorem text_append (a b : List Nat) : text a ++ text b = text (a ++ b) := by
  apply ByteArray.ext
  simp [text, ByteArray.data_append]
theorem empty_append (s : ByteArray) : (⟨#[]⟩ : ByteArray) ++ s = s := by
  apply ByteArray.ext
  simp [ByteArray.data_append]
theorem append_assoc (a b c : ByteArray) : a ++ b ++ c = a ++ (b ++ c) := by
  apply ByteArray.ext
  simp [ByteArray.data_append]
theorem digits_len : ∀ (k f m : Nat), 0 < k → m < 10 ^ k → (digits f m).length ≤ k := by
  intro k
  induction k with
  | zero => intro f m h; omega
  | succ k ih =>
    intro f m _ h2
    cases f with
    | zero => simp [digits]
    | succ f =>
      rw [digits]
      split
      · simp
      · rename_i hm
        have hk : 0 < k := by
          rcases Nat.eq_zero_or_pos k with h | h
          · subst h; simp at h2; omega
          · exact h
        have h3 : m / 10 < 10 ^ k := by rw [Nat.pow_succ] at h2; omega
        have := ih f (m / 10) hk h3
        simp; omega
theorem text_size (ds : List Nat) : (text ds).size = ds.length := by simp [text, ByteArray.size]
theorem append_size (a b : ByteArray) : (a ++ b).size = a.size + b.size := by
  show (a ++ b).data.size = a.data.size + b.data.size
  rw [ByteArray.data_append, Array.size_append]
theorem fmt_size {n : Int} (h : -9223372036854775808 ≤ n ∧ n ≤ 9223372036854775807) : (fmt n).size ≤ 20 := by
  have h2 : n.natAbs ≤ 9223372036854775808 := by omega
  have h3 : (10 : Nat) ^ 19 = 10000000000000000000 := by rfl
  have h1 := digits_len 19 n.natAbs n.natAbs (by omega) (by omega)
  rw [fmt, append_size, text_size]
  split
  · have : minus.size = 1 := rfl
    omega
  · have : (⟨#[]⟩ : ByteArray).size = 0 := rfl
    omega
theorem encode_digit {d : Nat} (h : d < 10) : Utf8.encode (48 + (d : Int)) = text [d] := by
  have h1 : (List.range 10).all (fun d => decide (Utf8.encode (48 + (d : Int)) = text [d])) = true := by decide +kernel
  rw [List.all_eq_true] at h1
  exact of_decide_eq_true (h1 d (by rw [List.mem_range]; exact h))
theorem fmt_small {m : Nat} (h : m < 10) : fmt (m : Int) = text [m] := by
  have e : ¬ ((m : Int) < 0) := by omega
  rw [fmt, if_neg e, empty_append, Int.natAbs_natCast, digits_small h]
theorem fmt_nat (m : Nat) : fmt (m : Int) = text (digits m m) := by
  have e : ¬ ((m : Int) < 0) := by omega
  rw [fmt, if_neg e, empty_append, Int.natAbs_natCast]
theorem fmt_neg {m : Nat} (h : 0 < m) : fmt (-(m : Int)) = minus ++ text (digits m m) := by
  have e : (-(m : Int)) < 0 := by omega
  rw [fmt, if_pos e, Int.natAbs_neg, Int.natAbs_natCast]

set_option maxRecDepth 100000 in
set_option maxHeartbeats 1600000 in
theorem implFmt_digit (m : Nat) (h : m < 10) (w : World) :
    Calls Tryz.prog 25 #[.int .i64 (m : Int)] w fun e w' => e = .returned (.string (fmt (m : Int))) ∧ w = w' := by
  have h0 : (m : Int) < 10 := by omega
  have h1 : ¬ ((m : Int) < 0) := by omega
  have H := Lib.hid ((encode_digit h).trans (fmt_small h).symm)
  go_enter Tryz.func25, Tryz.ntmps25
  go_wp2
  go_ret
  exact ⟨by simp [← H.out], rfl⟩
theorem digit_at (M : Int) (m : Nat) (hM : M = (m : Int)) (h : m < 10) (w : World) :
    Calls Tryz.prog 25 #[.int .i64 M] w fun e w' => e = .returned (.string (fmt (m : Int))) ∧ w = w' := by subst hM; exact implFmt_digit m h w
set_option maxRecDepth 100000 in
set_option maxHeartbeats 1600000 in
theorem implFmt_nat : ∀ (B m : Nat) (w : World), m ≤ B → m ≤ 9223372036854775807 →
    Calls Tryz.prog 25 #[.int .i64 (m : Int)] w fun e w' => e = .returned (.string (fmt (m : Int))) ∧ w = w' := by
  intro B
  induction B with
  | zero => intro m w hB _; exact implFmt_digit m (by omega) w
  | succ B ih =>
    intro m w hB hu
    by_cases h : m < 10
    · exact implFmt_digit m h w
    · have h1 : ¬ ((m : Int) < 0) := by omega
      have H := Lib.hid (show fmt ((m / 10 : Nat) : Int) ++ Utf8.encode (48 + ((m % 10 : Nat) : Int)) = fmt (m : Int) by
        rw [encode_digit (by omega), fmt_nat, fmt_nat, text_append, ← digits_big h])
      obtain ⟨q, hq⟩ : ∃ q, fmt ((m / 10 : Nat) : Int) = q := ⟨_, rfl⟩
      have hih : ∀ N : Int, N = ((m / 10 : Nat) : Int) → Calls Tryz.prog 25 #[.int .i64 N] w fun e w' => e = .returned (.string q) ∧ w = w' := by
        intro N hN; subst hN; rw [← hq]; exact ih (m / 10) w (by omega) (by omega)
      have hqs : q.size ≤ 20 := by rw [← hq]; exact fmt_size (by omega)
      rw [hq] at H
      have HI := Lib.hid hih
      have h3 : (10 : Int) ≤ (m : Int) := by omega
      have h4 : (m : Int) ≤ 9223372036854775807 := by omega
      have em : ((m % 10 : Nat) : Int) = (m : Int) % 10 := by omega
      rw [em] at H
      have hes : (Utf8.encode (48 + (m : Int) % 10)).size = 1 := by rw [← em, encode_digit (by omega), text_size]; rfl
      clear ih hih hB hq em
      obtain ⟨n, hn⟩ : ∃ n : Int, (m : Int) = n := ⟨_, rfl⟩
      have Hn := Lib.hid hn
      rw [hn] at h1 h3 h4 hes H ⊢
      clear hn
      have hns : ¬ 9223372036854775807 < q.size + (Utf8.encode (48 + n % 10)).size := by omega
      clear hes
      go_enter Tryz.func25, Tryz.ntmps25
      go_wp2_with fail
      refine (HI.out (n / 10) (by rw [← Hn.out]; omega)).mono ?_
      rintro e w1 ⟨rfl, rfl⟩
      go_wp2
      go_ret
      exact ⟨by rw [← H.out]; rfl, rfl⟩
theorem implFmt_at (N : Int) (m : Nat) (hN : N = (m : Int)) (h : m ≤ 9223372036854775807) (w : World) :
    Calls Tryz.prog 25 #[.int .i64 N] w fun e w' => e = .returned (.string (fmt (m : Int))) ∧ w = w' := by subst hN; exact implFmt_nat m m w (Nat.le_refl _) h

set_option maxRecDepth 100000 in
set_option maxHeartbeats 1600000 in
theorem implFmt_neg : ∀ (B m : Nat) (w : World), m ≤ B → 0 < m → m ≤ 9223372036854775808 →
    Calls Tryz.prog 25 #[.int .i64 (-(m : Int))] w fun e w' => e = .returned (.string (fmt (-(m : Int)))) ∧ w = w' := by
  intro B
  induction B with
  | zero => intro m w hB h0 _; omega
  | succ B ih =>
    intro m w hB h0 hu
    by_cases h : m < 10
    · obtain ⟨q, hq⟩ : ∃ q, fmt (m : Int) = q := ⟨_, rfl⟩
      have H := Lib.hid (show minus ++ q = fmt (-(m : Int)) by rw [← hq, fmt_neg h0, fmt_nat])
      have hqs : q.size ≤ 20 := by rw [← hq]; exact fmt_size (by omega)
      have HI := Lib.hid (show ∀ N : Int, N = (m : Int) → Calls Tryz.prog 25 #[.int .i64 N] w fun e w' => e = .returned (.string q) ∧ w = w' by
        intro N hN; rw [← hq]; exact digit_at N m hN h w)
      have hns : ¬ 9223372036854775807 < (⟨#[45]⟩ : ByteArray).size + q.size := by have : (⟨#[45]⟩ : ByteArray).size = 1 := rfl; omega
      clear ih hB hq hqs
      obtain ⟨n, hn⟩ : ∃ n : Int, -(m : Int) = n := ⟨_, rfl⟩
      have Hn := Lib.hid hn
      have h1 : n < 0 := by omega
      have h2 : -10 < n := by omega
      rw [hn] at H ⊢
      clear hn
      go_enter Tryz.func25, Tryz.ntmps25
      go_wp2_with fail
      refine (HI.out _ (by have := Hn.out; omega)).mono ?_
      rintro e w1 ⟨rfl, rfl⟩
      go_wp2
      go_ret
      exact ⟨by rw [← H.out]; rfl, rfl⟩
    · obtain ⟨q, hq⟩ : ∃ q, fmt (-((m / 10 : Nat) : Int)) = q := ⟨_, rfl⟩
      obtain ⟨r, hrr⟩ : ∃ r, fmt ((m % 10 : Nat) : Int) = r := ⟨_, rfl⟩
      have H := Lib.hid (show q ++ r = fmt (-(m : Int)) by rw [← hq, ← hrr, fmt_neg h0, fmt_neg (by omega), fmt_small (by omega), append_assoc, text_append, ← digits_big h])
      have hqs : q.size ≤ 20 := by rw [← hq]; exact fmt_size (by omega)
      have hrs : r.size ≤ 20 := by rw [← hrr]; exact fmt_size (by omega)
      have HI := Lib.hid (show ∀ N : Int, N = -((m / 10 : Nat) : Int) → Calls Tryz.prog 25 #[.int .i64 N] w fun e w' => e = .returned (.string q) ∧ w = w' by
        intro N hN; subst hN; rw [← hq]; exact ih (m / 10) w (by omega) (by omega) (by omega))
      have HJ := Lib.hid (show ∀ N : Int, N = ((m % 10 : Nat) : Int) → Calls Tryz.prog 25 #[.int .i64 N] w fun e w' => e = .returned (.string r) ∧ w = w' by
        intro N hN; rw [← hrr]; exact digit_at N (m % 10) hN (by omega) w)
      have hns : ¬ 9223372036854775807 < q.size + r.size := by omega
      clear ih hB hq hrr hqs hrs
      have t1 : (-(m : Int)).tdiv 10 = -((m / 10 : Nat) : Int) := by rw [Int.neg_tdiv]; congr 1
      have t2 : -((-(m : Int)).tmod 10) = ((m % 10 : Nat) : Int) := by rw [Int.neg_tmod]; simp only [Int.neg_neg]; rfl
      obtain ⟨n, hn⟩ : ∃ n : Int, -(m : Int) = n := ⟨_, rfl⟩
      have h1 : n < 0 := by omega
      have h2 : ¬ (-10 < n) := by omega
      have h3 : -9223372036854775808 ≤ n := by omega
      rw [hn] at H t1 t2 ⊢
      have T1 := Lib.hid t1
      have T2 := Lib.hid t2
      clear hn t1 t2
      go_enter Tryz.func25, Tryz.ntmps25
      go_wp2_with fail
      refine (HI.out _ (by first | exact T1.out | (have := T1.out; omega))).mono ?_
      rintro e w1 ⟨rfl, rfl⟩
      go_wp2_with fail
      refine (HJ.out _ (by first | exact T2.out | (rw [IntWalk.wrap64_in _ (by have := T2.out; omega)]; exact T2.out))).mono ?_
      rintro e w2 ⟨rfl, rfl⟩
      go_wp2
      go_ret
      exact ⟨by rw [← H.out]; rfl, rfl⟩
theorem implFmt_any (n : Int) (hl : -9223372036854775808 ≤ n) (hu : n ≤ 9223372036854775807) (w : World) :
    Calls Tryz.prog 25 #[.int .i64 n] w fun e w' => e = .returned (.string (fmt n)) ∧ w = w' := by
  rcases (show n < 0 ∨ 0 ≤ n by omega) with h | h
  · obtain ⟨m, rfl⟩ : ∃ m : Nat, n = -(m : Int) := ⟨n.natAbs, by omega⟩
    exact implFmt_neg m m w (Nat.le_refl _) (by omega) (by omega)
  · obtain ⟨m, rfl⟩ : ∃ m : Nat, n = (m : Int) := ⟨n.toNat, by omega⟩
    exact implFmt_nat m m w (Nat.le_refl _) (by omega)
end Go.Proofs.YtcminkcoifkbgaaGreatDoor

namespace Go.Proofs.YtcminkcoifkbgaaGreatDoor
open Go.RowKit

def u8s (bs : List UInt8) : List Value := bs.map fun b => Value.int .u8 (b.toNat : Int)
/-- the slice of bytes is a row of the call's own, in a block from B on and below S -/
def BO (w : World) (B S : Nat) (a : Option Addr) (n c : Nat) (bs : List UInt8) : Prop :=
  w.ownsRow B 5 1 (.slice a n c) n (u8s bs) ∧ ∀ k, (Value.slice a n c).ownBlock = some k → k < S
theorem BO.mk {w : World} {B : Nat} {a : Option Addr} {n c : Nat} {bs : List UInt8} (h : w.ownsRow B 5 1 (.slice a n c) n (u8s bs)) : BO w B w.heap.size a n c bs := ⟨h, fun k hk => (h.lt k hk).2⟩
theorem BO.len {w : World} {B S : Nat} {a : Option Addr} {n c : Nat} {bs : List UInt8} (h : BO w B S a n c bs) : bs.length = n := by have := h.1.1; simpa [u8s] using this
theorem BO.lo {w : World} {B S : Nat} {a : Option Addr} {n c : Nat} {bs : List UInt8} (h : BO w B S a n c bs) : ∀ k, (Value.slice a n c).ownBlock = some k → B ≤ k := fun k hk => (h.1.lt k hk).1
theorem BO.cons {w : World} {B S : Nat} {a : Option Addr} {n c : Nat} {bs : List UInt8} (h : BO w B S a n c bs) {j : Nat} (hj : j < n) :
    ∃ g, a = some ⟨g, 0, none⟩ ∧ ∃ b, bs[j]? = some b ∧ w.cell? ⟨g, j, none⟩ = some (.int .u8 (b.toNat : Int)) := by
  have hl := h.len
  have h' := h.1
  rcases h.1.2 with ⟨_, h2⟩ | ⟨g, cap, cur, hv, hb, _⟩
  · omega
  · simp only [Value.slice.injEq] at hv
    obtain ⟨rfl, _, rfl⟩ := hv
    refine ⟨g, rfl, bs[j]'(by omega), List.getElem?_eq_getElem (by omega), ?_⟩
    rw [h'.cellAt j (by omega)]
    unfold u8s
    rw [List.getElem?_map, List.getElem?_eq_getElem (by omega)]
    rfl
theorem BO.only {w w' : World} {B S B' S' : Nat} {a : Option Addr} {n c : Nat} {bs : List UInt8} (h : BO w B S a n c bs) (ho : Only B' S' w w') (hd : S ≤ B' ∨ S' ≤ B) : BO w' B S a n c bs := by
  refine ⟨⟨h.1.1, ?_⟩, h.2⟩
  have hh := h.2
  have hl := h.lo
  rcases h.1.2 with h2 | ⟨g, cap, cur, hv, hg, hb, r⟩
  · exact .inl h2
  · simp only [Value.slice.injEq] at hv
    obtain ⟨rfl, _, rfl⟩ := hv
    have h1 := hh g rfl
    have h3 := hl g rfl
    exact .inr ⟨g, c, cur, rfl, hg, by rw [ho.block g (Array.getElem?_eq_some_iff.1 hb).1 (by omega)]; exact hb, r⟩
theorem BO.made (w : World) : BO (w.alloc (.cells #[] 5)) w.heap.size (w.alloc (.cells #[] 5)).heap.size (some ⟨w.heap.size, 0, none⟩) 0 0 [] :=
  BO.mk (World.ownsRow_made _ #[] 0 (Nat.le_refl _) (Nat.zero_le _) rfl)
theorem Tryz.info5 : (Tryz.prog.info? 5).map (fun i => (i.zero, i.size, i.bytes)) = some (some (.int .u8 0), 1, 1) := by kernel_rfl
/-- append of one byte -/
theorem wpList_pushU {w : World} {W : World} {x0 : Int} {b0 : UInt8} (hW : W = w.alloc (.cells #[.int .u8 x0] 5)) (hx0 : x0 = (b0.toNat : Int)) {ops : Array Oper} {rest : List Oper} {o : Oper} {ac : Act} {Q : Exit → Act → World → Prop} (hgd : o.guard = none) (s x : Operand)
    (ho : o.op = .call { callee := .builtin .append, args := #[s, x], argTypes := #[22, 22] })
    {B S : Nat} {a : Option Addr} {n c : Nat} {bs : List UInt8} (hown : BO w B S a n c bs) (hs : ac.eval s = .slice a n c)
    (hx : ac.eval x = .slice (some ⟨w.heap.size, 0, none⟩) 1 1) (hn : n + 1 ≤ 16777216) (hbase : B ≤ w.heap.size)
    (h : ∀ a' c' w', BO w' B w'.heap.size a' (n + 1) c' (bs ++ [b0]) → Grows w w' (.slice a n c) (.slice a' (n + 1) c') → wpList Tryz.prog ops Q rest (ac.put o.dst (.slice a' (n + 1) c')) w') :
    wpList Tryz.prog ops Q (o :: rest) ac W := by
  subst hW hx0
  obtain ⟨i0, hi, hz0, hz1, hz2⟩ := info_parts Tryz.info5
  refine wpList_app _ hgd s x 22 ho B 5 i0 (.int .u8 0) 1 Tryz.underlying22 hi hz0 hz1 hz2 rfl _ n (u8s bs) hs (hown.1.alloc _) _ 1 1 [.int .u8 (b0.toNat : Int)] hx rfl (by simp) ?_ ?_ hn (by omega) (by simp; omega) ?_
  · intro ad had j u hu
    obtain rfl := Option.some.inj had
    match j, hu with
    | 0, hu => simp at hu; subst hu; simp [Addr.add]
  · intro u hu; simp at hu; subst hu; rfl
  · intro a' c' w' h2 h3
    exact h a' c' w' (BO.mk (by simpa [u8s] using h2)) ((Grows.of_below _ ((Below.refl _ _).alloc (Nat.le_refl _) _)).trans h3)

/-- the digits, the least first -/
def lsd (m : Nat) : List Nat := (digits m m).reverse
theorem lsd_small {m : Nat} (h : m < 10) : lsd m = [m] := by rw [lsd, digits_small h]; rfl
theorem lsd_big {m : Nat} (h : ¬ m < 10) : lsd m = (m % 10) :: lsd (m / 10) := by rw [lsd, digits_big h]; simp [lsd]
theorem lsd_step (q : Nat) : ∃ t, lsd q = (q % 10) :: t ∧ ((t = [] ∧ q / 10 = 0) ∨ (t = lsd (q / 10) ∧ q / 10 ≠ 0)) := by
  by_cases h : q < 10
  · exact ⟨[], by rw [lsd_small h, Nat.mod_eq_of_lt h], .inl ⟨rfl, by omega⟩⟩
  · exact ⟨_, lsd_big h, .inr ⟨rfl, by omega⟩⟩
theorem glyph_nat {d : Nat} (h : d < 10) : ((glyph d).toNat : Int) = 48 + (d : Int) := by
  have h1 : (List.range 10).all (fun d => decide (((glyph d).toNat : Int) = 48 + (d : Int))) = true := by decide +kernel
  rw [List.all_eq_true] at h1
  exact of_decide_eq_true (h1 d (by rw [List.mem_range]; exact h))
theorem lsd_len {m : Nat} (h : m ≤ 9223372036854775808) : (lsd m).length ≤ 19 := by
  have h3 : (10 : Nat) ^ 19 = 10000000000000000000 := by rfl
  have := digits_len 19 m m (by omega) (by omega)
  simpa [lsd] using this
def outs (pre D : List UInt8) (j : Nat) : List UInt8 := pre ++ (D.drop j).reverse
theorem outs_all {pre D : List UInt8} {l : Nat} (h : D.length = l) : outs pre D l = pre := by unfold outs; rw [List.drop_of_length_le (by omega)]; simp
theorem outs_zero (pre D : List UInt8) : outs pre D 0 = pre ++ D.reverse := rfl
theorem outs_step {pre D : List UInt8} {t : Nat} {b : UInt8} (h : D[t]? = some b) : outs pre D (t + 1) ++ [b] = outs pre D t := by
  obtain ⟨ht, hb2⟩ := List.getElem?_eq_some_iff.1 h
  unfold outs
  rw [List.drop_eq_getElem_cons ht, hb2]
  simp
/-- what is still to come -/
def Todo (m : Nat) (ds : List Nat) (q g : Nat) : Prop :=
  ∃ t, lsd m = ds ++ t ∧ t.length = g ∧ ((t = [] ∧ q = 0 ∧ ds ≠ []) ∨ (t = lsd q ∧ (q ≠ 0 ∨ ds = [])))
theorem Todo.start (m : Nat) : Todo m [] m (lsd m).length := ⟨lsd m, rfl, rfl, .inr ⟨rfl, .inr rfl⟩⟩
theorem Todo.done {m q : Nat} {ds : List Nat} {g : Nat} (h : Todo m ds q g) (hq : q = 0) (hd : ds ≠ []) : lsd m = ds := by
  obtain ⟨t, h1, _, ⟨rfl, _⟩ | ⟨_, h3 | h3⟩⟩ := h
  · simpa using h1
  · exact absurd hq h3
  · exact absurd h3 hd
theorem Todo.next {m q : Nat} {ds : List Nat} {g : Nat} (h : Todo m ds q g) (hc : q ≠ 0 ∨ ds = []) : ∃ g', g = g' + 1 ∧ Todo m (ds ++ [q % 10]) (q / 10) g' := by
  obtain ⟨t, h1, h2, ⟨rfl, h3, h4⟩ | ⟨rfl, _⟩⟩ := h
  · rcases hc with h5 | h5
    · exact absurd h3 h5
    · exact absurd h5 h4
  · obtain ⟨t', e1, e2⟩ := lsd_step q
    refine ⟨t'.length, by rw [← h2, e1]; rfl, t', by rw [h1, e1]; simp, rfl, ?_⟩
    rcases e2 with ⟨e3, e4⟩ | ⟨e3, e4⟩
    · exact .inl ⟨e3, e4, by simp⟩
    · exact .inr ⟨e3, .inl e4⟩
theorem Todo.len {m q : Nat} {ds : List Nat} {g : Nat} (h : Todo m ds q g) : ds.length ≤ (lsd m).length := by
  obtain ⟨t, h1, _⟩ := h
  rw [h1, List.length_append]; omega

/-- a number that stands for q, with a sign -/
def Signed (neg : Bool) (q : Nat) (K : Int) : Prop := K = if neg then -(q : Int) else (q : Int)
set_option maxRecDepth 100000 in
set_option maxHeartbeats 6400000 in
theorem specFmt_any (n : Int) (hl : -9223372036854775808 ≤ n) (hu : n ≤ 9223372036854775807) (w : World) :
    Calls Tryz.prog 37 #[.int .i64 n] w fun e w' => e = .returned (.string (fmt n)) ∧ Below w.heap.size w w' := by
  obtain ⟨m, hm⟩ : ∃ m : Nat, n.natAbs = m := ⟨_, rfl⟩
  have hm0 : m ≤ 9223372036854775808 := by omega
  have hll := lsd_len hm0
  have h1 := Lib.hid (BO.made w)
  have hB0 : Below w.heap.size w (w.alloc (.cells #[] 5)) := (Below.refl _ _).alloc (Nat.le_refl _) _
  have HM := Lib.hid hm
  clear hm
  go_enter Tryz.func37, Tryz.ntmps37
  go_wp2
  go_loopg [3, 4] (lsd m).length (fun gf v k wr => Hid (∃ ds q a' l c', Todo m ds q gf ∧ ds.length = l ∧ v = .slice a' l c' ∧ k = .int .i64 (if n < 0 then -(q : Int) else (q : Int)) ∧ q ≤ m ∧ BO wr w.heap.size wr.heap.size a' l c' (ds.map glyph)) ∧ Below w.heap.size w wr)
  case atStart => exact ⟨⟨[], m, _, _, _, Todo.start m, rfl, rfl, by have := HM.out; congr 1; split <;> omega, Nat.le_refl _, h1.out⟩, hB0⟩
  case round =>
    clear h1 hB0
    obtain ⟨HV, hB⟩ := hrel
    obtain ⟨wo, rfl⟩ : ∃ wo : World, wo = wr := ⟨_, rfl⟩
    obtain ⟨ds, q, a', l, c', hT, hdl, rfl, rfl, hqm, ho⟩ := HV.out
    clear HV
    have hbs := hB.size
    have hl19 := hT.len
    rw [hdl] at hl19
    by_cases hc : q ≠ 0 ∨ ds = []
    · obtain ⟨g', rfl, hT2⟩ := hT.next hc
      have hq10 : q % 10 < 10 := by omega
      have hgl := glyph_nat hq10
      obtain ⟨bq, hbq⟩ : ∃ b, glyph (q % 10) = b := ⟨_, rfl⟩
      have hcond : (q ≠ 0) ∨ l = 0 := by
        rcases hc with h | h
        · exact .inl h
        · right; rw [← hdl, h]; rfl
      have hmap : ds.map glyph ++ [bq] = (ds ++ [q % 10]).map glyph := by simp [hbq]
      rw [hbq] at hgl
      have HT := Lib.hid hT2
      have HMap := Lib.hid hmap
      have HDl := Lib.hid (show (ds ++ [q % 10]).length = l + 1 by simp [hdl])
      have HQ := Lib.hid (show q / 10 ≤ m by omega)
      clear hT hT2 hmap hdl hc hbq
      by_cases hneg : n < 0
      · rw [if_pos hneg]
        have t1 : (-(q : Int)).tdiv 10 = -((q / 10 : Nat) : Int) := by rw [Int.neg_tdiv]; congr 1
        have t2 : (-(q : Int)).tmod 10 = -((q % 10 : Nat) : Int) := by rw [Int.neg_tmod]; rfl
        have HK := Lib.hid (show (if n < 0 then -((q / 10 : Nat) : Int) else ((q / 10 : Nat) : Int)) = (-(q : Int)).tdiv 10 by rw [if_pos hneg, t1])
        obtain ⟨K, hK⟩ : ∃ K, -(q : Int) = K := ⟨_, rfl⟩
        have k1 : K ≤ 0 := by omega
        have k2 : -9223372036854775808 ≤ K := by omega
        have kc : K ≠ 0 ∨ l = 0 := by omega
        rw [hK] at t1 t2 HK ⊢
        clear hK hneg hcond
        by_cases hz : q % 10 = 0
        · have k0 : K.tmod 10 = 0 := by rw [t2, hz]; rfl
          have x1 : ¬ (K.tmod 10 < 0) := by omega
          by_cases hK0 : K = 0
          · have hl0 : l = 0 := by omega
            subst hl0
            have e0 : (K != 0) = false := by simp [hK0]
            have HX := Lib.hid (show 48 + K.tmod 10 = (bq.toNat : Int) by omega)
            have HE := Lib.hid hK0
            clear hK0 hgl kc
            go_wp2_with (first | (at_builtin; go_loud (refine wpList_pushU (b0 := bq) (by rfl) ?hx1 (by rfl) _ _ (by rfl) ho (by rfl) (by rfl) (by omega) (by omega) ?_)))
            case hx1 => first | exact HX.out | (have := HX.out; omega) | (have h1 := HX.out; rw [k0] at h1; omega)
            intro a2 c2 w2 ho2 hg2
            have hB2 := hg2.below hB hbs ho.lo
            have hz2 := hB2.size
            rw [HMap.out] at ho2
            have HO := Lib.hid ho2
            clear ho ho2
            go_wp2
            go_roundg g'
            case rel => exact ⟨⟨_, _, _, _, _, HT.out, HDl.out, rfl, by rw [HK.out] <;> (congr 1; omega), HQ.out, HO.out⟩, hB2⟩
            case measure => omega
          · have e0 : (K != 0) = true := by simp [hK0]
            have HX := Lib.hid (show 48 + K.tmod 10 = (bq.toNat : Int) by omega)
            clear hgl kc
            go_wp2_with (first | (at_builtin; go_loud (refine wpList_pushU (b0 := bq) (by rfl) ?hx2 (by rfl) _ _ (by rfl) ho (by rfl) (by rfl) (by omega) (by omega) ?_)))
            case hx2 => first | exact HX.out | (have := HX.out; omega) | (have h1 := HX.out; rw [k0] at h1; omega)
            intro a2 c2 w2 ho2 hg2
            have hB2 := hg2.below hB hbs ho.lo
            have hz2 := hB2.size
            rw [HMap.out] at ho2
            have HO := Lib.hid ho2
            clear ho ho2
            go_wp2
            go_roundg g'
            case rel => exact ⟨⟨_, _, _, _, _, HT.out, HDl.out, rfl, by rw [HK.out] <;> (congr 1; omega), HQ.out, HO.out⟩, hB2⟩
            case measure => omega
        · have x1 : K.tmod 10 < 0 := by omega
          have x2 : -9 ≤ K.tmod 10 := by omega
          by_cases hK0 : K = 0
          · have hl0 : l = 0 := by omega
            subst hl0
            have e0 : (K != 0) = false := by simp [hK0]
            have HX := Lib.hid (show 48 + (0 - K.tmod 10) = (bq.toNat : Int) by omega)
            have HE := Lib.hid hK0
            clear hK0 hgl kc
            go_wp2_with (first | (at_builtin; go_loud (refine wpList_pushU (b0 := bq) (by rfl) ?hx3 (by rfl) _ _ (by rfl) ho (by rfl) (by rfl) (by omega) (by omega) ?_)))
            case hx3 => first | exact HX.out | (have := HX.out; omega) | (have h1 := HX.out; rw [k0] at h1; omega)
            intro a2 c2 w2 ho2 hg2
            have hB2 := hg2.below hB hbs ho.lo
            have hz2 := hB2.size
            rw [HMap.out] at ho2
            have HO := Lib.hid ho2
            clear ho ho2
            go_wp2
            go_roundg g'
            case rel => exact ⟨⟨_, _, _, _, _, HT.out, HDl.out, rfl, by rw [HK.out] <;> (congr 1; omega), HQ.out, HO.out⟩, hB2⟩
            case measure => omega
          · have e0 : (K != 0) = true := by simp [hK0]
            have HX := Lib.hid (show 48 + (0 - K.tmod 10) = (bq.toNat : Int) by omega)
            clear hgl kc
            go_wp2_with (first | (at_builtin; go_loud (refine wpList_pushU (b0 := bq) (by rfl) ?hx4 (by rfl) _ _ (by rfl) ho (by rfl) (by rfl) (by omega) (by omega) ?_)))
            case hx4 => first | exact HX.out | (have := HX.out; omega) | (have h1 := HX.out; rw [k0] at h1; omega)
            intro a2 c2 w2 ho2 hg2
            have hB2 := hg2.below hB hbs ho.lo
            have hz2 := hB2.size
            rw [HMap.out] at ho2
            have HO := Lib.hid ho2
            clear ho ho2
            go_wp2
            go_roundg g'
            case rel => exact ⟨⟨_, _, _, _, _, HT.out, HDl.out, rfl, by rw [HK.out] <;> (congr 1; omega), HQ.out, HO.out⟩, hB2⟩
            case measure => omega
      · rw [if_neg hneg]
        have HK := Lib.hid (show (if n < 0 then -((q / 10 : Nat) : Int) else ((q / 10 : Nat) : Int)) = (q : Int) / 10 by rw [if_neg hneg]; omega)
        have t2 : (q : Int) % 10 = ((q % 10 : Nat) : Int) := by omega
        obtain ⟨K, hK⟩ : ∃ K, (q : Int) = K := ⟨_, rfl⟩
        have k1 : 0 ≤ K := by omega
        have k2 : K ≤ 9223372036854775807 := by have := HM.out; omega
        have kc : K ≠ 0 ∨ l = 0 := by omega
        rw [hK] at t2 HK ⊢
        clear hK hneg hcond
        by_cases hK0 : K = 0
        · have hl0 : l = 0 := by omega
          subst hl0
          have e0 : (K != 0) = false := by simp [hK0]
          have HX := Lib.hid (show 48 + K % 10 = (bq.toNat : Int) by omega)
          have HE := Lib.hid hK0
          clear hK0 hgl kc
          go_wp2_with (first | (at_builtin; go_loud (refine wpList_pushU (b0 := bq) (by rfl) ?hx5 (by rfl) _ _ (by rfl) ho (by rfl) (by rfl) (by omega) (by omega) ?_)))
          case hx5 => first | exact HX.out | (have := HX.out; omega) | (have h1 := HX.out; rw [k0] at h1; omega)
          intro a2 c2 w2 ho2 hg2
          have hB2 := hg2.below hB hbs ho.lo
          have hz2 := hB2.size
          rw [HMap.out] at ho2
          have HO := Lib.hid ho2
          clear ho ho2
          go_wp2
          go_roundg g'
          case rel => exact ⟨⟨_, _, _, _, _, HT.out, HDl.out, rfl, by rw [HK.out] <;> (congr 1; omega), HQ.out, HO.out⟩, hB2⟩
          case measure => omega
        · have e0 : (K != 0) = true := by simp [hK0]
          have HX := Lib.hid (show 48 + K % 10 = (bq.toNat : Int) by omega)
          clear hgl kc
          go_wp2_with (first | (at_builtin; go_loud (refine wpList_pushU (b0 := bq) (by rfl) ?hx6 (by rfl) _ _ (by rfl) ho (by rfl) (by rfl) (by omega) (by omega) ?_)))
          case hx6 => first | exact HX.out | (have := HX.out; omega) | (have h1 := HX.out; rw [k0] at h1; omega)
          intro a2 c2 w2 ho2 hg2
          have hB2 := hg2.below hB hbs ho.lo
          have hz2 := hB2.size
          rw [HMap.out] at ho2
          have HO := Lib.hid ho2
          clear ho ho2
          go_wp2
          go_roundg g'
          case rel => exact ⟨⟨_, _, _, _, _, HT.out, HDl.out, rfl, by rw [HK.out] <;> (congr 1; omega), HQ.out, HO.out⟩, hB2⟩
          case measure => omega
    · have hq0 : q = 0 := by omega
      have hd0 : ds ≠ [] := fun h => hc (.inr h)
      have hfin := hT.done hq0 hd0
      have hl1 : 1 ≤ l := by rw [← hdl]; exact List.length_pos_iff.2 hd0
      have hK : (if n < 0 then -(q : Int) else (q : Int)) = 0 := by rw [hq0]; simp
      rw [hK]
      subst hfin
      have hA : Below wo.heap.size wo (wo.alloc (.cells #[] 5)) := (Below.refl _ _).alloc (Nat.le_refl _) _
      have hM := Lib.hid (BO.made wo)
      have hzM : (wo.alloc (.cells #[] 5)).heap.size = wo.heap.size + 1 := by simp
      have hod : BO (wo.alloc (.cells #[] 5)) w.heap.size wo.heap.size a' l c' ((lsd m).map glyph) := ho.only (Only.of_below hA) (.inr (Nat.zero_le _))
      have HOD := Lib.hid hod
      have HDl := Lib.hid hdl
      have hfmt : fmt n = ⟨((if n < 0 then [(45 : UInt8)] else []) ++ ((lsd m).map glyph).reverse).toArray⟩ := by
        have e : ((lsd m).map glyph).reverse = (digits m m).map glyph := by rw [lsd, List.map_reverse, List.reverse_reverse]
        rw [e, fmt, HM.out]
        apply ByteArray.ext
        split
        · simp [ByteArray.data_append, minus, text]
        · simp [ByteArray.data_append, text]
      have HF := Lib.hid hfmt
      have hne : l ≠ 0 := by omega
      clear hT hqm ho hod hfmt hK hc hd0 hdl hq0
      by_cases hneg : n < 0
      · have hf : (if n < 0 then [(45 : UInt8)] else []) = [45] := if_pos hneg
        have Hf := Lib.hid hf; clear hf
        go_wp2_with (first | (at_builtin; go_loud (refine wpList_pushU (b0 := 45) (by rfl) (by rfl) (by rfl) _ _ (by rfl) hM.out (by rfl) (by rw [hzM]; rfl) (by omega) (by rw [hzM]; omega) ?_)))
        intro a2 c2 w2 ho2 hg2
        have hO2 := hg2.only (B := wo.heap.size) (S := (wo.alloc (.cells #[] 5)).heap.size) hM.out.lo hM.out.2
        have hz2 := (show wo.heap.size ≤ w2.heap.size by have := hO2.size; omega)
        have hD2 := HOD.out.only hO2 (.inl (Nat.le_refl _))
        have HI := Lib.hid ho2
        have HDr := Lib.hid hD2
        have hB2 := hO2.below (hB.trans (hA.mono hbs)) hbs (by omega)
        clear hM HOD hD2 ho2
        go_wp2
        go_loopw [6, 7] (fun v i wr => Hid (∃ j : Nat, j ≤ l ∧ i = .int .i64 ((j : Int) - 1) ∧ ∃ ao no co, v = .slice ao no co ∧ no ≤ 1 + (l - j) ∧ BO wr wo.heap.size wr.heap.size ao no co (outs [(45 : UInt8)] ((lsd m).map glyph) j) ∧ BO wr w.heap.size wo.heap.size a' l c' ((lsd m).map glyph)) ∧ Below w.heap.size w wr ∧ wo.heap.size ≤ wr.heap.size) (fun _ i _ => (intOf i + 1).toNat)
        case atStart => exact ⟨⟨l, Nat.le_refl _, rfl, _, _, _, rfl, by omega, by rw [outs_all (by rw [List.length_map, HDl.out])]; exact HI.out, HDr.out⟩, hB2, hz2⟩
        case round =>
          clear HI HDr hB2 hz2
          obtain ⟨HV, hB2, hz2⟩ := hrel
          obtain ⟨wp, rfl⟩ : ∃ wp : World, wp = wr := ⟨_, rfl⟩
          obtain ⟨j, hj, rfl, ao, no, co, rfl, hno, ho, hD⟩ := HV.out
          clear HV
          by_cases hj0 : j = 0
          · subst hj0
            have e2 : outs [(45 : UInt8)] ((lsd m).map glyph) 0 = (fmt n).data.toList := by rw [outs_zero, HF.out, Hf.out]
            rw [e2] at ho
            have hno1 := ho.len
            have hsz : 0 < (fmt n).data.toList.length := by
              rw [← e2, outs_zero, List.length_append, List.length_reverse, List.length_map, HDl.out]; omega
            obtain ⟨g, rfl, _⟩ := ho.cons (j := 0) (by omega)
            have hconv := run_convert_bytes_back (P := Tryz.prog) wp 22 9 5 ⟨g, 0, none⟩ co (fmt n).data.toList Tryz.underlying22 Tryz.underlying5 Tryz.underlying9 (fun k hk => by
              obtain ⟨g', eg, b, hb, hcell⟩ := ho.cons (j := k) (by omega)
              have eg1 : g = g' := by simpa using eg
              subst eg1
              have ea : (⟨g, 0, none⟩ : Addr).add k = ⟨g, k, none⟩ := by unfold Addr.add; split <;> simp_all
              rw [ea, hcell]
              obtain ⟨_, hb2⟩ := List.getElem?_eq_some_iff.1 hb
              rw [hb2])
            rw [hno1] at hconv
            have e3 : (⟨(fmt n).data.toList.toArray⟩ : ByteArray) = fmt n := rfl
            rw [e3] at hconv
            clear hsz e2 ho hD hno1 e3
            go_wp2
            go_ret
            exact ⟨rfl, hB2⟩
          · obtain ⟨t, rfl⟩ : ∃ t, j = t + 1 := ⟨j - 1, by omega⟩
            have ej : ((t + 1 : Nat) : Int) - 1 = (t : Int) := by omega
            rw [ej]
            obtain ⟨g, rfl, b, hb, hcell⟩ := hD.cons (j := t) (by omega)
            have hst := outs_step (pre := [(45 : UInt8)]) hb
            have Hst := Lib.hid hst
            have q1 : (t : Int) < (l : Int) := by omega
            clear hst hb ej hj0
            go_wp2_with (first | (at_builtin; go_loud (refine wpList_pushU (b0 := b) (by rfl) (by rfl) (by rfl) _ _ (by rfl) ho (by rfl) (by rfl) (by omega) hz2 ?_)))
            intro a5 c5 w5 ho5 hg5
            rw [Hst.out] at ho5
            have hO5 := hg5.only (B := wo.heap.size) (S := wp.heap.size) ho.lo ho.2
            have hD5 := hD.only hO5 (.inl (Nat.le_refl _))
            have hB5 := hO5.below hB2 hbs (by omega)
            have hz5 := hO5.size
            have HO5 := Lib.hid ho5
            have HD5 := Lib.hid hD5
            clear ho ho5 hD hD5
            go_wp2
            go_roundw
            case rel => exact ⟨⟨t, by omega, by go_num, _, _, _, rfl, by omega, HO5.out, HD5.out⟩, hB5, by omega⟩
            case measure => simp [intOf]
      · have hf : (if n < 0 then [(45 : UInt8)] else []) = [] := if_neg hneg
        have Hf := Lib.hid hf; clear hf
        have hz2 := (show wo.heap.size ≤ (wo.alloc (.cells #[] 5)).heap.size by omega)
        have hD2 := HOD.out
        have HI := Lib.hid hM.out
        have HDr := Lib.hid hD2
        have hB2 := hB.trans (hA.mono hbs)
        clear hM HOD hD2
        go_wp2
        go_loopw [6, 7] (fun v i wr => Hid (∃ j : Nat, j ≤ l ∧ i = .int .i64 ((j : Int) - 1) ∧ ∃ ao no co, v = .slice ao no co ∧ no ≤ 1 + (l - j) ∧ BO wr wo.heap.size wr.heap.size ao no co (outs ([] : List UInt8) ((lsd m).map glyph) j) ∧ BO wr w.heap.size wo.heap.size a' l c' ((lsd m).map glyph)) ∧ Below w.heap.size w wr ∧ wo.heap.size ≤ wr.heap.size) (fun _ i _ => (intOf i + 1).toNat)
        case atStart => exact ⟨⟨l, Nat.le_refl _, rfl, _, _, _, rfl, by omega, by rw [outs_all (by rw [List.length_map, HDl.out])]; exact HI.out, HDr.out⟩, hB2, hz2⟩
        case round =>
          clear HI HDr hB2 hz2
          obtain ⟨HV, hB2, hz2⟩ := hrel
          obtain ⟨wp, rfl⟩ : ∃ wp : World, wp = wr := ⟨_, rfl⟩
          obtain ⟨j, hj, rfl, ao, no, co, rfl, hno, ho, hD⟩ := HV.out
          clear HV
          by_cases hj0 : j = 0
          · subst hj0
            have e2 : outs ([] : List UInt8) ((lsd m).map glyph) 0 = (fmt n).data.toList := by rw [outs_zero, HF.out, Hf.out]
            rw [e2] at ho
            have hno1 := ho.len
            have hsz : 0 < (fmt n).data.toList.length := by
              rw [← e2, outs_zero, List.length_append, List.length_reverse, List.length_map, HDl.out]; omega
            obtain ⟨g, rfl, _⟩ := ho.cons (j := 0) (by omega)
            have hconv := run_convert_bytes_back (P := Tryz.prog) wp 22 9 5 ⟨g, 0, none⟩ co (fmt n).data.toList Tryz.underlying22 Tryz.underlying5 Tryz.underlying9 (fun k hk => by
              obtain ⟨g', eg, b, hb, hcell⟩ := ho.cons (j := k) (by omega)
              have eg1 : g = g' := by simpa using eg
              subst eg1
              have ea : (⟨g, 0, none⟩ : Addr).add k = ⟨g, k, none⟩ := by unfold Addr.add; split <;> simp_all
              rw [ea, hcell]
              obtain ⟨_, hb2⟩ := List.getElem?_eq_some_iff.1 hb
              rw [hb2])
            rw [hno1] at hconv
            have e3 : (⟨(fmt n).data.toList.toArray⟩ : ByteArray) = fmt n := rfl
            rw [e3] at hconv
            clear hsz e2 ho hD hno1 e3
            go_wp2
            go_ret
            exact ⟨rfl, hB2⟩
          · obtain ⟨t, rfl⟩ : ∃ t, j = t + 1 := ⟨j - 1, by omega⟩
            have ej : ((t + 1 : Nat) : Int) - 1 = (t : Int) := by omega
            rw [ej]
            obtain ⟨g, rfl, b, hb, hcell⟩ := hD.cons (j := t) (by omega)
            have hst := outs_step (pre := ([] : List UInt8)) hb
            have Hst := Lib.hid hst
            have q1 : (t : Int) < (l : Int) := by omega
            clear hst hb ej hj0
            go_wp2_with (first | (at_builtin; go_loud (refine wpList_pushU (b0 := b) (by rfl) (by rfl) (by rfl) _ _ (by rfl) ho (by rfl) (by rfl) (by omega) hz2 ?_)))
            intro a5 c5 w5 ho5 hg5
            rw [Hst.out] at ho5
            have hO5 := hg5.only (B := wo.heap.size) (S := wp.heap.size) ho.lo ho.2
            have hD5 := hD.only hO5 (.inl (Nat.le_refl _))
            have hB5 := hO5.below hB2 hbs (by omega)
            have hz5 := hO5.size
            have HO5 := Lib.hid ho5
            have HD5 := Lib.hid hD5
            clear ho ho5 hD hD5
            go_wp2
            go_roundw
            case rel => exact ⟨⟨t, by omega, by go_num, _, _, _, rfl, by omega, HO5.out, HD5.out⟩, hB5, by omega⟩
            case measure => simp [intOf]
end Go.Proofs.YtcminkcoifkbgaaGreatDoor

namespace Go.Proofs.YtcminkcoifkbgaaGreatDoor
open Go.RowKit

def strs (l : List ByteArray) : List Value := l.map Value.string
/-- the slice of strings is a row of the call's own, in a block from B on and below S -/
def SO (w : World) (B S : Nat) (a : Option Addr) (n c : Nat) (l : List ByteArray) : Prop :=
  w.ownsRow B 9 1 (.slice a n c) n (strs l) ∧ ∀ k, (Value.slice a n c).ownBlock = some k → k < S
theorem SO.mk {w : World} {B : Nat} {a : Option Addr} {n c : Nat} {l : List ByteArray} (h : w.ownsRow B 9 1 (.slice a n c) n (strs l)) : SO w B w.heap.size a n c l := ⟨h, fun k hk => (h.lt k hk).2⟩
theorem SO.len {w : World} {B S : Nat} {a : Option Addr} {n c : Nat} {l : List ByteArray} (h : SO w B S a n c l) : l.length = n := by have := h.1.1; simpa [strs] using this
theorem SO.lo {w : World} {B S : Nat} {a : Option Addr} {n c : Nat} {l : List ByteArray} (h : SO w B S a n c l) : ∀ k, (Value.slice a n c).ownBlock = some k → B ≤ k := fun k hk => (h.1.lt k hk).1
theorem SO.only {w w' : World} {B S B' S' : Nat} {a : Option Addr} {n c : Nat} {l : List ByteArray} (h : SO w B S a n c l) (ho : Only B' S' w w') (hd : S ≤ B' ∨ S' ≤ B) : SO w' B S a n c l := by
  refine ⟨⟨h.1.1, ?_⟩, h.2⟩
  have hh := h.2
  have hl := h.lo
  rcases h.1.2 with h2 | ⟨g, cap, cur, hv, hg, hb, r⟩
  · exact .inl h2
  · simp only [Value.slice.injEq] at hv
    obtain ⟨rfl, _, rfl⟩ := hv
    have h1 := hh g rfl
    have h3 := hl g rfl
    exact .inr ⟨g, c, cur, rfl, hg, by rw [ho.block g (Array.getElem?_eq_some_iff.1 hb).1 (by omega)]; exact hb, r⟩
theorem SO.below {w w' : World} {B S : Nat} {a : Option Addr} {n c : Nat} {l : List ByteArray} (h : SO w B S a n c l) (hb : Below w.heap.size w w') : SO w' B S a n c l := h.only (Only.of_below hb) (.inr (Nat.zero_le _))
theorem SO.mono {w : World} {B S S' : Nat} {a : Option Addr} {n c : Nat} {l : List ByteArray} (h : SO w B S a n c l) (hS : S ≤ S') : SO w B S' a n c l := ⟨h.1, fun k hk => Nat.lt_of_lt_of_le (h.2 k hk) hS⟩
theorem SO.made (w : World) : SO (w.alloc (.cells #[] 9)) w.heap.size (w.alloc (.cells #[] 9)).heap.size (some ⟨w.heap.size, 0, none⟩) 0 0 [] :=
  SO.mk (World.ownsRow_made _ #[] 0 (Nat.le_refl _) (Nat.zero_le _) rfl)
theorem Tryz.info9 : (Tryz.prog.info? 9).map (fun i => (i.zero, i.size, i.bytes)) = some (some (.string ⟨#[]⟩), 1, 16) := by kernel_rfl
/-- append of one string -/
theorem wpList_pushS {w : World} {W : World} {x0 : ByteArray} (hW : W = w.alloc (.cells #[.string x0] 9)) {ops : Array Oper} {rest : List Oper} {o : Oper} {ac : Act} {Q : Exit → Act → World → Prop} (hgd : o.guard = none) (s x : Operand)
    (ho : o.op = .call { callee := .builtin .append, args := #[s, x], argTypes := #[40, 40] })
    {B S : Nat} {a : Option Addr} {n c : Nat} {l : List ByteArray} (hown : SO w B S a n c l) (hs : ac.eval s = .slice a n c)
    (hx : ac.eval x = .slice (some ⟨w.heap.size, 0, none⟩) 1 1) (hn : n + 1 ≤ 16777216) (hbase : B ≤ w.heap.size)
    (h : ∀ a' c' w', SO w' B w'.heap.size a' (n + 1) c' (l ++ [x0]) → Grows w w' (.slice a n c) (.slice a' (n + 1) c') → wpList Tryz.prog ops Q rest (ac.put o.dst (.slice a' (n + 1) c')) w') :
    wpList Tryz.prog ops Q (o :: rest) ac W := by
  subst hW
  obtain ⟨i0, hi, hz0, hz1, hz2⟩ := info_parts Tryz.info9
  refine wpList_app _ hgd s x 40 ho B 9 i0 (.string ⟨#[]⟩) 16 Tryz.underlying40 hi hz0 hz1 hz2 rfl _ n (strs l) hs (hown.1.alloc _) _ 1 1 [.string x0] hx rfl (by simp) ?_ ?_ hn (by omega) (by simp; omega) ?_
  · intro ad had j u hu
    obtain rfl := Option.some.inj had
    match j, hu with
    | 0, hu => simp at hu; subst hu; simp [Addr.add]
  · intro u hu; simp at hu; subst hu; rfl
  · intro a' c' w' h2 h3
    exact h a' c' w' (SO.mk (by simpa [strs] using h2)) ((Grows.of_below _ ((Below.refl _ _).alloc (Nat.le_refl _) _)).trans h3)

/-- the first k, with sep between them -/
def glue (sep : ByteArray) (l : List ByteArray) : Nat → ByteArray
  | 0 => ⟨#[]⟩
  | k + 1 => (if k = 0 then ⟨#[]⟩ else glue sep l k ++ sep) ++ l.getD k ⟨#[]⟩
theorem glue_zero (sep : ByteArray) (l : List ByteArray) : glue sep l 0 = ⟨#[]⟩ := rfl
theorem glue_first (sep : ByteArray) {l : List ByteArray} {x : ByteArray} (h : l[0]? = some x) : glue sep l 1 = x := by
  rw [glue, if_pos rfl, empty_append, List.getD_eq_getElem?_getD, h]; rfl
theorem glue_next (sep : ByteArray) {l : List ByteArray} {x : ByteArray} {k : Nat} (hk : k ≠ 0) (h : l[k]? = some x) : glue sep l (k + 1) = glue sep l k ++ sep ++ x := by
  rw [glue, if_neg hk, List.getD_eq_getElem?_getD, h]; rfl
theorem glue_size (sep : ByteArray) (l : List ByteArray) (M : Nat) (h : ∀ s ∈ l, s.size ≤ M) : ∀ k, (glue sep l k).size ≤ k * (M + sep.size) := by
  intro k
  induction k with
  | zero => rw [glue_zero]; exact Nat.zero_le _
  | succ k ih =>
    have h1 : (l.getD k ⟨#[]⟩).size ≤ M := by
      rw [List.getD_eq_getElem?_getD]
      cases hx : l[k]? with
      | none => exact Nat.zero_le _
      | some x => exact h x (List.mem_of_getElem? hx)
    rw [glue, append_size, Nat.succ_mul]
    split
    · have : (⟨#[]⟩ : ByteArray).size = 0 := rfl
      omega
    · rw [append_size]; omega
def rawS (s : ByteArray) : List UInt8 := s.data.toList
theorem rawS_append (a b : ByteArray) : rawS (a ++ b) = rawS a ++ rawS b := by simp [rawS, ByteArray.data_append]
theorem glue_raw (sep x : ByteArray) (r : List ByteArray) : ∀ k, k ≤ r.length → rawS (glue sep (x :: r) (k + 1)) = rawS x ++ Lib.joinTail (rawS sep) ((r.take k).map rawS) := by
  intro k
  induction k with
  | zero => intro _; rw [glue_first sep (x := x) rfl]; simp [Lib.joinTail]
  | succ k ih =>
    intro hk
    obtain ⟨y, hy⟩ : ∃ y, r[k]? = some y := ⟨r[k], List.getElem?_eq_getElem (by omega)⟩
    rw [glue_next sep (x := y) (by omega) (by simpa using hy), rawS_append, rawS_append, ih (by omega), List.take_add_one, hy]
    simp [Lib.joinTail]
theorem glue_join (sep : ByteArray) (l : List ByteArray) : (⟨(Lib.join (l.map (·.data.toList)) sep.data.toList).toArray⟩ : ByteArray) = glue sep l l.length := by
  have e : ∀ s : ByteArray, (⟨(rawS s).toArray⟩ : ByteArray) = s := fun s => by apply ByteArray.ext; simp [rawS]
  cases l with
  | nil => rfl
  | cons x r =>
    rw [← e (glue sep (x :: r) (x :: r).length), List.length_cons, glue_raw sep x r r.length (Nat.le_refl _), List.take_length]
    rw [List.map_cons, Lib.join_cons]
    rfl
theorem join_any {B S : Nat} (a : Option Addr) (n c : Nat) (l : List ByteArray) (sep : ByteArray) (w : World) (h : SO w B S a n c l) (hs : (glue sep l n).size ≤ 140737488355328) (hn : n ≤ 1048576) :
    Calls Tryz.prog 28 #[.slice a n c, .string sep] w fun e w' => e = .returned (.string (glue sep l n)) ∧ Below w.heap.size w w' := by
  have hl := h.len
  rcases Nat.eq_zero_or_pos n with h0 | h0
  · subst h0
    refine (Any.strings_Join_none laysJoin extraJoin a c sep w).mono ?_
    rintro e w' ⟨rfl, rfl⟩
    exact ⟨rfl, Below.refl _ _⟩
  · have h' := h.1
    rcases h.1.2 with ⟨_, h2⟩ | ⟨g, cap, cur, hv, hb, hh, hnc, _⟩
    · omega
    · simp only [Value.slice.injEq] at hv
      obtain ⟨rfl, _, rfl⟩ := hv
      have hg : g < w.heap.size := (Array.getElem?_eq_some_iff.1 hh).1
      have hj := Any.strings_Join laysJoin extraJoin g 0 c l sep w (fun j x hx => by
        have hjl := (List.getElem?_eq_some_iff.1 hx).1
        rw [Nat.zero_add, h'.cellAt j (by omega)]
        simp [strs, hx]) hg (by omega) (by omega) (by
        have e := congrArg (fun s : ByteArray => s.data.size) (glue_join sep l)
        simp only [List.size_toArray] at e
        rw [e, hl]
        exact hs)
      rw [hl, glue_join, hl] at hj
      exact hj
end Go.Proofs.YtcminkcoifkbgaaGreatDoor

namespace Go.Proofs.YtcminkcoifkbgaaGreatDoor
open Go.RowKit

def space : ByteArray := ⟨#[32]⟩
def fmts (xs : List Int) : ByteArray := glue space (xs.map fmt) xs.length
def Narrow (xs : List Int) : Prop := ∀ x ∈ xs, -9223372036854775808 ≤ x ∧ x ≤ 9223372036854775807
theorem fmt_each {xs : List Int} (h : Narrow xs) : ∀ s ∈ xs.map fmt, s.size ≤ 20 := by
  intro s hs
  obtain ⟨x, hx, rfl⟩ := List.mem_map.1 hs
  exact fmt_size (h x hx)
theorem glue_fmt_size {xs : List Int} (h : Narrow xs) (k : Nat) : (glue space (xs.map fmt) k).size ≤ k * 21 := glue_size space _ 20 (fmt_each h) k
theorem fmts_size {xs : List Int} (h : Narrow xs) : (fmts xs).size ≤ xs.length * 21 := glue_fmt_size h _

set_option maxRecDepth 100000 in
set_option maxHeartbeats 1600000 in
theorem specFmts_any (a : Option Addr) (n c : Nat) (xs : List Int) (w : World) (hr : RI w a xs) (hn : xs.length = n) (hb : n ≤ 1048576) (hx : Narrow xs) :
    Calls Tryz.prog 38 #[.slice a n c] w fun e w' => e = .returned (.string (fmts xs)) ∧ Below w.heap.size w w' := by
  have Hn := Lib.hid hn; clear hn
  have HX := Lib.hid hx; clear hx
  go_enter Tryz.func38, Tryz.ntmps38
  go_wp2
  go_loopw [3, 4] (fun s i wr => Hid (∃ k : Nat, k ≤ n ∧ i = .int .i64 k ∧ s = .string (glue space (xs.map fmt) k)) ∧ Below w.heap.size w wr) (fun _ i _ => n - (intOf i).toNat)
  case atStart => exact ⟨⟨0, Nat.zero_le _, rfl, rfl⟩, Below.refl _ _⟩
  case round =>
    obtain ⟨HV, hB⟩ := hrel
    obtain ⟨wo, rfl⟩ : ∃ wo : World, wo = wr := ⟨_, rfl⟩
    obtain ⟨k, hk, rfl, rfl⟩ := HV.out
    clear HV
    have hbs := hB.size
    by_cases hlt : k < n
    · obtain ⟨b, off, rfl, hcell⟩ := (hr.below hB).at (k := k) (by rw [Hn.out]; exact hlt)
      obtain ⟨x, hx⟩ := some_at Hn.out hlt
      have hc := hcell k x hx
      obtain ⟨hx0, hx1⟩ := HX.out x (List.mem_of_getElem? hx)
      have hf : (xs.map fmt)[k]? = some (fmt x) := by rw [List.getElem?_map, hx]; rfl
      have hfs : (fmt x).size ≤ 20 := fmt_size ⟨hx0, hx1⟩
      have hgs := glue_fmt_size HX.out k
      have h21 : k * 21 ≤ 22020096 := by omega
      obtain ⟨q, hq⟩ : ∃ q, fmt x = q := ⟨_, rfl⟩
      obtain ⟨u, hu⟩ : ∃ u, glue space (xs.map fmt) k = u := ⟨_, rfl⟩
      have hspec := specFmt_any x hx0 hx1 wo
      rw [hq] at hf hfs hspec
      rw [hu] at hgs ⊢
      have HU := Lib.hid hu
      have HF := Lib.hid hf
      have HS := Lib.hid hspec
      clear hcell hx hq hu hf hspec
      by_cases hk0 : k = 0
      · have hst : glue space (xs.map fmt) (k + 1) = u ++ q := by
          subst hk0
          rw [← HU.out, glue_zero, empty_append]
          exact glue_first space HF.out
        have Hst := Lib.hid hst
        have g0 : ¬ ((0 : Int) < (k : Int)) := by omega
        have hz : ¬ 9223372036854775807 < u.size + q.size := by omega
        clear hst hk0
        go_wp2_with fail
        refine HS.out.mono ?_
        rintro e w1 ⟨rfl, hB1⟩
        have hB2 := hB.trans (hB1.mono hbs)
        go_wp2
        go_roundw
        case rel => exact ⟨⟨k + 1, by omega, by go_num, by rw [Hst.out]⟩, hB2⟩
        case measure => simp [intOf]; omega
      · have hst : glue space (xs.map fmt) (k + 1) = u ++ space ++ q := by rw [← HU.out]; exact glue_next space hk0 HF.out
        have Hst := Lib.hid hst
        have g0 : (0 : Int) < (k : Int) := by omega
        have hs1 : (⟨#[32]⟩ : ByteArray).size = 1 := rfl
        have hz0 : ¬ 9223372036854775807 < u.size + (⟨#[32]⟩ : ByteArray).size := by omega
        have hz : ¬ 9223372036854775807 < (u ++ (⟨#[32]⟩ : ByteArray)).size + q.size := by rw [append_size]; omega
        clear hst hk0 hs1
        go_wp2_with fail
        refine HS.out.mono ?_
        rintro e w1 ⟨rfl, hB1⟩
        have hB2 := hB.trans (hB1.mono hbs)
        go_wp2
        go_roundw
        case rel => exact ⟨⟨k + 1, by omega, by go_num, by rw [Hst.out]; rfl⟩, hB2⟩
        case measure => simp [intOf]; omega
    · obtain rfl : k = n := by omega
      have hfin : glue space (xs.map fmt) k = fmts xs := by rw [fmts, Hn.out]
      rw [hfin]
      go_wp2
      go_ret
      exact ⟨rfl, hB⟩

set_option maxRecDepth 100000 in
set_option maxHeartbeats 1600000 in
theorem implFmts_any (a : Option Addr) (n c : Nat) (xs : List Int) (w : World) (hr : RI w a xs) (hn : xs.length = n) (hb : n ≤ 1048576) (hx : Narrow xs) :
    Calls Tryz.prog 26 #[.slice a n c] w fun e w' => e = .returned (.string (fmts xs)) ∧ Below w.heap.size w w' := by
  have Hn := Lib.hid hn; clear hn
  have HX := Lib.hid hx; clear hx
  have hA : Below w.heap.size w (w.alloc (.cells #[] 9)) := (Below.refl _ _).alloc (Nat.le_refl _) _
  have HM := Lib.hid (SO.made w)
  go_enter Tryz.func26, Tryz.ntmps26
  go_wp2
  go_loopw [3, 9] (fun v i wr => Hid (∃ k : Nat, k ≤ n ∧ i = .int .i64 k ∧ ∃ a' c', v = .slice a' k c' ∧ SO wr w.heap.size wr.heap.size a' k c' ((xs.map fmt).take k)) ∧ Below w.heap.size w wr) (fun _ i _ => n - (intOf i).toNat)
  case atStart => exact ⟨⟨0, Nat.zero_le _, rfl, _, _, rfl, HM.out⟩, hA⟩
  case round =>
    clear hA HM
    obtain ⟨HV, hB⟩ := hrel
    obtain ⟨wo, rfl⟩ : ∃ wo : World, wo = wr := ⟨_, rfl⟩
    obtain ⟨k, hk, rfl, a', c', rfl, ho⟩ := HV.out
    clear HV
    have hbs := hB.size
    by_cases hlt : k < n
    · obtain ⟨b, off, rfl, hcell⟩ := (hr.below hB).at (k := k) (by rw [Hn.out]; exact hlt)
      obtain ⟨x, hx⟩ := some_at Hn.out hlt
      have hc := hcell k x hx
      obtain ⟨hx0, hx1⟩ := HX.out x (List.mem_of_getElem? hx)
      have hst : (xs.map fmt).take (k + 1) = (xs.map fmt).take k ++ [fmt x] := by rw [List.take_add_one, List.getElem?_map, hx]; rfl
      obtain ⟨q, hq⟩ : ∃ q, fmt x = q := ⟨_, rfl⟩
      have himpl := implFmt_any x hx0 hx1 wo
      rw [hq] at hst himpl
      have Hst := Lib.hid hst
      have HS := Lib.hid himpl
      have q1 : (k : Int) < (n : Int) := by omega
      clear hcell hx hq hst himpl
      go_wp2_with fail
      refine HS.out.mono ?_
      rintro e w1 ⟨rfl, rfl⟩
      go_wp2_with (first | (at_builtin; go_loud (refine wpList_pushS (by rfl) (by rfl) _ _ (by rfl) ho (by rfl) (by rfl) (by omega) hbs ?_)))
      intro a2 c2 w2 ho2 hg2
      have hB2 := hg2.below hB hbs ho.lo
      rw [← Hst.out] at ho2
      have HO2 := Lib.hid ho2
      clear ho ho2
      go_wp2
      go_roundw
      case rel => exact ⟨⟨k + 1, by omega, by go_num, _, _, rfl, HO2.out⟩, hB2⟩
      case measure => simp [intOf]; omega
    · obtain rfl : k = n := by omega
      rw [List.take_of_length_le (by rw [List.length_map, Hn.out]; exact Nat.le_refl _)] at ho
      have hgs := glue_fmt_size HX.out k
      have h21 : k * 21 ≤ 22020096 := by omega
      have hj := join_any a' k c' (xs.map fmt) space wo ho (by omega) (by omega)
      have hfin : glue space (xs.map fmt) k = fmts xs := by rw [fmts, Hn.out]
      rw [hfin] at hj
      have HJ := Lib.hid hj
      clear hgs hj hfin ho
      go_wp2_with fail
      refine HJ.out.mono ?_
      rintro e w1 ⟨rfl, hB1⟩
      have hB2 := hB.trans (hB1.mono hbs)
      go_wp2
      go_ret
      exact ⟨rfl, hB2⟩
end Go.Proofs.YtcminkcoifkbgaaGreatDoor
