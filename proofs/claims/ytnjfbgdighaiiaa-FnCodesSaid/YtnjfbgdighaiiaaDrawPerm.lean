/-
  Contract of dPerm: a permutation drawn.
-/
import Derived.Test.YtnjfbgdighaiiaaDecode
namespace Go.Proofs.Ytnjfbgdighaiiaa
open Go.RowKit

def codes : Nat → List (List Int)
  | 0 => [[]]
  | n + 1 => (List.range (n + 1)).flatMap fun (x : Nat) => (codes n).map fun l => (x : Int) :: l
def perms (n : Nat) : List (List Int) := (codes n).map decode
theorem mem_codes : ∀ (n : Nat) (l : List Int), l.length = n → (∀ (k : Nat) (x : Int), l[k]? = some x → 0 ≤ x ∧ x < (n : Int) - k) → l ∈ codes n := by
  intro n
  induction n with
  | zero => intro l hl _; simp [codes, List.eq_nil_of_length_eq_zero hl]
  | succ n ih =>
    intro l hl h
    cases l with
    | nil => simp at hl
    | cons x l =>
      have h0 := h 0 x rfl
      rw [codes, List.mem_flatMap]
      refine ⟨x.toNat, by rw [List.mem_range]; omega, ?_⟩
      rw [List.mem_map]
      refine ⟨l, ih l (by simpa using hl) (fun k y hy => ?_), by congr 1; omega⟩
      have := h (k + 1) y (by simpa using hy)
      omega
theorem Only.new {g B S : Nat} {w w1 w2 : World} (h : Only g (g + 1) w w1) (k : Only B S w1 w2) (hB : w.heap.size ≤ B) : Only g (g + 1) w w2 :=
  ⟨k.os.trans h.os, k.tape.trans h.tape, k.output.trans h.output, Nat.le_trans h.size k.size, fun i hi hn => (k.block i (Nat.lt_of_lt_of_le hi h.size) (by omega)).trans (h.block i hi hn)⟩
theorem Only.laid {g : Nat} {w w1 w2 : World} (h : Only g (g + 1) w w1) (k : Below w1.heap.size w1 w2) : Only g (g + 1) w w2 :=
  ⟨k.os.trans h.os, k.tape.trans h.tape, k.output.trans h.output, Nat.le_trans h.size k.size, fun i hi hn => (k.block i (Nat.lt_of_lt_of_le hi h.size)).trans (h.block i hi hn)⟩
theorem Cur.only {w w' : World} {g B S : Nat} {a : Option Addr} {n c : Nat} {xs : List Int} (h : Cur w g a n c xs) (ho : Only B S w w') (hg : g < B) : Cur w' g a n c xs := by
  obtain ⟨⟨i, hh, h0, h1⟩, h2, h3, h4, h5, h6⟩ := h
  refine ⟨⟨i, hh, h0, by rw [ho.block g (Array.getElem?_eq_some_iff.1 h1).1 (by omega)]; exact h1⟩, h2.only ho ?_, h3, h4, h5, h6⟩
  rcases h6 with h6 | h6
  · exact .inl h6
  · exact .inr fun ad had => Nat.lt_trans (h6 ad had) hg
theorem Cur.lt {w : World} {g : Nat} {a : Option Addr} {n c : Nat} {xs : List Int} (h : Cur w g a n c xs) : g < w.heap.size := by
  obtain ⟨⟨i, hh, h0, h1⟩, _⟩ := h
  exact (Array.getElem?_eq_some_iff.1 h1).1

def PermPost (k : Nat) (g : Nat) (a : Option Addr) (m c : Nat) (xs : List Int) (w : World) (e : Ending) (w' : World) : Prop :=
  ∃ u a' c', e = .returned (.slice a' k c') ∧ u ∈ perms k ∧ OwI w' w.heap.size w'.heap.size a' k c' u ∧ Cur w' g a m c xs ∧ Only g (g + 1) w w'
def fewPerms : Bool := [1, 2, 3, 4, 5].all fun n => (perms n).all fun u => u.length == n && isPerm u
theorem fewPerms_true : fewPerms = true := by kernel_rfl
theorem perms_ok {k : Nat} {u : List Int} (h : u ∈ perms k) (h1 : 1 ≤ k) (h5 : k ≤ 5) : u.length = k ∧ isPerm u = true := by
  have h2 := fewPerms_true
  unfold fewPerms at h2
  rw [List.all_eq_true] at h2
  have h3 := h2 k (by simp; omega)
  rw [List.all_eq_true] at h3
  have h4 := h3 u h
  simpa using h4

set_option maxRecDepth 100000 in
set_option maxHeartbeats 3200000 in
theorem dPerm_any (k : Nat) (h1 : 1 ≤ k) (h5 : k ≤ 5) (g : Nat) (a : Option Addr) (m c : Nat) (xs : List Int) (w : World) (hc : Cur w g a m c xs) :
    Calls Try.prog 80 #[.pointer (some ⟨g, 0, none⟩), .int .i64 k] w (PermPost k g a m c xs w) := by
  have hgw := hc.lt
  have hI0 : OwI (w.alloc (.cells #[] 3)) w.heap.size (w.alloc (.cells #[] 3)).heap.size (some ⟨w.heap.size, 0, none⟩) 0 0 [] := OwI.mk (World.ownsRow_made _ #[] 0 (Nat.le_refl _) (Nat.zero_le _) rfl)
  have hB0 : Below w.heap.size w (w.alloc (.cells #[] 3)) := (Below.refl _ _).alloc (Nat.le_refl _) _
  have hO0 := (Only.refl g (g + 1) w).laid hB0
  have hC0 := hc.below hB0
  have H1 := Lib.hid hI0; clear hI0
  go_enter Try.func80, Try.ntmps80
  go_wp2
  go_loopw [5, 6] (fun v i wr => ∃ j : Nat, j ≤ k ∧ i = .int .i64 j ∧ Hid (∃ a' c' ys, v = .slice a' j c' ∧ OwI wr w.heap.size wr.heap.size a' j c' ys ∧ ∀ (t : Nat) (y : Int), ys[t]? = some y → 0 ≤ y ∧ y < (k : Int) - t) ∧ Cur wr g a m c xs ∧ Only g (g + 1) w wr) (fun _ i _ => k - (intOf i).toNat)
  case atStart => exact ⟨0, Nat.zero_le _, rfl, ⟨_, _, [], rfl, H1.out, by simp⟩, hC0, hO0⟩
  case round =>
    clear hB0 hO0 hC0 H1
    obtain ⟨j, hj, rfl, HV, hC, hO⟩ := hrel
    obtain ⟨wo, rfl⟩ : ∃ wo : World, wo = wr := ⟨_, rfl⟩
    obtain ⟨a', c', ys, rfl, ho, hys⟩ := HV.out
    clear HV
    have hsz := hO.size
    by_cases hlt : j < k
    · have HY := Lib.hid hys; clear hys
      have q1 : (1 : Int) ≤ (k : Int) - (j : Int) := by omega
      have q2 : (k : Int) - (j : Int) ≤ 256 := by omega
      go_wp2_with fail
      refine (l1Below_any _ q1 q2 g a m c xs _ hC).mono ?_
      rintro e w1 ⟨r, rfl, hr, hC1, hO1⟩
      have ho1 := ho.only hO1 (.inr (by omega))
      have hO2 := hO.trans hO1
      have hsz1 := hO1.size
      go_wp2_with (first | (at_builtin; go_loud (refine wpList_pushI (by rfl) (by rfl) _ _ (by rfl) ho1 (by rfl) (by rfl) (by omega) (by omega) ?_)))
      intro a2 c2 w2 ho2 hg2
      have hO3 := hg2.only (B := w.heap.size) (S := w1.heap.size) (fun k hk => ho1.1.lo k hk) (fun k hk => Nat.lt_of_lt_of_le (ho1.2 k hk) hsz1)
      have hO4 := hO2.new hO3 (Nat.le_refl _)
      have hC2 := hC1.only hO3 hgw
      have hy2 : ∀ (t : Nat) (y : Int), (ys ++ [(r : Int)])[t]? = some y → 0 ≤ y ∧ y < (k : Int) - t := by
        intro t y hy
        have hl := ho.len
        rw [List.getElem?_append] at hy
        split at hy
        · exact HY.out t y hy
        · have ht : t - ys.length = 0 := by
            rcases Nat.eq_zero_or_pos (t - ys.length) with h | h
            · exact h
            · rw [List.getElem?_eq_none (by simp; omega)] at hy; cases hy
          rw [ht] at hy
          obtain rfl := Option.some.inj hy
          have : t = j := by omega
          omega
      have HY2 := Lib.hid hy2; clear hy2
      go_wp2
      go_roundw
      case rel => exact ⟨j + 1, by omega, by go_num, ⟨_, _, _, rfl, ho2, HY2.out⟩, hC2, hO4⟩
      case measure => simp [intOf]; omega
    · obtain rfl : j = k := by omega
      have hm := mem_codes j ys ho.len hys
      have hp : decode ys ∈ perms j := List.mem_map_of_mem hm
      have hpl := (perms_ok hp h1 h5).1
      have hyb : ∀ x ∈ ys, 0 ≤ x ∧ x ≤ 1000 := by
        intro x hx
        obtain ⟨t, ht⟩ := List.mem_iff_getElem?.1 hx
        have := hys t x ht
        omega
      have Hp := Lib.hid hp
      have Hpl := Lib.hid hpl
      clear hm hp hpl hys
      go_wp2_with fail
      refine (l1Decode_any _ _ _ ys _ ho.rd ho.len (by omega) hyb).mono ?_
      rintro e w1 ⟨a2, n2, c2, rfl, ho2, hB2⟩
      obtain rfl : n2 = j := by rw [← ho2.len]; exact Hpl.out
      have hC1 := hC.below hB2
      have hO1 := hO.laid hB2
      have ho3 := ho2.mono (B' := w.heap.size) hsz (Nat.le_refl _)
      go_wp2
      go_ret
      exact ⟨_, _, _, rfl, Hp.out, ho3, hC1, hO1⟩
end Go.Proofs.Ytnjfbgdighaiiaa
