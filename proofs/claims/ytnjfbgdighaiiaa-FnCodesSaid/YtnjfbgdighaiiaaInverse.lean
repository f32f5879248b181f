/-
  Contract of InversePerm.
-/
import Derived.Test.YtnjfbgdighaiiaaCloneI
import Derived.Test.YtnjfbgdighaiiaaPerm
import Derived.Test.YtnjfbgdighaiiaaKI
namespace Go.Proofs.Ytnjfbgdighaiiaa
open Go.RowKit

def invTo (n : Nat) (xs : List Int) : Nat → List Int
  | 0 => List.replicate n 0
  | k + 1 => (invTo n xs k).set (xs.getD k 0).toNat (k : Int)
def inv (xs : List Int) : List Int := invTo xs.length xs xs.length
theorem invTo_length (n : Nat) (xs : List Int) (k : Nat) : (invTo n xs k).length = n := by
  induction k with
  | zero => simp [invTo]
  | succ k ih => simp [invTo, ih]

set_option maxRecDepth 100000 in
set_option maxHeartbeats 1600000 in
theorem implInverse_any (a : Option Addr) (n c : Nat) (xs : List Int) (w : World) (hr : RI w a xs) (hn : xs.length = n) (hb : n ≤ 1000) (hp : isPerm xs = true) (hin : ∀ x ∈ xs, 0 ≤ x ∧ x < (n : Int)) :
    Calls Try.prog 35 #[.slice a n c] w fun e w' => ∃ a' c', e = .returned (.slice a' n c') ∧ OwI w' w.heap.size w'.heap.size a' n c' (inv xs) ∧ Below w.heap.size w w' := by
  have Hn := Lib.hid hn; clear hn
  have HP := Lib.hid hp; clear hp
  have HI := Lib.hid hin; clear hin
  obtain ⟨i0, hi, hz0, hz1, hz2⟩ := info_parts Try.info3
  go_enter Try.func35, Try.ntmps35
  go_wp2_with fail
  refine (is (implIsPerm_any _ _ _ xs _ hr Hn.out (by omega)) HP.out).mono ?_
  rintro e w0 ⟨rfl, hB0⟩
  have hr0 := hr.below hB0
  have hs0 := hB0.size
  go_wp2_with (first | (at_make; refine wpList_make_full _ rfl _ _ 22 rfl w.heap.size 3 i0 (.int .i64 0) 1 Try.underlying22 hi hz0 hz1 .i64 .i64 _ _ n rfl rfl ?m1 ?m2 ?m3 ?m4 ?m5 ?_))
  case m1 => rfl
  case m2 => rfl
  case m3 => rw [hz2]; omega
  case m4 => unfold maxLen; omega
  case m5 => exact hs0
  intro w1 hown hg
  have hB : Below w.heap.size w w1 := hB0.grown hg hs0 (by simp)
  have hrow : OS w1 w.heap.size (some ⟨w0.heap.size, 0, none⟩) n n (invTo n xs 0) := by
    refine OS.of ?_
    have e := toList_madeCells_one (.int .i64 0) n
    simpa [ints, Value.cells, e, invTo] using hown
  have Hrow := Lib.hid hrow; clear hown hg hrow
  go_wp2
  go_loopw [14] (fun iv wr => Hid (∃ i : Nat, i ≤ n ∧ iv = .int .i64 i ∧ OS wr w.heap.size (some ⟨w0.heap.size, 0, none⟩) n n (invTo n xs i)) ∧ Below w.heap.size w wr) (fun i _ => n - (intOf i).toNat)
  case atStart => exact ⟨⟨0, Nat.zero_le _, rfl, Hrow.out⟩, hB⟩
  case round =>
    clear Hrow hB
    obtain ⟨HV, hB⟩ := hrel
    obtain ⟨wo, rfl⟩ : ∃ wo : World, wo = wr := ⟨_, rfl⟩
    obtain ⟨i, hi', rfl, ho⟩ := HV.out
    clear HV
    by_cases hlt : i < n
    · obtain ⟨b, off, rfl, hcell⟩ := (hr.below hB).at (k := i) (by rw [Hn.out]; exact hlt)
      obtain ⟨x0, hx⟩ := some_at Hn.out hlt
      have hcx := hcell i x0 hx
      obtain ⟨hx0, hx1⟩ := HI.out x0 (List.mem_of_getElem? hx)
      obtain ⟨x, rfl⟩ : ∃ x : Nat, x0 = x := ⟨x0.toNat, by omega⟩
      have hst : (invTo n xs i).set x (i : Int) = invTo n xs (i + 1) := by rw [invTo, getD_of hx]; rfl
      have Hst := Lib.hid hst
      clear hcell hx hst
      have hxn : x < n := by omega
      obtain ⟨g, hg0, hBg, ⟨v, hv, hcv⟩, hfv⟩ := OI.cons ho hxn
      obtain rfl : w0.heap.size = g := by simpa using hg0
      have s := ho.store x (i : Int)
      rw [Hst.out] at s
      have HS := Lib.hid s.1
      have hB2 := hB.setCell (p := ⟨w0.heap.size, x, none⟩) hBg (.int .i64 i)
      have HB2 := Lib.hid hB2
      have q1 : (i : Int) < (n : Int) := by omega
      clear s ho hv hg0 hB2
      go_wp2
      go_roundw
      case rel => exact ⟨⟨i + 1, by omega, by go_num, HS.out⟩, HB2.out⟩
      case measure => simp [intOf]; omega
    · obtain rfl : i = n := by omega
      have hfin : invTo i xs i = inv xs := by rw [inv, Hn.out]
      rw [hfin] at ho
      have HO := Lib.hid ho; clear ho
      go_wp2
      go_ret
      exact ⟨_, _, rfl, OwI.of HO.out, hB⟩
end Go.Proofs.Ytnjfbgdighaiiaa
