/-
  Permutations stay permutations; contracts of l1Length, LengthOf, isReduced.
-/
import Derived.Test.YtnjfbgdighaiiaaWords2
import Derived.Test.YtnjfbgdighaiiaaLength
namespace Go.Proofs.Ytnjfbgdighaiiaa
open Go.RowKit

theorem isPerm_play {p : Nat} {xs : List Int} (h : isWord (p : Int) xs = true) : ∀ {k : Nat}, k ≤ xs.length → isPerm (play p xs k) = true := by
  have hb := isWord_bd h
  intro k
  induction k with
  | zero => intro _; exact isPerm_ident (by omega)
  | succ k ih =>
    intro hk
    obtain ⟨x, hx⟩ := some_at rfl (show k < xs.length by omega)
    have := hb.2.2.2 k x hx
    rw [play, getD_of hx]
    exact isPerm_swp (ih (by omega)) (by rw [play_length]; omega) (by rw [play_length]; omega)

def reduced (N : Int) (xs : List Int) : Bool := isWord N xs && decide (sumI (code (play N.toNat xs xs.length)) = xs.length)
set_option maxRecDepth 100000 in
set_option maxHeartbeats 800000 in
theorem isReduced_any (N : Int) (a : Option Addr) (n c : Nat) (xs : List Int) (w : World) (hr : RI w a xs) (hn : xs.length = n) (hb : n ≤ 17592186044416) (hl : -9223372036854775808 ≤ N) (hu : N ≤ 9223372036854775807) :
    Calls Try.prog 106 #[.int .i64 N, .slice a n c] w fun e w' => e = .returned (.bool (reduced N xs)) ∧ Below w.heap.size w w' := by
  have Hn := Lib.hid hn; clear hn
  cases hw : isWord N xs
  · have hno := Lib.hid (show reduced N xs = false by rw [reduced, hw]; rfl)
    have Hw := Lib.hid hw; clear hw
    go_enter Try.func106, Try.ntmps106
    go_wp2_with fail
    refine (is (isWord_any _ _ _ _ xs _ hr Hn.out hb hl hu) Hw.out).mono ?_
    rintro e w1 ⟨rfl, rfl⟩
    go_wp2
    go_ret
    exact ⟨ret_bool hno.out.symm, Below.refl _ _⟩
  · have hbd := isWord_bd hw
    obtain ⟨p, rfl⟩ : ∃ p : Nat, N = (p : Int) := ⟨N.toNat, by omega⟩
    have hpp := isPerm_play hw (k := n) (by rw [Hn.out]; exact Nat.le_refl _)
    have hred : reduced (p : Int) xs = decide (sumI (code (play p xs n)) = (n : Int)) := by rw [reduced, hw, Hn.out]; rfl
    have Hred := Lib.hid hred
    have Hpp := Lib.hid hpp
    have Hw := Lib.hid hw
    have hp7 : p ≤ 7 := by omega
    clear hbd hpp hred hw
    go_enter Try.func106, Try.ntmps106
    go_wp2_with fail
    refine (is (isWord_any _ _ _ _ xs _ hr Hn.out hb hl hu) Hw.out).mono ?_
    rintro e w1 ⟨rfl, rfl⟩
    go_wp2_with fail
    refine (wordPerm_any _ p _ _ _ xs _ hr Hn.out hb rfl Hw.out).mono ?_
    rintro e w1 ⟨a1, c1, rfl, ho, hb1⟩
    go_wp2_with fail
    refine (lengthOf_any _ _ _ (play p xs n) _ ho.rd (play_length p xs n) (by omega) ho.1.lt Hpp.out).mono ?_
    rintro e w2 ⟨rfl, hb2⟩
    have hB := hb1.trans (hb2.mono hb1.size)
    obtain ⟨s, hs⟩ : ∃ s, sumI (code (play p xs n)) = s := ⟨_, rfl⟩
    rw [hs] at Hred ⊢
    clear ho hb1 hb2
    go_wp2
    go_ret
    exact ⟨ret_bool (by rw [Hred.out]; by_cases h : s = (n : Int) <;> simp [h]), hB⟩
end Go.Proofs.Ytnjfbgdighaiiaa
