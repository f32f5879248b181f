/-
  Contract of the program's RskOf.
-/
import Derived.Test.YtleehkgfoicmdaaRsk2
namespace Go.Proofs.Ytleehkgfoicmdaa
open Go.RowKit

theorem IIQ.nil {w : World} {Q : Nat → Prop} : IIQ w Q none 0 0 [] := ⟨[], World.ownsRow_nil _ _ _ _, by simp [Value.ownBlock], rfl, by simp, by simp, by simp⟩

def RskPost (xs : List Int) (w : World) (e : Ending) (w' : World) : Prop := ∃ a' n' c' b' m' d' r2, e = .returned (.tuple #[.slice a' n' c', .slice b' m' d', .bool r2]) ∧ Hid (∃ P : Nat → Prop, (∀ k, P k → w.heap.size ≤ k) ∧ IIQ w' P a' n' c' (rskOf xs).1 ∧ IIQ w' (fun k => w.heap.size ≤ k ∧ ¬ P k) b' m' d' (rskOf xs).2.1) ∧ Hid (r2 = (rskOf xs).2.2) ∧ Below w.heap.size w w'
set_option maxRecDepth 100000 in
set_option maxHeartbeats 1600000 in
theorem implRskOf_post (a : Option Addr) (n c : Nat) (xs : List Int) (w : World) (hr : RI w a xs) (hn : xs.length = n) (hb : n ≤ 17592186044416) :
    Calls Try.prog 51 #[.slice a n c] w fun e w' => RskPost xs w e w' := by
  by_cases hbig : 16 < n
  · have hno := rskOf_big (by rw [hn]; exact hbig)
    clear hn
    have Hno := Lib.hid hno; clear hno
    go_enter Try.func51, Try.ntmps51
    go_wp2
    go_ret3
    exact ⟨_, _, _, _, _, _, _, rfl, ⟨fun _ => False, fun _ h => h.elim, by rw [Hno.out]; exact IIQ.nil, by rw [Hno.out]; exact IIQ.nil⟩, by rw [Hno.out]; exact rfl, Below.refl _ _⟩
  have Hn := Lib.hid hn; clear hn
  cases hall : xs.all entry
  · have hno : rskOf xs = ([], [], false) := by rw [rskOf, if_neg]; rintro ⟨_, h⟩; rw [hall] at h; cases h
    have Hall := Lib.hid (show (!xs.all entry) = true by rw [hall]; rfl); clear hall
    have Hno := Lib.hid hno; clear hno
    go_enter Try.func51, Try.ntmps51
    go_wp2_with fail
    refine (is (containsBad_any _ _ _ xs _ hr Hn.out (by omega)) Hall.out).mono ?_
    rintro e w1 ⟨rfl, hd⟩
    go_wp2
    go_ret3
    exact ⟨_, _, _, _, _, _, _, rfl, ⟨fun _ => False, fun _ h => h.elim, by rw [Hno.out]; exact IIQ.nil, by rw [Hno.out]; exact IIQ.nil⟩, by rw [Hno.out]; exact rfl, hd.below _⟩
  · have hok := rskOf_ok (by rw [Hn.out]; omega) hall
    have Hok := Lib.hid hok; clear hok
    have Hall := Lib.hid (show (!xs.all entry) = false by rw [hall]; rfl); clear hall
    go_enter Try.func51, Try.ntmps51
    go_wp2_with fail
    refine (is (containsBad_any _ _ _ xs _ hr Hn.out (by omega)) Hall.out).mono ?_
    rintro e w1 ⟨rfl, hd⟩
    have hb1 := hd.below w.heap.size
    have hz1 : w1.heap.size = w.heap.size := by obtain ⟨m, rfl⟩ := hd; rfl
    go_wp2_with fail
    refine (inserting_any _ _ _ xs _ (hr.drew hd) Hn.out (by omega)).mono ?_
    rintro e w2 ⟨a2, n2, c2, b2, m2, d2, rfl, HP, hb2⟩
    rw [hz1] at HP hb2
    have hB := hb1.trans hb2
    go_wp2
    go_ret3
    exact ⟨_, _, _, _, _, _, _, rfl, by rw [Hok.out]; exact HP.out, by rw [Hok.out]; exact rfl, hB⟩
theorem implRskOf_any (a : Option Addr) (n c : Nat) (xs : List Int) (w : World) (hr : RI w a xs) (hn : xs.length = n) (hb : n ≤ 17592186044416) :
    Calls Try.prog 51 #[.slice a n c] w fun e w' => ∃ a' n' c' b' m' d' r2, e = .returned (.tuple #[.slice a' n' c', .slice b' m' d', .bool r2]) ∧ Hid (∃ P : Nat → Prop, (∀ k, P k → w.heap.size ≤ k) ∧ IIQ w' P a' n' c' (rskOf xs).1 ∧ IIQ w' (fun k => w.heap.size ≤ k ∧ ¬ P k) b' m' d' (rskOf xs).2.1) ∧ Hid (r2 = (rskOf xs).2.2) ∧ Below w.heap.size w w' := implRskOf_post a n c xs w hr hn hb
end Go.Proofs.Ytleehkgfoicmdaa
