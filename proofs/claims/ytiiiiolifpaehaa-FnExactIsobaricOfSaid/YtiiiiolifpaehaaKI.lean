/-
  What a law asks of lists of integers, in one form: copied, compared, marked, held.
-/
import Derived.Test.YtiiiiolifpaehaaToIntS
import Derived.Test.YtiiiiolifpaehaaEqIntS
import Derived.Test.YtiiiiolifpaehaaMark
namespace Go.Proofs.Ytiiiiolifpaehaa
open Go.RowKit

theorem wf_bounds {x : Int} (h : (Lit.int .i64 x).wf = true) : -9223372036854775808 ≤ x ∧ x ≤ 9223372036854775807 := by
  simp [Lit.wf, IntKind.min, IntKind.max, IntKind.signed, IntKind.bits] at h
  omega
abbrev sz_I (xs : List Int) : Nat := xs.length
def mk_I (xs : List Int) (k : Int) : List Int := iota k xs.length
theorem conv_I (a : Option Addr) (n c : Nat) (xs : List Int) (w : World) (hr : RI w a xs) (hn : xs.length = n) (hb : n ≤ 17592186044416) :
    Calls Try.prog 20 #[.slice a n c] w fun e w' => ∃ a' c', e = .returned (.slice a' n c') ∧ OwI w' w.heap.size w'.heap.size a' n c' xs ∧ Below w.heap.size w w' :=
  (toIntS_any a n c xs w hr hn hb).mono fun _ _ ⟨a', c', he, ho, hb⟩ => ⟨a', c', he, OwI.of ho, hb⟩
theorem eq_I (a b : Option Addr) (n c m d : Nat) (xs ys : List Int) (w : World) (hr : RI w a xs) (hs : RI w b ys) (hn : xs.length = n) (hm : ys.length = m) (hb : n ≤ 17592186044416) :
    Calls Try.prog 23 #[.slice a n c, .slice b m d] w fun e w' => e = .returned (.bool (decide (xs = ys))) ∧ Drew w w' := eqIntS_any a b n c m d xs ys w hr hs hn hm hb
theorem mark_I (B S : Nat) (a : Option Addr) (n c : Nat) (xs : List Int) (k : Int) (w : World) {Z : Nat} (ho : OwI w B S a n c xs) (hk0 : 0 ≤ k) (hk : k ≤ 4398046511104) (hb : Z ≤ 1099511627776) (hZ : sz_I xs = Z) :
    Calls Try.prog 24 #[.slice a n c, .int .i64 k] w fun e w' => e = .returned (.int .i64 (k + Z)) ∧ OwI w' B S a n c (mk_I xs k) ∧ Only B S w w' := by
  obtain rfl : n = Z := ho.len.symm.trans hZ
  have hl := ho.len
  have h := markI_any B S a n c xs k w ho hk0 (by omega) (by omega)
  unfold mk_I
  rw [hl]
  exact h
theorem held_I {B S : Nat} (a : Option Addr) (n c : Nat) (xs : List Int) (k : Int) (w : World) {Z : Nat} (ho : OwI w B S a n c (mk_I xs k)) (hk0 : 0 ≤ k) (hk : k ≤ 4398046511104) (hb : Z ≤ 1099511627776) (hZ : sz_I xs = Z) :
    Calls Try.prog 42 #[.slice a n c, .int .i64 k] w fun e w' => e = .returned (.int .i64 (k + Z)) ∧ Drew w w' := by
  have hl := ho.len
  simp only [mk_I, iota_length] at hl
  obtain rfl : n = Z := hl.symm.trans hZ
  have h := ho.rd
  unfold mk_I at h
  rw [hl] at h
  exact heldIntS_any a n c k w h hk0 (by omega) (by omega)
end Go.Proofs.Ytiiiiolifpaehaa
