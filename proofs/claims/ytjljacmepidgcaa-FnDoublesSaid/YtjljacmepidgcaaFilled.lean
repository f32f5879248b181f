/-
  Contract of the laws' filled: a list of seven, zeros behind.
-/
import Derived.Test.YtjljacmepidgcaaBuK10
namespace Go.Proofs.Ytjljacmepidgcaa
open Go.RowKit

def fillTo7 (ys : List Int) (m : Nat) : List Int := ys ++ List.replicate (m - ys.length) 0
def lenF : Value → Nat
  | .slice _ n _ => n
  | _ => 0
set_option maxRecDepth 100000 in
set_option maxHeartbeats 1600000 in
theorem filled_any (a : Option Addr) (n c : Nat) (ys : List Int) (w : World) (hr : RI w a ys) (hn : ys.length = n) (h7 : n ≤ 7) :
    Calls Try.prog 13 #[.slice a n c] w fun e w' => ∃ a' c', e = .returned (.slice a' 7 c') ∧ OwI w' w.heap.size w'.heap.size a' 7 c' (fillTo7 ys 7) ∧ Below w.heap.size w w' := by
  have Hn := Lib.hid hn; clear hn
  have hemp : (w.alloc (.cells #[] 3)).ownsRow w.heap.size 3 1 (.slice (some ⟨w.heap.size, 0, none⟩) 0 0) 0 [] := World.ownsRow_made _ #[] 0 (Nat.le_refl _) (Nat.zero_le _) rfl
  have h1 : OwI (w.alloc (.cells #[] 3)) w.heap.size (w.alloc (.cells #[] 3)).heap.size (some ⟨w.heap.size, 0, none⟩) 0 0 [] := OwI.mk hemp
  have hB0 : Below w.heap.size w (w.alloc (.cells #[] 3)) := (Below.refl _ _).alloc (Nat.le_refl _) _
  have hr0 := hr.below hB0
  have H1 := Lib.hid h1; clear h1 hemp
  go_enter Try.func13, Try.ntmps13
  go_wp2_with (first | (at_builtin; go_loud (refine wpList_appI (by rfl) _ _ (by rfl) H1.out (by rfl) hr0 Hn.out (by rfl) (by omega) (by simp) ?_)))
  intro a2 c2 w2 ho2 hg2
  have hB2 : Below w.heap.size w w2 := hg2.below hB0 (by simp) (fun k hk => by simp [Value.ownBlock] at hk; omega)
  have Ho2 := Lib.hid (show OwI w2 w.heap.size w2.heap.size a2 n c2 (fillTo7 ys n) by
    have : fillTo7 ys n = ys := by unfold fillTo7; rw [Hn.out]; simp
    rw [this]
    simpa using ho2)
  clear ho2 hg2
  go_wp2
  go_loopw [3] (fun v wr => Hid (∃ (j : Nat) (a' : Option Addr) (c' : Nat), n ≤ j ∧ j ≤ 7 ∧ v = .slice a' j c' ∧ OwI wr w.heap.size wr.heap.size a' j c' (fillTo7 ys j)) ∧ Below w.heap.size w wr) (fun v _ => 7 - lenF v)
  case atStart => exact ⟨⟨n, _, _, Nat.le_refl _, h7, by simp, Ho2.out⟩, hB2⟩
  case round =>
    clear Ho2 hB2
    obtain ⟨HV, hB⟩ := hrel
    obtain ⟨wo, rfl⟩ : ∃ wo : World, wo = wr := ⟨_, rfl⟩
    obtain ⟨j, a', c', hnj, hj, rfl, ho⟩ := HV.out
    clear HV
    have hbs := hB.size
    have Ho := Lib.hid ho
    clear ho
    by_cases hlt : j < 7
    · have q0 : (j : Int) < 7 := by omega
      have Hst := Lib.hid (show fillTo7 ys j ++ [0] = fillTo7 ys (j + 1) by
        unfold fillTo7
        rw [List.append_assoc, Hn.out, show j + 1 - n = (j - n) + 1 by omega, List.replicate_succ'])
      go_wp2_with (first | (at_builtin; go_loud (refine wpList_pushI (by rfl) (by rfl) _ _ (by rfl) Ho.out (by rfl) (by rfl) (by omega) hbs ?_)))
      intro a3 c3 w3 ho3 hg3
      rw [Hst.out] at ho3
      have Ho3 := Lib.hid ho3
      have hB3 := hg3.below hB hbs (fun q hq => Ho.out.1.lo q hq)
      clear ho3 hg3
      go_wp2
      go_roundw
      case rel => exact ⟨⟨j + 1, _, _, by omega, by omega, rfl, Ho3.out⟩, hB3⟩
      case measure => simp [lenF]; omega
    · obtain rfl : j = 7 := by omega
      go_wp2
      go_ret
      exact ⟨_, _, rfl, Ho.out, hB⟩
end Go.Proofs.Ytjljacmepidgcaa
