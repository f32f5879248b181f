/-
  Contracts of slices.Clone of integers and l1Ints.
-/
import Derived.Test.YtiiiiolifpaehaaApp
namespace Go.Proofs.Ytiiiiolifpaehaa
open Go.RowKit

theorem OwI.nil {w : World} {B S : Nat} : OwI w B S none 0 0 [] := ⟨OS.of ⟨rfl, .inl ⟨rfl, rfl⟩⟩, fun k hk => by simp [Value.ownBlock] at hk⟩

set_option maxRecDepth 100000 in
set_option maxHeartbeats 400000 in
theorem cloneI_any (a : Option Addr) (n c : Nat) (xs : List Int) (w : World) (hr : RI w a xs) (hn : xs.length = n) (hb : n ≤ 1048576) :
    Calls Try.prog 176 #[.slice a n c] w fun e w' => ∃ a' c', e = .returned (.slice a' n c') ∧ OwI w' w.heap.size w'.heap.size a' n c' xs ∧ Below w.heap.size w w' := by
  have q22 : ∀ (w : World) (a : Option Addr) (n c n' c' : Nat), (binOp .eql 22 (.slice a n c) (.slice none n' c')).run Try.prog w = .ok (.bool a.isNone) w := fun w a n c n' c' => Lib.run_eql_slice_nil w _ _ a n c n' c' Try.underlying22
  rcases a with _ | ad
  · have hx : xs = [] := by
      rcases hr with h | ⟨b, off, h, _⟩
      · exact h
      · cases h
    subst hx
    simp only [List.length_nil] at hn
    subst hn
    go_enter Try.func176, Try.ntmps176
    go_wp2
    go_ret
    exact ⟨_, _, rfl, OwI.nil, Below.refl _ _⟩
  · have h1 : OwI (w.alloc (.cells #[] 3)) w.heap.size (w.alloc (.cells #[] 3)).heap.size (some ⟨w.heap.size, 0, none⟩) 0 0 [] := OwI.mk (World.ownsRow_made _ #[] 0 (Nat.le_refl _) (Nat.zero_le _) rfl)
    have hB0 : Below w.heap.size w (w.alloc (.cells #[] 3)) := (Below.refl _ _).alloc (Nat.le_refl _) _
    have hr0 := hr.below hB0
    have Hn := Lib.hid hn; clear hn
    have H1 := Lib.hid h1; clear h1
    go_enter Try.func176, Try.ntmps176
    go_wp2_with (first | (at_builtin; go_loud (refine wpList_appI (by rfl) _ _ (by rfl) H1.out (by rfl) hr0 Hn.out (by rfl) (by omega) (by simp) ?_)))
    intro a2 c2 w2 ho2 hg2
    have hB2 : Below w.heap.size w w2 := hg2.below hB0 (by simp) (fun k hk => by simp [Value.ownBlock] at hk; omega)
    go_wp2
    go_ret
    exact ⟨a2, c2, by simp, by simpa using ho2, hB2⟩
set_option maxHeartbeats 400000 in
theorem l1Ints_any (a : Option Addr) (n c : Nat) (xs : List Int) (w : World) (hr : RI w a xs) (hn : xs.length = n) (hb : n ≤ 1048576) :
    Calls Try.prog 123 #[.slice a n c] w fun e w' => ∃ a' c', e = .returned (.slice a' n c') ∧ OwI w' w.heap.size w'.heap.size a' n c' xs ∧ Below w.heap.size w w' := by
  have Hn := Lib.hid hn; clear hn
  have hemp : (w.alloc (.cells #[] 3)).ownsRow w.heap.size 3 1 (.slice (some ⟨w.heap.size, 0, none⟩) 0 0) 0 [] := World.ownsRow_made _ #[] 0 (Nat.le_refl _) (Nat.zero_le _) rfl
  have h1 : OwI (w.alloc (.cells #[] 3)) w.heap.size (w.alloc (.cells #[] 3)).heap.size (some ⟨w.heap.size, 0, none⟩) 0 0 [] := OwI.mk hemp
  have hB0 : Below w.heap.size w (w.alloc (.cells #[] 3)) := (Below.refl _ _).alloc (Nat.le_refl _) _
  have hr0 := hr.below hB0
  have H1 := Lib.hid h1; clear h1 hemp
  go_enter Try.func123, Try.ntmps123
  go_wp2_with (first | (at_builtin; go_loud (refine wpList_appI (by rfl) _ _ (by rfl) H1.out (by rfl) hr0 Hn.out (by rfl) (by omega) (by simp) ?_)))
  intro a2 c2 w2 ho2 hg2
  have hB2 : Below w.heap.size w w2 := hg2.below hB0 (by simp) (fun k hk => by simp [Value.ownBlock] at hk; omega)
  go_wp2
  go_ret
  exact ⟨a2, c2, by simp, by simpa using ho2, hB2⟩
end Go.Proofs.Ytiiiiolifpaehaa
