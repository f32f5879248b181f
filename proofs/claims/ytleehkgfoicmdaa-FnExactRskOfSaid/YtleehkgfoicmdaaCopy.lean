/-
  Contracts of l4Copy, copyRows and slices.Clone: rows copied.
-/
import Derived.Test.YtleehkgfoicmdaaRows2
namespace Go.Proofs.Ytleehkgfoicmdaa
open Go.RowKit

set_option maxRecDepth 100000 in
set_option maxHeartbeats 400000 in
theorem cloneI_any (a : Option Addr) (n c : Nat) (xs : List Int) (w : World) (hr : RI w a xs) (hn : xs.length = n) (hb : n ≤ 1048576) :
    Calls Try.prog 126 #[.slice a n c] w fun e w' => ∃ a' c', e = .returned (.slice a' n c') ∧ OwI w' w.heap.size w'.heap.size a' n c' xs ∧ Below w.heap.size w w' := by
  have q22 : ∀ (w : World) (a : Option Addr) (n c n' c' : Nat), (binOp .eql 22 (.slice a n c) (.slice none n' c')).run Try.prog w = .ok (.bool a.isNone) w := fun w a n c n' c' => Lib.run_eql_slice_nil w _ _ a n c n' c' Try.underlying22
  rcases a with _ | ad
  · have hx : xs = [] := by
      rcases hr with h | ⟨b, off, h, _⟩
      · exact h
      · cases h
    subst hx
    simp only [List.length_nil] at hn
    subst hn
    go_enter Try.func126, Try.ntmps126
    go_wp2
    go_ret
    exact ⟨_, _, rfl, OwI.nil, Below.refl _ _⟩
  · have h1 : OwI (w.alloc (.cells #[] 3)) w.heap.size (w.alloc (.cells #[] 3)).heap.size (some ⟨w.heap.size, 0, none⟩) 0 0 [] := OwI.mk (World.ownsRow_made _ #[] 0 (Nat.le_refl _) (Nat.zero_le _) rfl)
    have hB0 : Below w.heap.size w (w.alloc (.cells #[] 3)) := (Below.refl _ _).alloc (Nat.le_refl _) _
    have hr0 := hr.below hB0
    have Hn := Lib.hid hn; clear hn
    have H1 := Lib.hid h1; clear h1
    go_enter Try.func126, Try.ntmps126
    go_wp2_with (first | (at_builtin; go_loud (refine wpList_appI (by rfl) _ _ (by rfl) H1.out (by rfl) hr0 Hn.out (by rfl) (by omega) (by simp) ?_)))
    intro a2 c2 w2 ho2 hg2
    have hB2 : Below w.heap.size w w2 := hg2.below hB0 (by simp) (fun k hk => by simp [Value.ownBlock] at hk; omega)
    go_wp2
    go_ret
    exact ⟨a2, c2, by simp, by simpa using ho2, hB2⟩

theorem IIO.fresh (w : World) : IIO (w.alloc (.cells #[] 22)) w.heap.size (w.alloc (.cells #[] 22)).heap.size (some ⟨w.heap.size, 0, none⟩) 0 0 [] :=
  ⟨[], World.ownsRow_made _ #[] 0 (Nat.le_refl _) (Nat.zero_le _) rfl, fun k hk => by simp [Value.ownBlock] at hk; simp; omega, rfl, by simp, by simp⟩

set_option maxRecDepth 100000 in
set_option maxHeartbeats 800000 in
theorem l4Copy_any (a : Option Addr) (n c : Nat) (xss : List (List Int)) (w : World) (hr : RII w a xss) (hn : xss.length = n) (hb : n ≤ 1048576) (hsh : ShortII xss) :
    Calls Try.prog 123 #[.slice a n c] w fun e w' => ∃ a' c', e = .returned (.slice a' n c') ∧ IIO w' w.heap.size w'.heap.size a' n c' xss ∧ Below w.heap.size w w' := by
  have Hn := Lib.hid hn; clear hn
  have HSh := Lib.hid hsh; clear hsh
  have H1 := Lib.hid (IIO.fresh w)
  have hB0 : Below w.heap.size w (w.alloc (.cells #[] 22)) := (Below.refl _ _).alloc (Nat.le_refl _) _
  go_enter Try.func123, Try.ntmps123
  go_wp2
  go_loopw [3, 4] (fun v i wr => ∃ k : Nat, k ≤ n ∧ i = .int .i64 k ∧ Hid (∃ a' c', v = .slice a' k c' ∧ IIO wr w.heap.size wr.heap.size a' k c' (xss.take k)) ∧ Below w.heap.size w wr) (fun _ i _ => n - (intOf i).toNat)
  case atStart => exact ⟨0, Nat.zero_le _, rfl, ⟨_, _, rfl, H1.out⟩, hB0⟩
  case round =>
    clear hB0 H1
    obtain ⟨k, hk, rfl, HV, hB⟩ := hrel
    obtain ⟨wo, rfl⟩ : ∃ wo : World, wo = wr := ⟨_, rfl⟩
    obtain ⟨a', c', rfl, ho⟩ := HV.out
    clear HV
    have hbs := hB.size
    by_cases hlt : k < n
    · have hrw := hr.below hB
      obtain ⟨b, off, rfl, hcell⟩ := hrw.at (k := k) (by rw [Hn.out]; exact hlt)
      obtain ⟨x, hx⟩ := some_of (show k < xss.length by rw [Hn.out]; exact hlt)
      obtain ⟨a1, c1, hc, hr1⟩ := hcell k x hx
      have hxl := HSh.out x (List.mem_of_getElem? hx)
      have Htk := Lib.hid (take_at hx)
      clear hcell hrw hx
      obtain ⟨lx, hlx⟩ : ∃ l, x.length = l := ⟨_, rfl⟩
      rw [hlx] at hc hxl
      have Hlx := Lib.hid hlx; clear hlx
      have HO := Lib.hid ho; clear ho
      go_wp2_with fail
      refine (l1Ints_any _ _ _ x _ hr1 Hlx.out hxl).mono ?_
      rintro e w1 ⟨a2, c2, rfl, ho1, hb1⟩
      have hs1 := hb1.size
      have ho2 := HO.out.below hb1
      have hB1 := hB.trans (hb1.mono hbs)
      go_wp2_with (first | (at_builtin; go_loud (refine wpList_pushII (by rfl) (by rfl) _ _ (by rfl) ho2 (by rfl) ho1 (by omega) (by rfl) (by omega) (by omega) (by omega) (by omega) ?_)))
      intro a3 c3 w3 ho3 hg3
      have hB3 := hg3.below hB1 (by omega) (by obtain ⟨vs, h1, _⟩ := ho2; exact fun k hk => (h1.lt k hk).1)
      go_wp2
      go_roundw
      case rel => exact ⟨k + 1, by omega, by go_num, ⟨_, _, rfl, by rw [Htk.out]; exact ho3⟩, hB3⟩
      case measure => simp [intOf]; omega
    · obtain rfl : k = n := by omega
      rw [List.take_of_length_le (by rw [Hn.out]; omega)] at ho
      go_wp2
      go_ret
      exact ⟨_, _, rfl, ho, hB⟩

set_option maxRecDepth 100000 in
set_option maxHeartbeats 800000 in
theorem copyRows_any (a : Option Addr) (n c : Nat) (xss : List (List Int)) (w : World) (hr : RII w a xss) (hn : xss.length = n) (hb : n ≤ 1048576) (hsh : ShortII xss) :
    Calls Try.prog 96 #[.slice a n c] w fun e w' => ∃ a' c', e = .returned (.slice a' n c') ∧ IIO w' w.heap.size w'.heap.size a' n c' xss ∧ Below w.heap.size w w' := by
  have Hn := Lib.hid hn; clear hn
  have HSh := Lib.hid hsh; clear hsh
  have H1 := Lib.hid (IIO.fresh w)
  have hB0 : Below w.heap.size w (w.alloc (.cells #[] 22)) := (Below.refl _ _).alloc (Nat.le_refl _) _
  go_enter Try.func96, Try.ntmps96
  go_wp2
  go_loopw [3, 9] (fun v i wr => ∃ k : Nat, k ≤ n ∧ i = .int .i64 k ∧ Hid (∃ a' c', v = .slice a' k c' ∧ IIO wr w.heap.size wr.heap.size a' k c' (xss.take k)) ∧ Below w.heap.size w wr) (fun _ i _ => n - (intOf i).toNat)
  case atStart => exact ⟨0, Nat.zero_le _, rfl, ⟨_, _, rfl, H1.out⟩, hB0⟩
  case round =>
    clear hB0 H1
    obtain ⟨k, hk, rfl, HV, hB⟩ := hrel
    obtain ⟨wo, rfl⟩ : ∃ wo : World, wo = wr := ⟨_, rfl⟩
    obtain ⟨a', c', rfl, ho⟩ := HV.out
    clear HV
    have hbs := hB.size
    by_cases hlt : k < n
    · have hrw := hr.below hB
      obtain ⟨b, off, rfl, hcell⟩ := hrw.at (k := k) (by rw [Hn.out]; exact hlt)
      obtain ⟨x, hx⟩ := some_of (show k < xss.length by rw [Hn.out]; exact hlt)
      obtain ⟨a1, c1, hc, hr1⟩ := hcell k x hx
      have hxl := HSh.out x (List.mem_of_getElem? hx)
      have Htk := Lib.hid (take_at hx)
      clear hcell hrw hx
      obtain ⟨lx, hlx⟩ : ∃ l, x.length = l := ⟨_, rfl⟩
      rw [hlx] at hc hxl
      have Hlx := Lib.hid hlx; clear hlx
      have HO := Lib.hid ho; clear ho
      go_wp2_with fail
      refine (cloneI_any _ _ _ x _ hr1 Hlx.out hxl).mono ?_
      rintro e w1 ⟨a2, c2, rfl, ho1, hb1⟩
      have hs1 := hb1.size
      have ho2 := HO.out.below hb1
      have hB1 := hB.trans (hb1.mono hbs)
      go_wp2_with (first | (at_builtin; go_loud (refine wpList_pushII (by rfl) (by rfl) _ _ (by rfl) ho2 (by rfl) ho1 (by omega) (by rfl) (by omega) (by omega) (by omega) (by omega) ?_)))
      intro a3 c3 w3 ho3 hg3
      have hB3 := hg3.below hB1 (by omega) (by obtain ⟨vs, h1, _⟩ := ho2; exact fun k hk => (h1.lt k hk).1)
      go_wp2
      go_roundw
      case rel => exact ⟨k + 1, by omega, by go_num, ⟨_, _, rfl, by rw [Htk.out]; exact ho3⟩, hB3⟩
      case measure => simp [intOf]; omega
    · obtain rfl : k = n := by omega
      rw [List.take_of_length_le (by rw [Hn.out]; omega)] at ho
      go_wp2
      go_ret
      exact ⟨_, _, rfl, ho, hB⟩
end Go.Proofs.Ytleehkgfoicmdaa
