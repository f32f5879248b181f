/-
  Contracts of l1Grow and EmbedPerm, by one place.
-/
import Derived.Test.YtocgcgmlemoekaaMonkLaw
import Derived.Test.YtocgcgmlemoekaaBuS
namespace Go.Proofs.Ytocgcgmlemoekaa
open Go.RowKit

set_option maxRecDepth 100000 in
set_option maxHeartbeats 1600000 in
theorem l1Grow_any (a : Option Addr) (n c : Nat) (xs : List Int) (N : Int) (w : World) (hr : RI w a xs) (hn : xs.length = n) (hb : n ≤ 7) (hN : N = (n : Int) + 1) :
    Calls Try.prog 115 #[.slice a n c, .int .i64 N] w fun e w' => ∃ a' c', e = .returned (.slice a' (n + 1) c') ∧ OwI w' w.heap.size w'.heap.size a' (n + 1) c' (grow1 xs) ∧ Below w.heap.size w w' := by
  have Hn := Lib.hid hn
  subst hN
  have Hg := Lib.hid (show xs ++ [(n : Int)] = grow1 xs by unfold grow1; rw [hn])
  clear hn
  go_enter Try.func115, Try.ntmps115
  go_wp2_with fail
  refine (l1Ints_any _ _ _ xs _ hr Hn.out (by omega)).mono ?_
  rintro e w1 ⟨a1, c1, rfl, ho1, hb1⟩
  have Ho1 := Lib.hid ho1
  clear ho1
  go_wp2
  go_loopw [5] (fun ov wr => Hid (∃ (m : Nat) (a' : Option Addr) (c' : Nat), ov = .slice a' m c' ∧ ((m = n ∧ OwI wr w.heap.size wr.heap.size a' m c' xs) ∨ (m = n + 1 ∧ OwI wr w.heap.size wr.heap.size a' m c' (grow1 xs)))) ∧ Below w.heap.size w wr) (fun ov _ => n + 1 - lenOf ov)
  case atStart => exact ⟨⟨n, _, _, rfl, .inl ⟨rfl, Ho1.out⟩⟩, hb1⟩
  case round =>
    clear Ho1 hb1
    obtain ⟨HV, hB⟩ := hrel
    obtain ⟨wo, rfl⟩ : ∃ wo : World, wo = wr := ⟨_, rfl⟩
    obtain ⟨m, a2, c2, rfl, hcase⟩ := HV.out
    clear HV
    rcases hcase with ⟨rfl, ho⟩ | ⟨rfl, ho⟩
    · have Ho := Lib.hid ho
      have hbs := hB.size
      have q1 : (m : Int) < (m : Int) + 1 := by omega
      clear ho
      go_wp2_with (first | (at_builtin; go_loud (refine wpList_pushI (by rfl) (by rfl) _ _ (by rfl) Ho.out (by rfl) (by rfl) (by omega) hbs ?_)))
      intro a4 c4 w4 ho4 hg4
      have hB4 := below_grown hB hg4.grown hbs Ho.out.1.lo
      rw [Hg.out] at ho4
      have HF := Lib.hid ho4
      clear ho4 hg4
      go_wp2
      go_roundw
      case rel => exact ⟨⟨m + 1, _, _, rfl, .inr ⟨rfl, HF.out⟩⟩, hB4⟩
      case measure => simp [lenOf]
    · have HF := Lib.hid ho
      clear ho
      go_wp2
      go_ret
      exact ⟨_, _, rfl, HF.out, hB⟩

set_option maxRecDepth 100000 in
set_option maxHeartbeats 1600000 in
theorem embed_any (a : Option Addr) (n c : Nat) (xs : List Int) (N : Int) (w : World) (hr : RI w a xs) (hn : xs.length = n) (hb : n ≤ 6) (hp : isPerm xs = true) (hN : N = (n : Int) + 1) :
    Calls Try.prog 117 #[.slice a n c, .int .i64 N] w fun e w' => ∃ a' c', e = .returned (.slice a' (n + 1) c') ∧ OwI w' w.heap.size w'.heap.size a' (n + 1) c' (grow1 xs) ∧ Below w.heap.size w w' := by
  have Hn := Lib.hid hn
  have Hp := Lib.hid hp
  subst hN
  have Hg := Lib.hid (show xs ++ [(n : Int)] = grow1 xs by unfold grow1; rw [hn])
  have h1 : 1 ≤ n := by rw [← hn]; exact (perm_len hp).1
  have q1 : ¬ (n : Int) + 1 < (n : Int) := by omega
  have q2 : ¬ (7 : Int) < (n : Int) + 1 := by omega
  have q3 : (n : Int) ≤ (n : Int) + 1 := by omega
  have q4 : ((n + 1 : Nat) : Int) = (n : Int) + 1 := by omega
  clear hn hp
  go_enter Try.func117, Try.ntmps117
  go_wp2_with fail
  refine (is (implIsPerm_any _ _ _ xs _ hr Hn.out (by omega)) Hp.out).mono ?_
  rintro e w1 ⟨rfl, hB1⟩
  have hr1 := hr.below hB1
  go_wp2_with fail
  refine (cloneI_any _ _ _ xs _ hr1 Hn.out (by omega)).mono ?_
  rintro e w2 ⟨a2, c2, rfl, ho2, hb2⟩
  have hB2 := hB1.trans (hb2.mono hB1.size)
  have Ho2 := Lib.hid (ho2.mono (B' := w.heap.size) (S' := w2.heap.size) hB1.size (Nat.le_refl _))
  clear ho2 hr1
  go_wp2_with fail
  refine (implIdent_any (n + 1) _ _ (by omega) (by omega)).mono ?_
  rintro e w3 ⟨a3, c3, rfl, ho3, hb3⟩
  have hB3 := hB2.trans (hb3.mono hB2.size)
  have Ho23 := Lib.hid (Ho2.out.below hb3)
  obtain ⟨g3, rfl, _, ⟨y, hy, hcy⟩, _⟩ := OI.cons ho3.1 (j := n) (by omega)
  have hyn : y = (n : Int) := by
    have := ident_at (n := n + 1) (i := n) (by omega)
    rw [hy] at this
    exact Option.some.inj this
  subst hyn
  have hlt := ho3.1.lt
  have hc3 : ¬ c3 = n := by omega
  have hc4 : (n : Int) ≤ (c3 : Int) := by omega
  have HR : Hid (RI w3 (some ⟨g3, n, none⟩) [(n : Int)]) := .inr ⟨g3, n, rfl, fun k x hx => by
    rcases k with _ | k
    · obtain rfl : (n : Int) = x := by simpa using hx
      exact hcy
    · simp at hx⟩
  have hbs := hB3.size
  clear ho3 hy hcy Ho2 hlt
  go_wp2_with (first | (at_builtin; go_loud (refine wpList_appI (by rfl) _ _ (by rfl) Ho23.out (by rfl) HR.out (m := 1) rfl (by rfl) (by omega) hbs ?_)))
  intro a4 c4 w4 ho4 hg4
  have hB4 := hg4.below hB3 hbs Ho23.out.1.lo
  rw [Hg.out] at ho4
  have HF := Lib.hid ho4
  clear ho4 hg4
  go_wp2
  go_ret
  exact ⟨_, _, rfl, HF.out, hB4⟩
end Go.Proofs.Ytocgcgmlemoekaa
