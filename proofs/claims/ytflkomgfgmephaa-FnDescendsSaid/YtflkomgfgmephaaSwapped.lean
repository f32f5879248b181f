/-
  Contract of the laws' swapped.
-/
import Derived.Test.YtflkomgfgmephaaBuI3
namespace Go.Proofs.Ytflkomgfgmephaa
open Go.RowKit

set_option maxRecDepth 100000 in
set_option maxHeartbeats 1600000 in
theorem swapped_any (a : Option Addr) (n c : Nat) (xs : List Int) (i j : Nat) (I J : Int) (w : World) (hr : RI w a xs) (hn : xs.length = n) (hb : n ≤ 1048576) (hI : I = (i : Int)) (hJ : J = (j : Int)) (hi : i < n) (hj : j < n) :
    Calls Try.prog 16 #[.slice a n c, .int .i64 I, .int .i64 J] w fun e w' => ∃ a' c', e = .returned (.slice a' n c') ∧ OwI w' w.heap.size w'.heap.size a' n c' (swp xs i j) ∧ Below w.heap.size w w' := by
  subst hI hJ
  have Hn := Lib.hid hn; clear hn
  obtain ⟨b, off, rfl, hcell⟩ := hr.at (k := i) (by rw [Hn.out]; exact hi)
  obtain ⟨x, hx⟩ := some_at Hn.out hi
  obtain ⟨y, hy⟩ := some_at Hn.out hj
  have hcx := hcell i x hx
  have hcy := hcell j y hy
  have Hsw := Lib.hid (swp_at hx hy)
  clear hcell hx hy
  have hbx := World.block_lt_of_cell? w _ hcx
  have q1 : (i : Int) < (n : Int) := by omega
  have q2 : (j : Int) < (n : Int) := by omega
  have hemp : (w.alloc (.cells #[] 3)).ownsRow w.heap.size 3 1 (.slice (some ⟨w.heap.size, 0, none⟩) 0 0) 0 [] := World.ownsRow_made _ #[] 0 (Nat.le_refl _) (Nat.zero_le _) rfl
  have h1 : OwI (w.alloc (.cells #[] 3)) w.heap.size (w.alloc (.cells #[] 3)).heap.size (some ⟨w.heap.size, 0, none⟩) 0 0 [] := OwI.mk hemp
  have hB0 : Below w.heap.size w (w.alloc (.cells #[] 3)) := (Below.refl _ _).alloc (Nat.le_refl _) _
  have hr0 := hr.below hB0
  have H1 := Lib.hid h1; clear h1 hemp
  go_enter Try.func16, Try.ntmps16
  go_wp2_with (first | (at_builtin; go_loud (refine wpList_appI (by rfl) _ _ (by rfl) H1.out (by rfl) hr0 Hn.out (by rfl) (by omega) (by simp) ?_)))
  intro a1 c1 w1 ho0 hg2
  have hB : Below w.heap.size w w1 := hg2.below hB0 (by simp) (fun k hk => by simp [Value.ownBlock] at hk; omega)
  have ho : OwI w1 w.heap.size w1.heap.size a1 n c1 xs := by simpa using ho0
  clear ho0 hg2 H1 hr0 hB0
  obtain ⟨g, rfl, hBg, ⟨v, hv, hcv⟩, hfv⟩ := OI.cons ho.1 hi
  have s1 := ho.1.store i y
  have hB1 := hB.grown s1.2 hB.size (by intro q hq; obtain rfl := Option.some.inj hq; exact hBg)
  obtain ⟨g', e', _, ⟨v2, hv2, hcv2⟩, hfv2⟩ := OI.cons s1.1 hj
  obtain rfl : g = g' := by simpa using e'
  have s2 := s1.1.store j x
  rw [← Hsw.out] at s2
  have hB2 := hB1.grown s2.2 hB1.size (by intro q hq; obtain rfl := Option.some.inj hq; exact hBg)
  have HS := Lib.hid (OwI.of s2.1)
  have hy1 : w1.cell? ⟨b, off + j, none⟩ = some (.int .i64 y) := by rw [hB.cell hbx]; exact hcy
  have hx2 : (w1.setCell ⟨g, i, none⟩ (.int .i64 y)).cell? ⟨b, off + i, none⟩ = some (.int .i64 x) := by rw [hB1.cell hbx]; exact hcx
  clear s1 s2 hv hv2 ho e' hcx hcy
  go_wp2
  go_ret
  exact ⟨_, _, rfl, HS.out, hB2⟩
end Go.Proofs.Ytflkomgfgmephaa
