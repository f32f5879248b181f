/-
  Contracts of l1Swap and exchanged.
-/
import Derived.Test.YtocgcgmlemoekaaBuA
import Derived.RegionTactic
import Derived.ChangeAlike
namespace Go.Proofs.Ytocgcgmlemoekaa
open Go.RowKit

def swp (xs : List Int) (i j : Nat) : List Int := (xs.set i (xs.getD j 0)).set j (xs.getD i 0)
theorem swp_length (xs : List Int) (i j : Nat) : (swp xs i j).length = xs.length := by simp [swp]
theorem swp_at {xs : List Int} {i j : Nat} {x y : Int} (hx : xs[i]? = some x) (hy : xs[j]? = some y) : swp xs i j = (xs.set i y).set j x := by rw [swp, getD_of hx, getD_of hy]

set_option maxRecDepth 100000 in
set_option maxHeartbeats 1600000 in
theorem l1Swap_any (a : Option Addr) (n c : Nat) (xs : List Int) (i j : Nat) (I J : Int) (w : World) (hr : RI w a xs) (hn : xs.length = n) (hb : n ≤ 1048576) (hI : I = (i : Int)) (hJ : J = (j : Int)) (hi : i < n) (hj : j < n) :
    Calls Try.prog 75 #[.slice a n c, .int .i64 I, .int .i64 J] w fun e w' => ∃ a' c', e = .returned (.slice a' n c') ∧ OwI w' w.heap.size w'.heap.size a' n c' (swp xs i j) ∧ Below w.heap.size w w' := by
  subst hI hJ
  have Hn := Lib.hid hn; clear hn
  obtain ⟨b, off, rfl, hcell⟩ := hr.at (k := i) (by rw [Hn.out]; exact hi)
  obtain ⟨x, hx⟩ := some_at Hn.out hi
  obtain ⟨y, hy⟩ := some_at Hn.out hj
  have hcx := hcell i x hx
  have hcy := hcell j y hy
  have Hsw := Lib.hid (swp_at hx hy)
  clear hcell hx hy
  have hbx := World.block_lt_of_cell? w _ hcx
  have q1 : (i : Int) < (n : Int) := by omega
  have q2 : (j : Int) < (n : Int) := by omega
  go_enter Try.func75, Try.ntmps75
  go_wp2_with fail
  refine (l1Ints_any _ _ _ xs _ hr Hn.out hb).mono ?_
  rintro e w1 ⟨a1, c1, rfl, ho, hB⟩
  obtain ⟨g, rfl, hBg, ⟨v, hv, hcv⟩, hfv⟩ := OI.cons ho.1 hi
  have s1 := ho.1.store i y
  have hB1 := hB.grown s1.2 hB.size (by intro q hq; obtain rfl := Option.some.inj hq; exact hBg)
  obtain ⟨g', e', _, ⟨v2, hv2, hcv2⟩, hfv2⟩ := OI.cons s1.1 hj
  obtain rfl : g = g' := by simpa using e'
  have s2 := s1.1.store j x
  rw [← Hsw.out] at s2
  have hB2 := hB1.grown s2.2 hB1.size (by intro q hq; obtain rfl := Option.some.inj hq; exact hBg)
  have HS := Lib.hid (OwI.of s2.1)
  have hy1 : w1.cell? ⟨b, off + j, none⟩ = some (.int .i64 y) := by rw [hB.cell hbx]; exact hcy
  have hx2 : (w1.setCell ⟨g, i, none⟩ (.int .i64 y)).cell? ⟨b, off + i, none⟩ = some (.int .i64 x) := by rw [hB1.cell hbx]; exact hcx
  clear s1 s2 hv hv2 ho e' hcx hcy
  go_wp2
  go_ret
  exact ⟨_, _, rfl, HS.out, hB2⟩

set_option maxRecDepth 100000 in
set_option maxHeartbeats 1600000 in
theorem exchanged_any (a : Option Addr) (n c : Nat) (xs : List Int) (i j : Nat) (I J : Int) (w : World) (hr : RI w a xs) (hn : xs.length = n) (hb : n ≤ 1048576) (hI : I = (i : Int)) (hJ : J = (j : Int)) (hi : i < n) (hj : j < n) (hij : i ≠ j) :
    Calls Try.prog 111 #[.slice a n c, .int .i64 I, .int .i64 J] w fun e w' => ∃ a' c', e = .returned (.slice a' n c') ∧ OwI w' w.heap.size w'.heap.size a' n c' (swp xs i j) ∧ Below w.heap.size w w' := by
  subst hI hJ
  have Hn := Lib.hid hn; clear hn
  obtain ⟨x, hx⟩ := some_at Hn.out hi
  obtain ⟨y, hy⟩ := some_at Hn.out hj
  have Hsw := Lib.hid (swp_at hx hy)
  have Hx := Lib.hid hx; clear hx
  have Hy := Lib.hid hy; clear hy
  have q1 : (i : Int) < (n : Int) := by omega
  have q2 : (j : Int) < (n : Int) := by omega
  go_enter Try.func111, Try.ntmps111
  go_wp2_with fail
  refine (cloneI_any _ _ _ xs _ hr Hn.out hb).mono ?_
  rintro e w1 ⟨a1, c1, rfl, ho, hB⟩
  obtain ⟨g, rfl, hBg, ⟨v, hv, hcv⟩, hfv⟩ := OI.cons ho.1 hi
  obtain rfl : x = v := by rw [Hx.out] at hv; exact Option.some.inj hv
  obtain ⟨g', e', _, ⟨v2, hv2, hcv2⟩, hfv2⟩ := OI.cons ho.1 hj
  obtain rfl : g = g' := by simpa using e'
  obtain rfl : y = v2 := by rw [Hy.out] at hv2; exact Option.some.inj hv2
  have s1 := ho.1.store i y
  have hB1 := hB.grown s1.2 hB.size (by intro q hq; obtain rfl := Option.some.inj hq; exact hBg)
  have s2 := s1.1.store j x
  rw [← Hsw.out] at s2
  have hB2 := hB1.grown s2.2 hB1.size (by intro q hq; obtain rfl := Option.some.inj hq; exact hBg)
  have HS := Lib.hid ((OwI.of s2.1).below (Drew.below ⟨1, rfl⟩ _))
  have HB := Lib.hid (hB2.trans (Drew.below ⟨1, rfl⟩ w.heap.size))
  clear s1 s2 hv hv2 ho e' hB1 hB2
  go_wp2
  go_region
  go_wp2
  go_ret
  exact ⟨_, _, rfl, HS.out, HB.out⟩
end Go.Proofs.Ytocgcgmlemoekaa
