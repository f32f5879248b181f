/-
  Contract of l3Word: the word of a dream, its rows read backwards.
  Contract of DreamWord, the reference's.
  Contracts of isSize and IdentityPerm.
  Letters and words.
  Contracts of l1Swap and exchanged.
-/
import Derived.Test.YtomejjbkakpoiaaGreatBuY10
import Derived.Test.YtomejjbkakpoiaaGreatBuY12
import Derived.Test.YtomejjbkakpoiaaGreatBuY16
import Derived.Test.YtomejjbkakpoiaaGreatBuY9
import Derived.Test.YtomejjbkakpoiaaGreatBuY4
import Derived.Test.YtomejjbkakpoiaaGreatBuY1
import Derived.RegionTactic
import Derived.ChangeAlike
namespace Go.Proofs.YtomejjbkakpoiaaGreat
open Go.RowKit

end Go.Proofs.YtomejjbkakpoiaaGreat

namespace Go.Proofs.YtomejjbkakpoiaaGreat
open Go.RowKit Go.Shelf Go.Sort

end Go.Proofs.YtomejjbkakpoiaaGreat

namespace Go.Proofs.YtomejjbkakpoiaaGreat
open Go.RowKit

theorem isSize_yes (n : Int) (w : World) (h : 1 ≤ n ∧ n ≤ 7) :
    Calls Tryz.prog 113 #[.int .i64 n] w fun e w' => e = .returned (.bool true) ∧ w = w' := by
  obtain ⟨h1, h2⟩ := h
  go_enter Tryz.func113, Tryz.ntmps113
  go_wp2
  go_ret
  exact ⟨by simp, rfl⟩
theorem isSize_no (n : Int) (w : World) (h : n < 1 ∨ 7 < n) :
    Calls Tryz.prog 113 #[.int .i64 n] w fun e w' => e = .returned (.bool false) ∧ w = w' := by
  by_cases h1 : 1 ≤ n
  · have h2 : ¬ n ≤ 7 := by omega
    go_enter Tryz.func113, Tryz.ntmps113
    go_wp2
    go_ret
    exact ⟨by simp, rfl⟩
  · go_enter Tryz.func113, Tryz.ntmps113
    go_wp2
    go_ret
    exact ⟨by simp, rfl⟩

def ident (n : Nat) : List Int := (List.range n).map fun (i : Nat) => (i : Int)
theorem ident_length (n : Nat) : (ident n).length = n := by simp [ident]
theorem ident_at {n i : Nat} (h : i < n) : (ident n)[i]? = some (i : Int) := by simp [ident, h]
theorem ident_succ (n : Nat) : ident (n + 1) = ident n ++ [(n : Int)] := by simp [ident, List.range_succ]

set_option maxRecDepth 100000 in
set_option maxHeartbeats 800000 in
theorem specIdent_any (n : Nat) (N : Int) (w : World) (hN : N = (n : Int)) (h : 1 ≤ n ∧ n ≤ 7) :
    Calls Tryz.prog 70 #[.int .i64 N] w fun e w' => ∃ a' c', e = .returned (.slice a' n c') ∧ OwI w' w.heap.size w'.heap.size a' n c' (ident n) ∧ Below w.heap.size w w' := by
  subst hN
  go_enter Tryz.func70, Tryz.ntmps70
  go_wp2_with fail
  refine (l1In_yes _ _ _ _ (by omega)).mono ?_
  rintro e w1 ⟨rfl, hd⟩
  have hb1 := hd.below w.heap.size
  have hsz1 := hb1.size
  have H1 := Lib.hid ((OwI.mk (World.ownsRow_made w1 #[] 0 (Nat.le_refl _) (Nat.zero_le _) rfl) : OwI (w1.alloc (.cells #[] 3)) w1.heap.size (w1.alloc (.cells #[] 3)).heap.size (some ⟨w1.heap.size, 0, none⟩) 0 0 []).mono hsz1 (Nat.le_refl _))
  have hB0 : Below w.heap.size w (w1.alloc (.cells #[] 3)) := hb1.alloc hsz1 _
  go_wp2
  go_loopw [3, 4] (fun v i wr => Hid (∃ k : Nat, k ≤ n ∧ i = .int .i64 k ∧ ∃ a' c', v = .slice a' k c' ∧ OwI wr w.heap.size wr.heap.size a' k c' (ident k)) ∧ Below w.heap.size w wr) (fun _ i _ => n - (intOf i).toNat)
  case atStart => exact ⟨⟨0, Nat.zero_le _, rfl, _, _, rfl, H1.out⟩, hB0⟩
  case round =>
    clear H1 hB0 hb1
    obtain ⟨HV, hB⟩ := hrel
    obtain ⟨wo, rfl⟩ : ∃ wo : World, wo = wr := ⟨_, rfl⟩
    obtain ⟨k, hk, rfl, a', c', rfl, ho⟩ := HV.out
    clear HV
    have hbs := hB.size
    by_cases hlt : k < n
    · go_wp2_with (first | (at_builtin; go_loud (refine wpList_pushI (by rfl) (by rfl) _ _ (by rfl) ho (by rfl) (by rfl) (by omega) (by omega) ?_)))
      intro a2 c2 w2 ho2 hg2
      have hB2 := hg2.below hB (by omega) (fun k hk => ho.1.lo k hk)
      rw [← ident_succ] at ho2
      clear ho
      go_wp2
      go_roundw
      case rel => exact ⟨⟨k + 1, by omega, by go_num, _, _, rfl, ho2⟩, hB2⟩
      case measure => simp [intOf]; omega
    · obtain rfl : k = n := by omega
      go_wp2
      go_ret
      exact ⟨_, _, rfl, ho, hB⟩

set_option maxRecDepth 100000 in
set_option maxHeartbeats 800000 in
theorem implIdent_any (n : Nat) (N : Int) (w : World) (hN : N = (n : Int)) (h : 1 ≤ n ∧ n ≤ 7) :
    Calls Tryz.prog 83 #[.int .i64 N] w fun e w' => ∃ a' c', e = .returned (.slice a' n c') ∧ OwI w' w.heap.size w'.heap.size a' n c' (ident n) ∧ Below w.heap.size w w' := by
  subst hN
  obtain ⟨i0, hi, hz0, hz1, hz2⟩ := info_parts Tryz.info3
  go_enter Tryz.func83, Tryz.ntmps83
  go_wp2_with fail
  refine (isSize_yes _ _ (by omega)).mono ?_
  rintro e w1 ⟨rfl, rfl⟩
  go_wp2_with (first | (at_make; refine wpList_make_full _ rfl _ _ 24 rfl w.heap.size 3 i0 (.int .i64 0) 1 Tryz.underlying24 hi hz0 hz1 .i64 .i64 _ _ n rfl rfl ?m1 ?m2 ?m3 ?m4 ?m5 ?_))
  case m1 => rfl
  case m2 => rfl
  case m3 => rw [hz2]; omega
  case m4 => unfold maxLen; omega
  case m5 => exact Nat.le_refl _
  intro w1 hown hg
  have hB : Below w.heap.size w w1 := (Below.refl _ _).grown hg (Nat.le_refl _) (by simp)
  have hrow : OS w1 w.heap.size (some ⟨w.heap.size, 0, none⟩) n n (fillTo (ident n) n 0) := by
    refine OS.of ?_
    rw [fillTo_zero]
    have e := toList_madeCells_one (.int .i64 0) n
    simpa [ints, Value.cells, e] using hown
  have Hrow := Lib.hid hrow; clear hown hg hrow
  go_wp2
  go_loopw [12] (fun iv wr => Hid (∃ i : Nat, i ≤ n ∧ iv = .int .i64 i ∧ OS wr w.heap.size (some ⟨w.heap.size, 0, none⟩) n n (fillTo (ident n) n i)) ∧ Below w.heap.size w wr) (fun i _ => n - (intOf i).toNat)
  case atStart => exact ⟨⟨0, Nat.zero_le _, rfl, Hrow.out⟩, hB⟩
  case round =>
    clear Hrow hB
    obtain ⟨HV, hB⟩ := hrel
    obtain ⟨wo, rfl⟩ : ∃ wo : World, wo = wr := ⟨_, rfl⟩
    obtain ⟨i, hi', rfl, ho⟩ := HV.out
    clear HV
    by_cases hlt : i < n
    · obtain ⟨g, hg0, hBg, ⟨v, hv, hcv⟩, hfv⟩ := OI.cons ho hlt
      obtain rfl : w.heap.size = g := by simpa using hg0
      have hs := ho.store i (i : Int)
      rw [fillTo_succ (ident_length n) hlt (ident_at hlt)] at hs
      have hB2 := hB.grown hs.2 hB.size (by intro q hq; obtain rfl := Option.some.inj hq; exact Nat.le_refl _)
      have HS := Lib.hid hs.1
      clear hs hv ho
      go_wp2
      go_roundw
      case rel => exact ⟨⟨i + 1, by omega, by go_num, HS.out⟩, hB2⟩
      case measure => simp [intOf]; omega
    · obtain rfl : i = n := by omega
      rw [fillTo_all (ident_length i)] at ho
      have HO := Lib.hid (OwI.of ho); clear ho
      go_wp2
      go_ret
      exact ⟨_, _, rfl, HO.out, hB⟩
end Go.Proofs.YtomejjbkakpoiaaGreat

namespace Go.Proofs.YtomejjbkakpoiaaGreat
open Go.RowKit

def letter (n x : Int) : Bool := decide (0 ≤ x) && decide (x ≤ n - 2)
def isWord (n : Int) (xs : List Int) : Bool := decide (1 ≤ n) && decide (n ≤ 7) && decide (xs.length ≤ 60) && xs.all (letter n)
theorem letter_yes {n x : Int} (h : 0 ≤ x ∧ x ≤ n - 2) : letter n x = true := by unfold letter; simp; omega
theorem letter_no {n x : Int} (h : x < 0 ∨ n - 2 < x) : letter n x = false := by unfold letter; simp; omega
theorem isWord_size {n : Int} {xs : List Int} (h : n < 1 ∨ 7 < n) : isWord n xs = false := by unfold isWord; simp; omega
theorem isWord_long {n : Int} {xs : List Int} (h : 60 < xs.length) : isWord n xs = false := by unfold isWord; simp; omega
theorem isWord_bad {n : Int} {xs : List Int} {k : Nat} {x : Int} (hx : xs[k]? = some x) (h : letter n x = false) : isWord n xs = false := by
  have : xs.all (letter n) = false := by
    rw [List.all_eq_false]
    exact ⟨x, List.mem_of_getElem? hx, by simp [h]⟩
  unfold isWord; rw [this]; simp
theorem isWord_ok {n : Int} {xs : List Int} (h : ∀ (j : Nat) (z : Int), j < xs.length → xs[j]? = some z → letter n z = true) : isWord n xs = (decide (1 ≤ n) && decide (n ≤ 7) && decide (xs.length ≤ 60)) := by
  have : xs.all (letter n) = true := by
    rw [List.all_eq_true]
    intro z hz
    obtain ⟨j, hj⟩ := List.mem_iff_getElem?.1 hz
    exact h j z (List.getElem?_eq_some_iff.1 hj).1 hj
  unfold isWord; rw [this]; simp
theorem isWord_bd {n : Int} {xs : List Int} (h : isWord n xs = true) : 1 ≤ n ∧ n ≤ 7 ∧ xs.length ≤ 60 ∧ ∀ (k : Nat) (x : Int), xs[k]? = some x → 0 ≤ x ∧ x ≤ n - 2 := by
  simp only [isWord, Bool.and_eq_true, decide_eq_true_eq, List.all_eq_true] at h
  refine ⟨h.1.1.1, h.1.1.2, h.1.2, fun k x hx => ?_⟩
  have := h.2 x (List.mem_of_getElem? hx)
  simp only [letter, Bool.and_eq_true, decide_eq_true_eq] at this
  exact this
end Go.Proofs.YtomejjbkakpoiaaGreat

namespace Go.Proofs.YtomejjbkakpoiaaGreat
open Go.RowKit

def swp (xs : List Int) (i j : Nat) : List Int := (xs.set i (xs.getD j 0)).set j (xs.getD i 0)
theorem swp_length (xs : List Int) (i j : Nat) : (swp xs i j).length = xs.length := by simp [swp]
theorem swp_at {xs : List Int} {i j : Nat} {x y : Int} (hx : xs[i]? = some x) (hy : xs[j]? = some y) : swp xs i j = (xs.set i y).set j x := by rw [swp, getD_of hx, getD_of hy]

set_option maxRecDepth 100000 in
set_option maxHeartbeats 1600000 in
theorem l1Swap_any (a : Option Addr) (n c : Nat) (xs : List Int) (i j : Nat) (I J : Int) (w : World) (hr : RI w a xs) (hn : xs.length = n) (hb : n ≤ 1048576) (hI : I = (i : Int)) (hJ : J = (j : Int)) (hi : i < n) (hj : j < n) :
    Calls Tryz.prog 69 #[.slice a n c, .int .i64 I, .int .i64 J] w fun e w' => ∃ a' c', e = .returned (.slice a' n c') ∧ OwI w' w.heap.size w'.heap.size a' n c' (swp xs i j) ∧ Below w.heap.size w w' := by
  subst hI hJ
  have Hn := Lib.hid hn; clear hn
  obtain ⟨b, off, rfl, hcell⟩ := hr.at (k := i) (by rw [Hn.out]; exact hi)
  obtain ⟨x, hx⟩ := some_at Hn.out hi
  obtain ⟨y, hy⟩ := some_at Hn.out hj
  have hcx := hcell i x hx
  have hcy := hcell j y hy
  have Hsw := Lib.hid (swp_at hx hy)
  clear hcell hx hy
  have hbx := World.block_lt_of_cell? w _ hcx
  have q1 : (i : Int) < (n : Int) := by omega
  have q2 : (j : Int) < (n : Int) := by omega
  go_enter Tryz.func69, Tryz.ntmps69
  go_wp2_with fail
  refine (l1Ints_any _ _ _ xs _ hr Hn.out hb).mono ?_
  rintro e w1 ⟨a1, c1, rfl, ho, hB⟩
  obtain ⟨g, rfl, hBg, ⟨v, hv, hcv⟩, hfv⟩ := OI.cons ho.1 hi
  have s1 := ho.1.store i y
  have hB1 := hB.grown s1.2 hB.size (by intro q hq; obtain rfl := Option.some.inj hq; exact hBg)
  obtain ⟨g', e', _, ⟨v2, hv2, hcv2⟩, hfv2⟩ := OI.cons s1.1 hj
  obtain rfl : g = g' := by simpa using e'
  have s2 := s1.1.store j x
  rw [← Hsw.out] at s2
  have hB2 := hB1.grown s2.2 hB1.size (by intro q hq; obtain rfl := Option.some.inj hq; exact hBg)
  have HS := Lib.hid (OwI.of s2.1)
  have hy1 : w1.cell? ⟨b, off + j, none⟩ = some (.int .i64 y) := by rw [hB.cell hbx]; exact hcy
  have hx2 : (w1.setCell ⟨g, i, none⟩ (.int .i64 y)).cell? ⟨b, off + i, none⟩ = some (.int .i64 x) := by rw [hB1.cell hbx]; exact hcx
  clear s1 s2 hv hv2 ho e' hcx hcy
  go_wp2
  go_ret
  exact ⟨_, _, rfl, HS.out, hB2⟩

set_option maxRecDepth 100000 in
set_option maxHeartbeats 1600000 in
theorem exchanged_any (a : Option Addr) (n c : Nat) (xs : List Int) (i j : Nat) (I J : Int) (w : World) (hr : RI w a xs) (hn : xs.length = n) (hb : n ≤ 1048576) (hI : I = (i : Int)) (hJ : J = (j : Int)) (hi : i < n) (hj : j < n) (hij : i ≠ j) :
    Calls Tryz.prog 84 #[.slice a n c, .int .i64 I, .int .i64 J] w fun e w' => ∃ a' c', e = .returned (.slice a' n c') ∧ OwI w' w.heap.size w'.heap.size a' n c' (swp xs i j) ∧ Below w.heap.size w w' := by
  subst hI hJ
  have Hn := Lib.hid hn; clear hn
  obtain ⟨x, hx⟩ := some_at Hn.out hi
  obtain ⟨y, hy⟩ := some_at Hn.out hj
  have Hsw := Lib.hid (swp_at hx hy)
  have Hx := Lib.hid hx; clear hx
  have Hy := Lib.hid hy; clear hy
  have q1 : (i : Int) < (n : Int) := by omega
  have q2 : (j : Int) < (n : Int) := by omega
  go_enter Tryz.func84, Tryz.ntmps84
  go_wp2_with fail
  refine (cloneI_any _ _ _ xs _ hr Hn.out hb).mono ?_
  rintro e w1 ⟨a1, c1, rfl, ho, hB⟩
  obtain ⟨g, rfl, hBg, ⟨v, hv, hcv⟩, hfv⟩ := OI.cons ho.1 hi
  obtain rfl : x = v := by rw [Hx.out] at hv; exact Option.some.inj hv
  obtain ⟨g', e', _, ⟨v2, hv2, hcv2⟩, hfv2⟩ := OI.cons ho.1 hj
  obtain rfl : g = g' := by simpa using e'
  obtain rfl : y = v2 := by rw [Hy.out] at hv2; exact Option.some.inj hv2
  have s1 := ho.1.store i y
  have hB1 := hB.grown s1.2 hB.size (by intro q hq; obtain rfl := Option.some.inj hq; exact hBg)
  have s2 := s1.1.store j x
  rw [← Hsw.out] at s2
  have hB2 := hB1.grown s2.2 hB1.size (by intro q hq; obtain rfl := Option.some.inj hq; exact hBg)
  have HS := Lib.hid ((OwI.of s2.1).below (Drew.below ⟨1, rfl⟩ _))
  have HB := Lib.hid (hB2.trans (Drew.below ⟨1, rfl⟩ w.heap.size))
  clear s1 s2 hv hv2 ho e' hB1 hB2
  go_wp2
  go_region
  go_wp2
  go_ret
  exact ⟨_, _, rfl, HS.out, HB.out⟩
end Go.Proofs.YtomejjbkakpoiaaGreat
