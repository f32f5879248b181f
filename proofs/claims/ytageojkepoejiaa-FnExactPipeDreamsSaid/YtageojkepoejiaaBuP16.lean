/-
  Contract of InversePerm.
  Contract of l1Inverse of the reference.
  Contracts of l1Swap and exchanged.
  Contracts of isSize and IdentityPerm.
  Sums; contract of l1Sum.
  Permutations stay permutations; contracts of l1Length, LengthOf.
  One bit of a number, as the program asks for it; rows beside each other.
-/
import Derived.Test.YtageojkepoejiaaBuP6
import Derived.Test.YtageojkepoejiaaBuP4
import Derived.Test.YtageojkepoejiaaBuP1
import Derived.RegionTactic
import Derived.ChangeAlike
import Derived.Test.YtageojkepoejiaaBuP3
namespace Go.Proofs.Ytageojkepoejiaa
open Go.RowKit

def invTo (n : Nat) (xs : List Int) : Nat → List Int
  | 0 => List.replicate n 0
  | k + 1 => (invTo n xs k).set (xs.getD k 0).toNat (k : Int)
def inv (xs : List Int) : List Int := invTo xs.length xs xs.length
theorem invTo_length (n : Nat) (xs : List Int) (k : Nat) : (invTo n xs k).length = n := by
  induction k with
  | zero => simp [invTo]
  | succ k ih => simp [invTo, ih]

end Go.Proofs.Ytageojkepoejiaa

namespace Go.Proofs.Ytageojkepoejiaa
open Go.RowKit

set_option maxRecDepth 100000 in
set_option maxHeartbeats 1600000 in
theorem specInverse_any (a : Option Addr) (n c : Nat) (xs : List Int) (w : World) (hr : RI w a xs) (hn : xs.length = n) (hb : n ≤ 1000) (hin : ∀ x ∈ xs, 0 ≤ x ∧ x < (n : Int)) :
    Calls Try.prog 98 #[.slice a n c] w fun e w' => ∃ a' c', e = .returned (.slice a' n c') ∧ OwI w' w.heap.size w'.heap.size a' n c' (inv xs) ∧ Below w.heap.size w w' := by
  have Hn := Lib.hid hn; clear hn
  have HI := Lib.hid hin; clear hin
  obtain ⟨i0, hi, hz0, hz1, hz2⟩ := info_parts Try.info3
  go_enter Try.func98, Try.ntmps98
  go_wp2_with (first | (at_make; refine wpList_make_full _ rfl _ _ 22 rfl w.heap.size 3 i0 (.int .i64 0) 1 Try.underlying22 hi hz0 hz1 .i64 .i64 _ _ n rfl rfl ?m1 ?m2 ?m3 ?m4 ?m5 ?_))
  case m1 => rfl
  case m2 => rfl
  case m3 => rw [hz2]; omega
  case m4 => unfold maxLen; omega
  case m5 => exact Nat.le_refl _
  intro w1 hown hg
  have hB : Below w.heap.size w w1 := (Below.refl _ _).grown hg (Nat.le_refl _) (by simp)
  have hrow : OS w1 w.heap.size (some ⟨w.heap.size, 0, none⟩) n n (invTo n xs 0) := by
    refine OS.of ?_
    have e := toList_madeCells_one (.int .i64 0) n
    simpa [ints, Value.cells, e, invTo] using hown
  have Hrow := Lib.hid hrow; clear hown hg hrow
  go_wp2
  go_loopw [4] (fun iv wr => Hid (∃ i : Nat, i ≤ n ∧ iv = .int .i64 i ∧ OS wr w.heap.size (some ⟨w.heap.size, 0, none⟩) n n (invTo n xs i)) ∧ Below w.heap.size w wr) (fun i _ => n - (intOf i).toNat)
  case atStart => exact ⟨⟨0, Nat.zero_le _, rfl, Hrow.out⟩, hB⟩
  case round =>
    clear Hrow hB
    obtain ⟨HV, hB⟩ := hrel
    obtain ⟨wo, rfl⟩ : ∃ wo : World, wo = wr := ⟨_, rfl⟩
    obtain ⟨i, hi', rfl, ho⟩ := HV.out
    clear HV
    by_cases hlt : i < n
    · obtain ⟨b, off, rfl, hcell⟩ := (hr.below hB).at (k := i) (by rw [Hn.out]; exact hlt)
      obtain ⟨x0, hx⟩ := some_at Hn.out hlt
      have hcx := hcell i x0 hx
      obtain ⟨hx0, hx1⟩ := HI.out x0 (List.mem_of_getElem? hx)
      obtain ⟨x, rfl⟩ : ∃ x : Nat, x0 = x := ⟨x0.toNat, by omega⟩
      have hst : (invTo n xs i).set x (i : Int) = invTo n xs (i + 1) := by rw [invTo, getD_of hx]; rfl
      have Hst := Lib.hid hst
      clear hcell hx hst
      have hxn : x < n := by omega
      obtain ⟨g, hg0, hBg, ⟨v, hv, hcv⟩, hfv⟩ := OI.cons ho hxn
      obtain rfl : w.heap.size = g := by simpa using hg0
      have s := ho.store x (i : Int)
      rw [Hst.out] at s
      have HS := Lib.hid s.1
      have hB2 := hB.setCell (p := ⟨w.heap.size, x, none⟩) hBg (.int .i64 i)
      have HB2 := Lib.hid hB2
      have q1 : (i : Int) < (n : Int) := by omega
      clear s ho hv hg0 hB2
      go_wp2
      go_roundw
      case rel => exact ⟨⟨i + 1, by omega, by go_num, HS.out⟩, HB2.out⟩
      case measure => simp [intOf]; omega
    · obtain rfl : i = n := by omega
      have hfin : invTo i xs i = inv xs := by rw [inv, Hn.out]
      rw [hfin] at ho
      have HO := Lib.hid ho; clear ho
      go_wp2
      go_ret
      exact ⟨_, _, rfl, OwI.of HO.out, hB⟩
end Go.Proofs.Ytageojkepoejiaa

namespace Go.Proofs.Ytageojkepoejiaa
open Go.RowKit

def swp (xs : List Int) (i j : Nat) : List Int := (xs.set i (xs.getD j 0)).set j (xs.getD i 0)
theorem swp_length (xs : List Int) (i j : Nat) : (swp xs i j).length = xs.length := by simp [swp]
theorem swp_at {xs : List Int} {i j : Nat} {x y : Int} (hx : xs[i]? = some x) (hy : xs[j]? = some y) : swp xs i j = (xs.set i y).set j x := by rw [swp, getD_of hx, getD_of hy]

set_option maxRecDepth 100000 in
set_option maxHeartbeats 1600000 in
theorem l1Swap_any (a : Option Addr) (n c : Nat) (xs : List Int) (i j : Nat) (I J : Int) (w : World) (hr : RI w a xs) (hn : xs.length = n) (hb : n ≤ 1048576) (hI : I = (i : Int)) (hJ : J = (j : Int)) (hi : i < n) (hj : j < n) :
    Calls Try.prog 36 #[.slice a n c, .int .i64 I, .int .i64 J] w fun e w' => ∃ a' c', e = .returned (.slice a' n c') ∧ OwI w' w.heap.size w'.heap.size a' n c' (swp xs i j) ∧ Below w.heap.size w w' := by
  subst hI hJ
  have Hn := Lib.hid hn; clear hn
  obtain ⟨b, off, rfl, hcell⟩ := hr.at (k := i) (by rw [Hn.out]; exact hi)
  obtain ⟨x, hx⟩ := some_at Hn.out hi
  obtain ⟨y, hy⟩ := some_at Hn.out hj
  have hcx := hcell i x hx
  have hcy := hcell j y hy
  have Hsw := Lib.hid (swp_at hx hy)
  clear hcell hx hy
  have hbx := World.block_lt_of_cell? w _ hcx
  have q1 : (i : Int) < (n : Int) := by omega
  have q2 : (j : Int) < (n : Int) := by omega
  go_enter Try.func36, Try.ntmps36
  go_wp2_with fail
  refine (l1Ints_any _ _ _ xs _ hr Hn.out hb).mono ?_
  rintro e w1 ⟨a1, c1, rfl, ho, hB⟩
  obtain ⟨g, rfl, hBg, ⟨v, hv, hcv⟩, hfv⟩ := OI.cons ho.1 hi
  have s1 := ho.1.store i y
  have hB1 := hB.grown s1.2 hB.size (by intro q hq; obtain rfl := Option.some.inj hq; exact hBg)
  obtain ⟨g', e', _, ⟨v2, hv2, hcv2⟩, hfv2⟩ := OI.cons s1.1 hj
  obtain rfl : g = g' := by simpa using e'
  have s2 := s1.1.store j x
  rw [← Hsw.out] at s2
  have hB2 := hB1.grown s2.2 hB1.size (by intro q hq; obtain rfl := Option.some.inj hq; exact hBg)
  have HS := Lib.hid (OwI.of s2.1)
  have hy1 : w1.cell? ⟨b, off + j, none⟩ = some (.int .i64 y) := by rw [hB.cell hbx]; exact hcy
  have hx2 : (w1.setCell ⟨g, i, none⟩ (.int .i64 y)).cell? ⟨b, off + i, none⟩ = some (.int .i64 x) := by rw [hB1.cell hbx]; exact hcx
  clear s1 s2 hv hv2 ho e' hcx hcy
  go_wp2
  go_ret
  exact ⟨_, _, rfl, HS.out, hB2⟩

set_option maxRecDepth 100000 in
set_option maxHeartbeats 1600000 in
theorem exchanged_any (a : Option Addr) (n c : Nat) (xs : List Int) (i j : Nat) (I J : Int) (w : World) (hr : RI w a xs) (hn : xs.length = n) (hb : n ≤ 1048576) (hI : I = (i : Int)) (hJ : J = (j : Int)) (hi : i < n) (hj : j < n) (hij : i ≠ j) :
    Calls Try.prog 40 #[.slice a n c, .int .i64 I, .int .i64 J] w fun e w' => ∃ a' c', e = .returned (.slice a' n c') ∧ OwI w' w.heap.size w'.heap.size a' n c' (swp xs i j) ∧ Below w.heap.size w w' := by
  subst hI hJ
  have Hn := Lib.hid hn; clear hn
  obtain ⟨x, hx⟩ := some_at Hn.out hi
  obtain ⟨y, hy⟩ := some_at Hn.out hj
  have Hsw := Lib.hid (swp_at hx hy)
  have Hx := Lib.hid hx; clear hx
  have Hy := Lib.hid hy; clear hy
  have q1 : (i : Int) < (n : Int) := by omega
  have q2 : (j : Int) < (n : Int) := by omega
  go_enter Try.func40, Try.ntmps40
  go_wp2_with fail
  refine (cloneI_any _ _ _ xs _ hr Hn.out hb).mono ?_
  rintro e w1 ⟨a1, c1, rfl, ho, hB⟩
  obtain ⟨g, rfl, hBg, ⟨v, hv, hcv⟩, hfv⟩ := OI.cons ho.1 hi
  obtain rfl : x = v := by rw [Hx.out] at hv; exact Option.some.inj hv
  obtain ⟨g', e', _, ⟨v2, hv2, hcv2⟩, hfv2⟩ := OI.cons ho.1 hj
  obtain rfl : g = g' := by simpa using e'
  obtain rfl : y = v2 := by rw [Hy.out] at hv2; exact Option.some.inj hv2
  have s1 := ho.1.store i y
  have hB1 := hB.grown s1.2 hB.size (by intro q hq; obtain rfl := Option.some.inj hq; exact hBg)
  have s2 := s1.1.store j x
  rw [← Hsw.out] at s2
  have hB2 := hB1.grown s2.2 hB1.size (by intro q hq; obtain rfl := Option.some.inj hq; exact hBg)
  have HS := Lib.hid ((OwI.of s2.1).below (Drew.below ⟨1, rfl⟩ _))
  have HB := Lib.hid (hB2.trans (Drew.below ⟨1, rfl⟩ w.heap.size))
  clear s1 s2 hv hv2 ho e' hB1 hB2
  go_wp2
  go_region
  go_wp2
  go_ret
  exact ⟨_, _, rfl, HS.out, HB.out⟩
end Go.Proofs.Ytageojkepoejiaa

namespace Go.Proofs.Ytageojkepoejiaa
open Go.RowKit

def ident (n : Nat) : List Int := (List.range n).map fun (i : Nat) => (i : Int)
theorem ident_length (n : Nat) : (ident n).length = n := by simp [ident]
theorem ident_at {n i : Nat} (h : i < n) : (ident n)[i]? = some (i : Int) := by simp [ident, h]
theorem ident_succ (n : Nat) : ident (n + 1) = ident n ++ [(n : Int)] := by simp [ident, List.range_succ]

end Go.Proofs.Ytageojkepoejiaa

namespace Go.Proofs.Ytageojkepoejiaa
open Go.RowKit

def sumI (xs : List Int) : Int := xs.foldr (· + ·) 0
theorem sumI_nil : sumI [] = 0 := rfl
theorem sumI_cons (x : Int) (xs : List Int) : sumI (x :: xs) = x + sumI xs := rfl
theorem sumI_append (xs ys : List Int) : sumI (xs ++ ys) = sumI xs + sumI ys := by
  induction xs with
  | nil => simp [sumI_nil]
  | cons x xs ih => rw [List.cons_append, sumI_cons, sumI_cons, ih]; omega
theorem sumI_take {xs : List Int} {k : Nat} {x : Int} (h : xs[k]? = some x) : sumI (xs.take (k + 1)) = sumI (xs.take k) + x := by
  obtain ⟨hk, rfl⟩ := List.getElem?_eq_some_iff.1 h
  rw [List.take_succ_eq_append_getElem hk, sumI_append, sumI_cons, sumI_nil]; omega
/-- numbers so small that no sum of them wraps -/
def Small (xs : List Int) : Prop := ∀ x ∈ xs, -1048576 ≤ x ∧ x ≤ 1048576
theorem sumI_bd {xs : List Int} (h : Small xs) : -(1048576 * (xs.length : Int)) ≤ sumI xs ∧ sumI xs ≤ 1048576 * (xs.length : Int) := by
  induction xs with
  | nil => simp [sumI_nil]
  | cons x xs ih =>
    have h1 := h x (by simp)
    have h2 := ih (fun y hy => h y (by simp [hy]))
    rw [sumI_cons, List.length_cons]
    omega
theorem Small.take {xs : List Int} (h : Small xs) (k : Nat) : Small (xs.take k) := fun x hx => h x (List.mem_of_mem_take hx)
theorem Small.at {xs : List Int} (h : Small xs) {k : Nat} {x : Int} (hx : xs[k]? = some x) : -1048576 ≤ x ∧ x ≤ 1048576 := h x (List.mem_of_getElem? hx)

set_option maxHeartbeats 400000 in
theorem l1Sum_any (a : Option Addr) (n c : Nat) (xs : List Int) (w : World) (hr : RI w a xs) (hn : xs.length = n) (hb : n ≤ 1048576) (hs : Small xs) :
    Calls Try.prog 70 #[.slice a n c] w fun e w' => e = .returned (.int .i64 (sumI xs)) ∧ w = w' := by
  have Hn := Lib.hid hn; clear hn
  have HS := Lib.hid hs; clear hs
  go_enter Try.func70, Try.ntmps70
  go_wp2
  go_loop [3, 4] (fun s i => ∃ k : Nat, k ≤ n ∧ i = .int .i64 k ∧ s = .int .i64 (sumI (xs.take k))) (fun _ i => n - (intOf i).toNat)
  case atStart => exact ⟨0, Nat.zero_le _, rfl, rfl⟩
  case round =>
    obtain ⟨k, hk, rfl, rfl⟩ := hrel
    by_cases hlt : k < n
    · obtain ⟨b, off, rfl, hcell⟩ := hr.at (k := k) (by rw [Hn.out]; exact hlt)
      obtain ⟨x, hx⟩ := some_at Hn.out hlt
      have hc := hcell k x hx
      have hxb := HS.out.at hx
      have hsb := sumI_bd (HS.out.take k)
      have hst := Lib.hid (sumI_take hx)
      have hlk : (xs.take k).length = k := by rw [List.length_take, Hn.out]; omega
      rw [hlk] at hsb
      clear hcell hx hlk
      obtain ⟨s, hsv⟩ : ∃ s, sumI (xs.take k) = s := ⟨_, rfl⟩
      rw [hsv] at hsb ⊢
      have Hv := Lib.hid hsv; clear hsv
      go_wp2
      go_round
      case rel => exact ⟨k + 1, by omega, by go_num, by rw [hst.out, Hv.out]⟩
      case measure => simp [intOf]; omega
    · obtain rfl : k = n := by omega
      go_wp2
      go_ret
      exact ⟨ret_int (by rw [List.take_of_length_le (by rw [Hn.out]; omega)]), rfl⟩
end Go.Proofs.Ytageojkepoejiaa

namespace Go.Proofs.Ytageojkepoejiaa
open Go.RowKit

theorem isPerm_iff (xs : List Int) : isPerm xs = true ↔ 1 ≤ xs.length ∧ xs.length ≤ 7 ∧ (∀ x ∈ xs, 0 ≤ x ∧ x < xs.length) ∧ xs.Nodup := by
  constructor
  · intro h
    have hl := perm_len h
    refine ⟨hl.1, hl.2, fun x hx => ?_, ?_⟩
    · obtain ⟨i, hi⟩ := List.mem_iff_getElem?.1 hx
      exact perm_at h hi
    · rw [List.nodup_iff_pairwise_ne, List.pairwise_iff_getElem]
      intro i j hi hj hij e
      simp only [isPerm, Bool.and_eq_true, List.all_eq_true] at h
      have := h.2 j (by simpa using hj)
      have hxj : xs[j]? = some xs[j] := List.getElem?_eq_getElem hj
      simp only [permAt, getD_of hxj, Bool.and_eq_true, Bool.not_eq_true'] at this
      have h3 := this.2
      rw [List.contains_eq_mem, decide_eq_false_iff_not] at h3
      refine h3 (List.mem_iff_getElem?.2 ⟨i, ?_⟩)
      rw [List.getElem?_take, if_pos hij, ← e, List.getElem?_eq_getElem hi]
  · rintro ⟨h1, h2, h3, h4⟩
    refine isPerm_true h1 h2 (fun j hj => ?_)
    have hxj : xs[j]? = some xs[j] := List.getElem?_eq_getElem hj
    have hb := h3 xs[j] (List.getElem_mem hj)
    have hnm : ¬ xs[j] ∈ xs.take j := by
      intro hm
      obtain ⟨i, hi⟩ := List.mem_iff_getElem?.1 hm
      rw [List.getElem?_take] at hi
      split at hi
      · rename_i hij
        obtain ⟨hi', e⟩ := List.getElem?_eq_some_iff.1 hi
        rw [List.nodup_iff_pairwise_ne, List.pairwise_iff_getElem] at h4
        exact h4 i j hi' hj hij e
      · cases hi
    simp only [permAt, getD_of hxj, List.contains_eq_mem, hnm]
    simp; omega
theorem swp_perm {xs : List Int} {i j : Nat} (hi : i < xs.length) (hj : j < xs.length) : (swp xs i j).Perm xs := by
  rw [swp_at (List.getElem?_eq_getElem hi) (List.getElem?_eq_getElem hj)]
  exact List.set_set_perm hi hj
theorem isPerm_swp {xs : List Int} {i j : Nat} (h : isPerm xs = true) (hi : i < xs.length) (hj : j < xs.length) : isPerm (swp xs i j) = true := by
  rw [isPerm_iff] at h ⊢
  have hp := swp_perm hi hj
  rw [hp.length_eq]
  exact ⟨h.1, h.2.1, fun x hx => h.2.2.1 x (hp.mem_iff.1 hx), hp.nodup_iff.2 h.2.2.2⟩
theorem isPerm_ident {n : Nat} (h : 1 ≤ n ∧ n ≤ 7) : isPerm (ident n) = true := by
  obtain ⟨h1, h2⟩ := h
  have : n = 1 ∨ n = 2 ∨ n = 3 ∨ n = 4 ∨ n = 5 ∨ n = 6 ∨ n = 7 := by omega
  rcases this with rfl | rfl | rfl | rfl | rfl | rfl | rfl <;> decide
theorem code_nat {xs : List Int} {i : Nat} {x : Int} (h : (code xs)[i]? = some x) : 0 ≤ x ∧ x ≤ (xs.length : Nat) := by
  have hi := (List.getElem?_eq_some_iff.1 h).1
  rw [code_length] at hi
  rw [code_at rfl hi] at h
  obtain rfl := Option.some.inj h
  have := cnt_le xs i (xs.length - 1 - i)
  omega
theorem small_code {xs : List Int} (h : xs.length ≤ 1000) : Small (code xs) := by
  intro x hx
  obtain ⟨i, hi⟩ := List.mem_iff_getElem?.1 hx
  have := code_nat hi
  omega

set_option maxRecDepth 100000 in
set_option maxHeartbeats 800000 in
theorem l1Length_any (a : Option Addr) (n c : Nat) (xs : List Int) (w : World) (hr : RI w a xs) (hn : xs.length = n) (hb : n ≤ 1000) :
    Calls Try.prog 37 #[.slice a n c] w fun e w' => e = .returned (.int .i64 (sumI (code xs))) ∧ Below w.heap.size w w' := by
  go_enter Try.func37, Try.ntmps37
  go_wp2_with fail
  refine (l1Code_any _ _ _ xs _ hr hn (by omega)).mono ?_
  rintro e w1 ⟨a1, c1, rfl, ho, hB⟩
  have hl := Lib.hid ho.len
  have hsm := Lib.hid (small_code (xs := xs) (by omega))
  go_wp2_with fail
  refine (l1Sum_any _ _ _ (code xs) _ ho.rd hl.out (by omega) hsm.out).mono ?_
  rintro e w2 ⟨rfl, rfl⟩
  go_wp2
  go_ret
  exact ⟨rfl, hB⟩

set_option maxRecDepth 100000 in
set_option maxHeartbeats 800000 in
theorem lengthOf_any (a : Option Addr) (n c : Nat) (xs : List Int) (w : World) (hr : RI w a xs) (hn : xs.length = n) (hb : n ≤ 1000) (hcap : n ≤ c) (hp : isPerm xs = true) :
    Calls Try.prog 41 #[.slice a n c] w fun e w' => e = .returned (.int .i64 (sumI (code xs))) ∧ Below w.heap.size w w' := by
  have Hn := Lib.hid hn; clear hn
  have Hp := Lib.hid hp
  have hcf : codeOf xs = code xs := by rw [codeOf, hp]; rfl
  have Hcf := Lib.hid hcf; clear hcf hp
  have hsm := Lib.hid (small_code (xs := xs) (by rw [Hn.out]; exact hb))
  go_enter Try.func41, Try.ntmps41
  go_wp2_with fail
  refine (is (implIsPerm_any _ _ _ xs _ hr Hn.out (by omega)) Hp.out).mono ?_
  rintro e w1 ⟨rfl, hd⟩
  have hr1 := hr.below hd
  go_wp2_with fail
  refine (codeOf_any _ _ _ xs _ hr1 Hn.out (by omega) hcap).mono ?_
  rintro e w2 ⟨a2, n2, c2, rfl, ho, hb2⟩
  rw [Hcf.out] at ho
  have hl := ho.len
  have hl2 : n2 = n := by rw [← hl, code_length, Hn.out]
  subst hl2
  have Hl := Lib.hid hl; clear hl
  have hB := hd.trans (hb2.mono hd.size)
  clear hr1 hb2 hd
  go_wp2
  go_loop [3, 12] (fun s i => Hid (∃ k : Nat, k ≤ n2 ∧ i = .int .i64 k ∧ s = .int .i64 (sumI ((code xs).take k)))) (fun _ i => n2 - (intOf i).toNat)
  case atStart => exact ⟨0, Nat.zero_le _, rfl, rfl⟩
  case round =>
    obtain ⟨k, hk, rfl, rfl⟩ := hrel.out
    by_cases hlt : k < n2
    · obtain ⟨b, off, hab, hcell⟩ := ho.rd.at (k := k) (by rw [Hl.out]; exact hlt)
      subst hab
      obtain ⟨x, hx⟩ := some_at Hl.out hlt
      have hc := hcell k x hx
      have hst := sumI_take hx
      have hbd := sumI_bd (hsm.out.take k)
      have hbx := hsm.out.at hx
      have hlen : (((code xs).take k).length : Int) ≤ 1000 := by rw [List.length_take]; omega
      obtain ⟨s, hs⟩ : ∃ s, sumI ((code xs).take k) = s := ⟨_, rfl⟩
      rw [hs] at hst hbd ⊢
      have Hst := Lib.hid hst; clear hst hx hcell hs
      have hsb : -1048576000 ≤ s ∧ s ≤ 1048576000 := by omega
      clear hbd
      go_wp2
      go_round
      case rel => exact ⟨k + 1, by omega, by go_num, by rw [Hst.out] <;> go_num⟩
      case measure => simp [intOf]; omega
    · obtain rfl : k = n2 := by omega
      go_wp2
      go_ret
      exact ⟨ret_int (by rw [List.take_of_length_le (by rw [Hl.out]; exact Nat.le_refl _)]), hB⟩
end Go.Proofs.Ytageojkepoejiaa

namespace Go.Proofs.Ytageojkepoejiaa
open Go.RowKit

theorem bits_one (y : Nat) (h : y < 9223372036854775808) : bits .and .i64 (y : Int) 1 = ((y % 2 : Nat) : Int) := by
  have e1 : BitVec.ofInt 64 (y : Int) = BitVec.ofNat 64 y := BitVec.ofInt_natCast ..
  show IntKind.i64.wrap ((BitVec.ofInt 64 (y : Int) &&& BitVec.ofInt 64 1).toNat : Int) = _
  rw [e1, BitVec.toNat_and, BitVec.toNat_ofNat, show (BitVec.ofInt 64 1).toNat = 1 from rfl, Nat.mod_eq_of_lt (by omega), Nat.and_one_is_mod]
  exact IntWalk.i64_in _ (by omega)
theorem bit_x (x t : Nat) (h : x < 9223372036854775808) : bits .and .i64 ((x : Int) / 2 ^ t) 1 = ((x / 2 ^ t % 2 : Nat) : Int) := by
  have e : (x : Int) / 2 ^ t = ((x / 2 ^ t : Nat) : Int) := by
    rw [Int.natCast_ediv, Int.natCast_pow]
    rfl
  rw [e]
  exact bits_one _ (Nat.lt_of_le_of_lt (Nat.div_le_self _ _) h)
theorem OwI.kept {w w' : World} {B S n c : Nat} {a : Option Addr} {xs : List Int} {row : Option Nat} (h : OwI w B S a n c xs) (hg : w.grownBy w' row) (hne : ∀ k, (Value.slice a n c).ownBlock = some k → row ≠ some k) : OwI w' B S a n c xs := ⟨h.1.kept hg hne, h.2⟩
end Go.Proofs.Ytageojkepoejiaa
