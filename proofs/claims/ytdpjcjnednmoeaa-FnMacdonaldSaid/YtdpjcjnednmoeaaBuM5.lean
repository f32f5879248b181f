/-
  Contracts of the swaps along a word drawn, of a reduced word drawn, of two permutations drawn.
  Contract of InversePerm.
  A check over the 120 permutations of 5 in ten parts. Plain.
  Reduced words of the permutations of at most 5: how they can begin, all of them, how many. Plain.
  Slices of cells: what they read as, what a call owns of them; compared.
-/
import Derived.Test.YtdpjcjnednmoeaaBuM4
import Derived.Test.YtdpjcjnednmoeaaBuM3
import Derived.Deep.LoopGhost
import Derived.Test.YtdpjcjnednmoeaaBuM1
import Derived.Test.YtdpjcjnednmoeaaBuM2
import Derived.StillTailTactics
namespace Go.Proofs.Ytdpjcjnednmoeaa
open Go.RowKit

/-- swaps of neighbours keep to the permutations of n; at a descent they make shorter; where there is no descent, the length is 0 -/
def goodPerm (n : Nat) (u : List Int) : Bool :=
  decide (0 ≤ sumI (code u)) && decide (sumI (code u) ≤ 100 ∧ (descents u).length ≤ 5) && (decide (sumI (code u) = 0) || !(descents u).isEmpty)
  && ((List.range (n - 1)).all fun k => (perms n).contains (swp u k (k + 1)))
  && ((descents u).all fun k => decide (0 ≤ k) && decide (k + 1 < (n : Int)) && decide (sumI (code (swp u k.toNat (k.toNat + 1))) < sumI (code u)))
def goodPerms : Bool := [1, 2, 3, 4, 5].all fun n => (perms n).contains (ident n) && (perms n).all (goodPerm n)
set_option maxRecDepth 100000 in
theorem goodPerms_true : goodPerms = true := by kernel_rfl
theorem good_of {k : Nat} (h1 : 1 ≤ k) (h5 : k ≤ 5) : ident k ∈ perms k ∧ ∀ u ∈ perms k, goodPerm k u = true := by
  have h2 := goodPerms_true
  unfold goodPerms at h2
  rw [List.all_eq_true] at h2
  have h3 := h2 k (by simp; omega)
  rw [Bool.and_eq_true, List.all_eq_true] at h3
  exact ⟨by simpa using h3.1, h3.2⟩
theorem swp_in {n k : Nat} {u : List Int} (h1 : 1 ≤ n) (h5 : n ≤ 5) (hu : u ∈ perms n) (hk : k + 1 < n) : swp u k (k + 1) ∈ perms n := by
  have h := (good_of h1 h5).2 u hu
  unfold goodPerm at h
  simp only [Bool.and_eq_true] at h
  have h4 := h.1.2
  rw [List.all_eq_true] at h4
  have := h4 k (by rw [List.mem_range]; omega)
  simpa using this
theorem len_ok {n : Nat} {u : List Int} (h1 : 1 ≤ n) (h5 : n ≤ 5) (hu : u ∈ perms n) : 0 ≤ sumI (code u) ∧ sumI (code u) ≤ 100 ∧ (descents u).length ≤ 5 ∧ (sumI (code u) ≠ 0 → descents u ≠ []) := by
  have h := (good_of h1 h5).2 u hu
  unfold goodPerm at h
  simp only [Bool.and_eq_true, decide_eq_true_eq, Bool.or_eq_true, Bool.not_eq_true'] at h
  refine ⟨h.1.1.1.1, h.1.1.1.2.1, h.1.1.1.2.2, fun h0 => ?_⟩
  rcases h.1.1.2 with h2 | h2
  · exact absurd h2 h0
  · intro e; rw [e] at h2; simp at h2
theorem down_ok {n : Nat} {u : List Int} {k : Int} (h1 : 1 ≤ n) (h5 : n ≤ 5) (hu : u ∈ perms n) (hk : k ∈ descents u) : 0 ≤ k ∧ k + 1 < (n : Int) ∧ sumI (code (swp u k.toNat (k.toNat + 1))) < sumI (code u) := by
  have h := (good_of h1 h5).2 u hu
  unfold goodPerm at h
  simp only [Bool.and_eq_true] at h
  have h4 := h.2
  rw [List.all_eq_true] at h4
  have := h4 k hk
  simp only [Bool.and_eq_true, decide_eq_true_eq] at this
  exact ⟨this.1.1, this.1.2, this.2⟩

def PlayPost (p : Nat) (w : World) (e : Ending) (w' : World) : Prop :=
  ∃ u a' c', e = .returned (.slice a' p c') ∧ u ∈ perms p ∧ OwI w' w.heap.size w'.heap.size a' p c' u ∧ Below w.heap.size w w'
theorem OwI.one (w : World) (x : Int) : OwI (w.alloc (.cells #[.int .i64 x] 3)) w.heap.size (w.alloc (.cells #[.int .i64 x] 3)).heap.size (some ⟨w.heap.size, 0, none⟩) 1 1 [x] :=
  OwI.mk ⟨by simp [ints], .inr ⟨w.heap.size, 1, #[.int .i64 x], rfl, Nat.le_refl _, heap_alloc_new w _, Nat.le_refl _, by unfold maxLen; omega, by simp, by simp [ints]⟩⟩
def ReducedPost (n : Nat) (g : Nat) (a : Option Addr) (m c : Nat) (xs : List Int) (w : World) (e : Ending) (w' : World) : Prop :=
  ∃ ys a' l c', e = .returned (.slice a' l c') ∧ l ≤ 100 ∧ (∀ x ∈ ys, 0 ≤ x ∧ x + 1 < (n : Int)) ∧ OwI w' w.heap.size w'.heap.size a' l c' ys ∧ Cur w' g a m c xs ∧ Only g (g + 1) w w'
set_option maxRecDepth 100000 in
set_option maxHeartbeats 3200000 in
theorem dReduced_any (n : Nat) (h1 : 1 ≤ n) (h5 : n ≤ 5) (g : Nat) (a : Option Addr) (m c : Nat) (xs : List Int) (ai : Option Addr) (ci : Nat) (ui : List Int) (w : World) (hc : Cur w g a m c xs) (hr : RI w ai ui) (hui : ui ∈ perms n) :
    Calls Try.prog 15 #[.pointer (some ⟨g, 0, none⟩), .slice ai n ci] w (ReducedPost n g a m c xs w) := by
  have hgw := hc.lt
  have hul := (perms_ok hui h1 h5).1
  have hI0 : OwI (w.alloc (.cells #[] 3)) w.heap.size (w.alloc (.cells #[] 3)).heap.size (some ⟨w.heap.size, 0, none⟩) 0 0 [] := OwI.mk (World.ownsRow_made _ #[] 0 (Nat.le_refl _) (Nat.zero_le _) rfl)
  have hB0 : Below w.heap.size w (w.alloc (.cells #[] 3)) := (Below.refl _ _).alloc (Nat.le_refl _) _
  have hr0 := hr.below hB0
  have Hul := Lib.hid hul
  have Hui := Lib.hid hui
  have HI0 := Lib.hid hI0
  clear hul hui hI0
  go_enter Try.func15, Try.ntmps15
  go_wp2_with fail
  refine (l1Ints_any _ _ _ ui _ hr0 Hul.out (by omega)).mono ?_
  rintro e w1 ⟨a1, c1, rfl, ho1, hB1⟩
  have hs0 := hB0.size
  have hB2 := hB0.trans (hB1.mono hs0)
  have hO0 := (Only.refl g (g + 1) w).laid hB2
  have hC0 := hc.below hB2
  have ho1' := ho1.mono (B' := w.heap.size) hs0 (Nat.le_refl _)
  have hI1 := (HI0.out.below hB1).mono (B' := w.heap.size) (S' := w1.heap.size) (Nat.le_refl _) hB1.size
  have hlen := len_ok h1 h5 Hui.out
  go_wp2
  go_loopg [5, 6] 100 (fun gf o v wr => Hid (∃ u av cv ys ao mo co, v = .slice av n cv ∧ o = .slice ao mo co ∧ u ∈ perms n ∧ sumI (code u) ≤ (gf : Nat) ∧ mo + gf ≤ 100 ∧ (∀ x ∈ ys, 0 ≤ x ∧ x + 1 < (n : Int)) ∧ OwI wr w.heap.size wr.heap.size av n cv u ∧ OwI wr w.heap.size wr.heap.size ao mo co ys) ∧ Cur wr g a m c xs ∧ Only g (g + 1) w wr)
  case atStart => exact ⟨⟨ui, _, _, [], _, _, _, rfl, rfl, Hui.out, by omega, by omega, by simp, ho1', hI1⟩, hC0, hO0⟩
  case round =>
    clear hB0 hB1 hB2 hO0 hC0 ho1 ho1' hI1 hlen hs0 HI0 hr0
    obtain ⟨HV, hC, hO⟩ := hrel
    obtain ⟨wo, rfl⟩ : ∃ wo : World, wo = wr := ⟨_, rfl⟩
    obtain ⟨u, av, cv, ys, ao, mo, co, rfl, rfl, hu, hsum, hmo, hys, hov, hoo⟩ := HV.out
    clear HV
    have hsz := hO.size
    have hul := (perms_ok hu h1 h5).1
    obtain ⟨hs0, hs1, hd5, hdne⟩ := len_ok h1 h5 hu
    obtain ⟨s, hs⟩ : ∃ s : Nat, sumI (code u) = s := ⟨(sumI (code u)).toNat, by omega⟩
    rw [hs] at hsum hs0 hs1 hdne
    have Hs := Lib.hid hs
    have Hu := Lib.hid hu
    have Hul2 := Lib.hid hul
    have HY := Lib.hid hys
    clear hs hu hul hys
    by_cases hz : s = 0
    · have q1 : ¬ ((0 : Int) < (s : Int)) := by omega
      clear hdne hz
      go_wp2_with fail
      refine (isInt (l1Length_any _ _ _ u _ hov.rd Hul2.out (by omega)) Hs.out).mono ?_
      rintro e w2 ⟨rfl, hB2⟩
      have hoo2 := (hoo.below hB2).mono (B' := w.heap.size) (S' := w2.heap.size) (Nat.le_refl _) hB2.size
      have hC2 := hC.below hB2
      have hO2 := hO.laid hB2
      go_wp2
      go_ret
      exact ⟨_, _, _, _, rfl, by omega, HY.out, hoo2, hC2, hO2⟩
    · have q1 : (0 : Int) < (s : Int) := by omega
      have hne := hdne (by omega)
      obtain ⟨g', rfl⟩ : ∃ g', gk = g' + 1 := ⟨gk - 1, by omega⟩
      obtain ⟨ds, hds⟩ : ∃ ds, descents u = ds := ⟨_, rfl⟩
      rw [hds] at hne hd5
      obtain ⟨d, hd⟩ : ∃ d, ds.length = d := ⟨_, rfl⟩
      have hd0 : 1 ≤ d := by rw [← hd]; exact List.length_pos_iff.2 hne
      rw [hd] at hd5
      have Hd := Lib.hid hd
      have Hds := Lib.hid hds
      clear hdne hz hne hd hds
      go_wp2_with fail
      refine (isInt (l1Length_any _ _ _ u _ hov.rd Hul2.out (by omega)) Hs.out).mono ?_
      rintro e w2 ⟨rfl, hB2⟩
      have hov2 := hov.below hB2
      have hoo2 := hoo.below hB2
      have hC2 := hC.below hB2
      have hO2 := hO.laid hB2
      have hz2 := hB2.size
      clear hov hoo hC hO
      go_wp2_with fail
      refine (specDescents_any _ _ _ u _ hov2.rd Hul2.out (by omega) hov2.1.lt).mono ?_
      rintro e w3 ⟨a3, n3, c3, rfl, ho3, hB3⟩
      rw [Hds.out] at ho3
      obtain rfl : n3 = d := by rw [← ho3.len]; exact Hd.out
      have hov3 := hov2.below hB3
      have hoo3 := hoo2.below hB3
      have hC3 := hC2.below hB3
      have hO3 := hO2.laid hB3
      have hz3 := hB3.size
      clear hov2 hoo2 hC2 hO2
      have q2 : (1 : Int) ≤ (n3 : Int) := by omega
      go_wp2_with fail
      refine (l1Below_any _ q2 (by omega) g a m c xs _ hC3).mono ?_
      rintro e w4 ⟨r, rfl, hrd, hC4, hO4⟩
      have hov4 := hov3.only hO4 (.inr (by omega))
      have hoo4 := hoo3.only hO4 (.inr (by omega))
      have ho4 := ho3.only hO4 (.inr (by omega))
      have hO5 := hO3.trans hO4
      have hz4 := hO4.size
      clear hov3 hoo3 hC3 hO3 ho3
      obtain ⟨b, off, rfl, hcell⟩ := ho4.rd.at (k := r) (by rw [Hd.out]; omega)
      obtain ⟨kk, hkk⟩ := some_at (k := r) Hd.out (by omega)
      have hck := hcell r kk hkk
      have hmem : kk ∈ descents u := by rw [Hds.out]; exact List.mem_of_getElem? hkk
      obtain ⟨hk0, hk1, hk2⟩ := down_ok h1 h5 Hu.out hmem
      obtain ⟨k, rfl⟩ : ∃ k : Nat, kk = k := ⟨kk.toNat, by omega⟩
      rw [Int.toNat_natCast, Hs.out] at hk2
      have Hk2 := Lib.hid hk2
      have Hin := Lib.hid (swp_in h1 h5 Hu.out (k := k) (by omega))
      clear hcell hkk hmem hk2
      have hov5 := Lib.hid hov4
      go_wp2_with fail
      refine (l1Swap_any _ _ _ u k (k + 1) _ _ _ hov4.rd Hul2.out (by omega) rfl (by omega) (by omega) (by omega)).mono ?_
      rintro e w5 ⟨a5, c5, rfl, ho5, hB5⟩
      have hoo5 := hoo4.below hB5
      have hC5 := hC4.below hB5
      have hO6 := hO5.laid hB5
      have hz5 := hB5.size
      clear hov4 hoo4 hC4 hO4 hO5 ho4
      have hA : Below w5.heap.size w5 (w5.alloc (.cells #[.int .i64 (k : Int)] 3)) := (Below.refl _ _).alloc (Nat.le_refl _) _
      have hI5 : OwI (w5.alloc (.cells #[.int .i64 (k : Int)] 3)) w5.heap.size (w5.alloc (.cells #[.int .i64 (k : Int)] 3)).heap.size (some ⟨w5.heap.size, 0, none⟩) 1 1 [(k : Int)] := OwI.one w5 (k : Int)
      have hoo6 := hoo5.below hA
      have HI5 := Lib.hid hI5; clear hI5
      go_wp2_with (first | (at_builtin; go_loud (refine wpList_appI (by rfl) _ _ (by rfl) HI5.out (by rfl) hoo6.rd hoo6.len (by rfl) (by omega) (by simp) ?_)))
      intro a7 c7 w7 ho7 hg7
      have hB7 : Below w5.heap.size w5 w7 := hg7.below hA (by simp) (fun k hk => by simp [Value.ownBlock] at hk; omega)
      have hC7 := hC5.below hB7
      have hO7 := hO6.laid hB7
      have hz7 := hB7.size
      have hov7 := (ho5.below hB7).mono (B' := w.heap.size) (S' := w7.heap.size) (by omega) (by omega)
      have ho8 := ho7.mono (B' := w.heap.size) (S' := w7.heap.size) (by omega) (Nat.le_refl _)
      have hys2 : ∀ x ∈ [(k : Int)] ++ ys, 0 ≤ x ∧ x + 1 < (n : Int) := by
        intro x hx
        rcases List.mem_append.1 hx with h | h
        · obtain rfl : x = (k : Int) := by simpa using h
          exact ⟨hk0, hk1⟩
        · exact HY.out x h
      have HY2 := Lib.hid hys2
      clear hys2 ho5 ho7 hoo5 hoo6 hA
      go_wp2
      go_roundg g'
      case rel => exact ⟨⟨_, _, _, _, _, _, _, rfl, rfl, Hin.out, by have := Hk2.out; omega, by omega, HY2.out, hov7, ho8⟩, hC7, hO7⟩
      case measure => omega
end Go.Proofs.Ytdpjcjnednmoeaa

namespace Go.Proofs.Ytdpjcjnednmoeaa
open Go.RowKit

def invTo (n : Nat) (xs : List Int) : Nat → List Int
  | 0 => List.replicate n 0
  | k + 1 => (invTo n xs k).set (xs.getD k 0).toNat (k : Int)
def inv (xs : List Int) : List Int := invTo xs.length xs xs.length
theorem invTo_length (n : Nat) (xs : List Int) (k : Nat) : (invTo n xs k).length = n := by
  induction k with
  | zero => simp [invTo]
  | succ k ih => simp [invTo, ih]

set_option maxRecDepth 100000 in
set_option maxHeartbeats 1600000 in
theorem implInverse_any (a : Option Addr) (n c : Nat) (xs : List Int) (w : World) (hr : RI w a xs) (hn : xs.length = n) (hb : n ≤ 1000) (hp : isPerm xs = true) (hin : ∀ x ∈ xs, 0 ≤ x ∧ x < (n : Int)) :
    Calls Try.prog 57 #[.slice a n c] w fun e w' => ∃ a' c', e = .returned (.slice a' n c') ∧ OwI w' w.heap.size w'.heap.size a' n c' (inv xs) ∧ Below w.heap.size w w' := by
  have Hn := Lib.hid hn; clear hn
  have HP := Lib.hid hp; clear hp
  have HI := Lib.hid hin; clear hin
  obtain ⟨i0, hi, hz0, hz1, hz2⟩ := info_parts Try.info3
  go_enter Try.func57, Try.ntmps57
  go_wp2_with fail
  refine (is (implIsPerm_any _ _ _ xs _ hr Hn.out (by omega)) HP.out).mono ?_
  rintro e w0 ⟨rfl, hB0⟩
  have hr0 := hr.below hB0
  have hs0 := hB0.size
  go_wp2_with (first | (at_make; refine wpList_make_full _ rfl _ _ 24 rfl w.heap.size 3 i0 (.int .i64 0) 1 Try.underlying24 hi hz0 hz1 .i64 .i64 _ _ n rfl rfl ?m1 ?m2 ?m3 ?m4 ?m5 ?_))
  case m1 => rfl
  case m2 => rfl
  case m3 => rw [hz2]; omega
  case m4 => unfold maxLen; omega
  case m5 => exact hs0
  intro w1 hown hg
  have hB : Below w.heap.size w w1 := hB0.grown hg hs0 (by simp)
  have hrow : OS w1 w.heap.size (some ⟨w0.heap.size, 0, none⟩) n n (invTo n xs 0) := by
    refine OS.of ?_
    have e := toList_madeCells_one (.int .i64 0) n
    simpa [ints, Value.cells, e, invTo] using hown
  have Hrow := Lib.hid hrow; clear hown hg hrow
  go_wp2
  go_loopw [14] (fun iv wr => Hid (∃ i : Nat, i ≤ n ∧ iv = .int .i64 i ∧ OS wr w.heap.size (some ⟨w0.heap.size, 0, none⟩) n n (invTo n xs i)) ∧ Below w.heap.size w wr) (fun i _ => n - (intOf i).toNat)
  case atStart => exact ⟨⟨0, Nat.zero_le _, rfl, Hrow.out⟩, hB⟩
  case round =>
    clear Hrow hB
    obtain ⟨HV, hB⟩ := hrel
    obtain ⟨wo, rfl⟩ : ∃ wo : World, wo = wr := ⟨_, rfl⟩
    obtain ⟨i, hi', rfl, ho⟩ := HV.out
    clear HV
    by_cases hlt : i < n
    · obtain ⟨b, off, rfl, hcell⟩ := (hr.below hB).at (k := i) (by rw [Hn.out]; exact hlt)
      obtain ⟨x0, hx⟩ := some_at Hn.out hlt
      have hcx := hcell i x0 hx
      obtain ⟨hx0, hx1⟩ := HI.out x0 (List.mem_of_getElem? hx)
      obtain ⟨x, rfl⟩ : ∃ x : Nat, x0 = x := ⟨x0.toNat, by omega⟩
      have hst : (invTo n xs i).set x (i : Int) = invTo n xs (i + 1) := by rw [invTo, getD_of hx]; rfl
      have Hst := Lib.hid hst
      clear hcell hx hst
      have hxn : x < n := by omega
      obtain ⟨g, hg0, hBg, ⟨v, hv, hcv⟩, hfv⟩ := OI.cons ho hxn
      obtain rfl : w0.heap.size = g := by simpa using hg0
      have s := ho.store x (i : Int)
      rw [Hst.out] at s
      have HS := Lib.hid s.1
      have hB2 := hB.setCell (p := ⟨w0.heap.size, x, none⟩) hBg (.int .i64 i)
      have HB2 := Lib.hid hB2
      have q1 : (i : Int) < (n : Int) := by omega
      clear s ho hv hg0 hB2
      go_wp2
      go_roundw
      case rel => exact ⟨⟨i + 1, by omega, by go_num, HS.out⟩, HB2.out⟩
      case measure => simp [intOf]; omega
    · obtain rfl : i = n := by omega
      have hfin : invTo i xs i = inv xs := by rw [inv, Hn.out]
      rw [hfin] at ho
      have HO := Lib.hid ho; clear ho
      go_wp2
      go_ret
      exact ⟨_, _, rfl, OwI.of HO.out, hB⟩
end Go.Proofs.Ytdpjcjnednmoeaa

namespace Go.Proofs.Ytdpjcjnednmoeaa

theorem all_parts {α : Type} (p : α → Bool) (m : Nat) : ∀ (k : Nat) (l : List α), l.length ≤ m * k → (∀ j, j < k → ((l.drop (m * j)).take m).all p = true) → l.all p = true
  | 0, l, hl, _ => by
    have : l = [] := List.length_eq_zero_iff.1 (by simpa using hl)
    subst this
    rfl
  | k + 1, l, hl, h => by
    have e : l = l.take m ++ l.drop m := (List.take_append_drop m l).symm
    rw [e, List.all_append, Bool.and_eq_true]
    refine ⟨by have := h 0 (by omega); simpa using this, all_parts p m k (l.drop m) (by rw [List.length_drop]; rw [Nat.mul_succ] at hl; omega) fun j hj => ?_⟩
    have := h (j + 1) (by omega)
    rw [List.drop_drop, show m + m * j = m * (j + 1) by rw [Nat.mul_succ]; omega]
    exact this
theorem perms5_len : (perms 5).length = 120 := by kernel_rfl
end Go.Proofs.Ytdpjcjnednmoeaa

namespace Go.Proofs.Ytdpjcjnednmoeaa
open Go.RowKit

/-- the letter k, if a reduced word can begin with it, and the permutation behind it -/
def begStep (u : List Int) (k : Nat) : List (Int × List Int) :=
  if (inv u).getD (k + 1) 0 < (inv u).getD k 0 then [((k : Int), swp u ((inv u).getD k 0).toNat ((inv u).getD (k + 1) 0).toNat)] else []
def begTo (u : List Int) : Nat → List (Int × List Int)
  | 0 => []
  | k + 1 => begTo u k ++ begStep u k
def begs (u : List Int) : List (Int × List Int) := begTo u (u.length - 1)
/-- how many reduced words -/
def cntF : Nat → List Int → Int
  | 0, _ => 0
  | f + 1, u => if (begs u).length = 0 then 1 else ((begs u).map fun p => cntF f p.2).sum
/-- all reduced words -/
def redF : Nat → List Int → List (List Int)
  | 0, _ => []
  | f + 1, u => if (begs u).length = 0 then [[]] else (begs u).flatMap fun p => (redF f p.2).map fun l => p.1 :: l
def rcnt (u : List Int) : Int := cntF 11 u
def rws (u : List Int) : List (List Int) := redF 11 u
/-- a table: a permutation as a number, how many reduced words, the sum of their products -/
def tabR : List (Nat × Nat × Nat) := [(8, 1, 1), (65, 1, 1), (72, 1, 1), (522, 1, 1), (529, 1, 2), (578, 1, 1), (592, 1, 2), (641, 1, 2), (648, 2, 6), (4179, 1, 1), (4186, 1, 3), (4235, 1, 2), (4249, 1, 6), (4298, 1, 6), (4305, 2, 30), (4627, 1, 1), (4634, 2, 6), (4739, 1, 2), (4760, 1, 6), (4802, 2, 12), (4816, 3, 48), (5131, 1, 2), (5145, 2, 12), (5187, 2, 6), (5208, 3, 24), (5313, 2, 24), (5320, 5, 120), (5642, 1, 6), (5649, 3, 48), (5698, 3, 24), (5712, 6, 120), (5761, 5, 120), (5768, 16, 720), (33436, 1, 1), (33443, 1, 4), (33492, 1, 3), (33506, 1, 12), (33555, 1, 12), (33562, 2, 84), (33884, 1, 2), (33891, 2, 16), (33996, 1, 6), (34017, 1, 24), (34059, 2, 48), (34073, 3, 264), (34388, 1, 6), (34402, 2, 48), (34444, 2, 30), (34465, 3, 168), (34570, 2, 144), (34577, 5, 1080), (34899, 1, 24), (34906, 3, 264), (34955, 3, 168), (34969, 6, 1200), (35018, 5, 1080), (35025, 16, 10080), (37020, 1, 1), (37027, 2, 8), (37076, 2, 6), (37090, 3, 36), (37139, 3, 36), (37146, 8, 336), (37916, 1, 2), (37923, 3, 24), (38084, 1, 6), (38112, 1, 24), (38147, 3, 72), (38168, 4, 360), (38420, 2, 12), (38434, 5, 120), (38532, 3, 48), (38560, 4, 240), (38658, 5, 360), (38672, 9, 2160), (38931, 3, 72), (38938, 11, 960), (39043, 6, 360), (39064, 10, 2160), (39106, 16, 3600), (39120, 35, 25200), (41052, 1, 2), (41059, 3, 24), (41164, 2, 12), (41185, 3, 72), (41227, 5, 120), (41241, 11, 960), (41500, 2, 6), (41507, 8, 96), (41668, 3, 24), (41696, 4, 120), (41731, 11, 360), (41752, 19, 2160), (42508, 2, 24), (42529, 5, 240), (42564, 5, 120), (42592, 9, 720), (42753, 5, 720), (42760, 14, 5040), (43019, 5, 240), (43033, 16, 2880), (43075, 16, 1440), (43096, 35, 10080), (43201, 21, 10080), (43208, 70, 80640), (45140, 1, 6), (45154, 3, 72), (45196, 3, 48), (45217, 6, 360), (45322, 5, 360), (45329, 16, 3600), (45588, 3, 24), (45602, 11, 360), (45700, 6, 120), (45728, 10, 720), (45826, 16, 1440), (45840, 35, 10080), (46092, 5, 120), (46113, 16, 1440), (46148, 16, 720), (46176, 35, 5040), (46337, 21, 5040), (46344, 70, 40320), (47114, 5, 720), (47121, 21, 10080), (47170, 21, 5040), (47184, 56, 40320), (47233, 42, 40320), (47240, 168, 362880), (49235, 1, 24), (49242, 4, 360), (49291, 4, 240), (49305, 10, 2160), (49354, 9, 2160), (49361, 35, 25200), (49683, 4, 120), (49690, 19, 2160), (49795, 10, 720), (49816, 20, 5040), (49858, 35, 10080), (49872, 90, 80640), (50187, 9, 720), (50201, 35, 10080), (50243, 35, 5040), (50264, 90, 40320), (50369, 56, 40320), (50376, 216, 362880), (50698, 14, 5040), (50705, 70, 80640), (50754, 70, 40320), (50768, 216, 362880), (50817, 168, 362880), (50824, 768, 3628800)]
def keyN (u : List Int) : Nat := u.foldl (fun a x => a * 8 + x.toNat) 1
def findR (k : Nat) : List (Nat × Nat × Nat) → Nat × Nat
  | [] => (0, 0)
  | p :: l => if p.1 = k then p.2 else findR k l
def tC (u : List Int) : Nat := (findR (keyN u) tabR).1
def tM (u : List Int) : Nat := (findR (keyN u) tabR).2
def redOk (n : Nat) (u : List Int) : Bool :=
  ((begs u).all fun p => decide (0 ≤ p.1) && decide (p.1 < 100) && (perms n).contains p.2 && decide (sumI (code p.2) < sumI (code u)))
    && decide (sumI (code u) ≤ 10) && decide (tC u ≤ 800) && decide (tC u = if (begs u).length = 0 then 1 else ((begs u).map fun p => tC p.2).sum)
    && decide (tM u = if (begs u).length = 0 then 1 else ((begs u).map fun p => (p.1.toNat + 1) * tM p.2).sum) && (inv u).all fun x => decide (0 ≤ x) && decide (x < (n : Int))
set_option maxRecDepth 100000 in
theorem redOk_all : ([1, 2, 3, 4, 5].all fun n => (perms n).all (redOk n)) = true := by kernel_rfl
theorem redOk_of {n : Nat} {u : List Int} (h1 : 1 ≤ n) (h5 : n ≤ 5) (hu : u ∈ perms n) : redOk n u = true := by
  have h2 := List.all_eq_true.1 redOk_all n (by
    have hc : n = 1 ∨ n = 2 ∨ n = 3 ∨ n = 4 ∨ n = 5 := by omega
    rcases hc with rfl | rfl | rfl | rfl | rfl <;> decide)
  exact List.all_eq_true.1 h2 u hu
structure RedBase (n : Nat) (u : List Int) : Prop where
  next : ∀ p ∈ begs u, 0 ≤ p.1 ∧ p.1 < 100 ∧ p.2 ∈ perms n ∧ sumI (code p.2) < sumI (code u)
  low : 0 ≤ sumI (code u)
  len : sumI (code u) ≤ 10
  few : tC u ≤ 800
  cnt : tC u = if (begs u).length = 0 then 1 else ((begs u).map fun p => tC p.2).sum
  mac : tM u = if (begs u).length = 0 then 1 else ((begs u).map fun p => (p.1.toNat + 1) * tM p.2).sum
  inv : ∀ x ∈ inv u, 0 ≤ x ∧ x < (n : Int)
theorem redBase {n : Nat} {u : List Int} (h1 : 1 ≤ n) (h5 : n ≤ 5) (hu : u ∈ perms n) : RedBase n u := by
  have h := redOk_of h1 h5 hu
  unfold redOk at h
  simp only [Bool.and_eq_true, decide_eq_true_eq, List.all_eq_true] at h
  obtain ⟨⟨⟨⟨⟨a1, a2⟩, a3⟩, a4⟩, a5⟩, a6⟩ := h
  exact ⟨fun p hp => by have := a1 p hp; exact ⟨this.1.1.1, this.1.1.2, by simpa using this.1.2, this.2⟩, (len_ok h1 h5 hu).1, a2, a3, a4, a5, a6⟩
theorem cntF_succ (f : Nat) (u : List Int) : cntF (f + 1) u = if (begs u).length = 0 then 1 else ((begs u).map fun p => cntF f p.2).sum := rfl
theorem redF_succ (f : Nat) (u : List Int) : redF (f + 1) u = if (begs u).length = 0 then [[]] else (begs u).flatMap fun p => (redF f p.2).map fun l => p.1 :: l := rfl
theorem sum_cast (B : List (Int × List Int)) (F : Int × List Int → Int) (M : Int × List Int → Nat) (h : ∀ p ∈ B, F p = (M p : Int)) : (B.map F).sum = (((B.map M).sum : Nat) : Int) := by
  induction B with
  | nil => rfl
  | cons p B ih =>
    rw [List.map_cons, List.map_cons, List.sum_cons, List.sum_cons, h p (by simp), ih fun q hq => h q (by simp [hq])]
    omega
theorem cntF_tab {n : Nat} (h1 : 1 ≤ n) (h5 : n ≤ 5) : ∀ (f : Nat) (u : List Int), u ∈ perms n → sumI (code u) < f → cntF f u = (tC u : Int)
  | 0, u, hu, h => by have := (redBase h1 h5 hu).low; omega
  | f + 1, u, hu, hf => by
    have hb := redBase h1 h5 hu
    rw [cntF_succ, hb.cnt]
    split
    · rfl
    · exact sum_cast _ _ _ fun p hp => cntF_tab h1 h5 f p.2 (hb.next p hp).2.2.1 (by have := (hb.next p hp).2.2.2; omega)
theorem redF_len {n : Nat} (h1 : 1 ≤ n) (h5 : n ≤ 5) : ∀ (f : Nat) (u : List Int), u ∈ perms n → sumI (code u) < f → (redF f u).length = tC u
  | 0, u, hu, h => by have := (redBase h1 h5 hu).low; omega
  | f + 1, u, hu, hf => by
    have hb := redBase h1 h5 hu
    rw [redF_succ, hb.cnt]
    split
    · rfl
    · rw [List.length_flatMap]
      congr 1
      apply List.map_congr_left
      intro p hp
      rw [List.length_map]
      exact redF_len h1 h5 f p.2 (hb.next p hp).2.2.1 (by have := (hb.next p hp).2.2.2; omega)
theorem flat_congr {α β : Type} (B : List α) (F G : α → List β) (h : ∀ p ∈ B, F p = G p) : B.flatMap F = B.flatMap G := by
  rw [List.flatMap_def, List.flatMap_def, List.map_congr_left h]
theorem redF_same {n : Nat} (h1 : 1 ≤ n) (h5 : n ≤ 5) : ∀ (f g : Nat) (u : List Int), u ∈ perms n → sumI (code u) < f → sumI (code u) < g → redF f u = redF g u
  | 0, _, u, hu, h, _ => by have := (redBase h1 h5 hu).low; omega
  | f + 1, 0, u, hu, _, h => by have := (redBase h1 h5 hu).low; omega
  | f + 1, g + 1, u, hu, hf, hg => by
    have hb := redBase h1 h5 hu
    rw [redF_succ, redF_succ, flat_congr (begs u) (fun p => (redF f p.2).map fun l => p.1 :: l) (fun p => (redF g p.2).map fun l => p.1 :: l) fun p hp => by
      rw [redF_same h1 h5 f g p.2 (hb.next p hp).2.2.1 (by have := (hb.next p hp).2.2.2; omega) (by have := (hb.next p hp).2.2.2; omega)]]
/-- the product of the letters, each one more; the sum of these -/
def wprod : List Int → Int
  | [] => 1
  | x :: l => (x + 1) * wprod l
def wsum : List (List Int) → Int
  | [] => 0
  | l :: L => wprod l + wsum L
theorem wprod_snoc (x : Int) : ∀ l : List Int, wprod (l ++ [x]) = wprod l * (x + 1)
  | [] => by simp [wprod]
  | y :: l => by rw [List.cons_append, wprod, wprod, wprod_snoc x l, Int.mul_assoc]
theorem wsum_append : ∀ (L M : List (List Int)), wsum (L ++ M) = wsum L + wsum M
  | [], M => by simp [wsum]
  | l :: L, M => by rw [List.cons_append, wsum, wsum, wsum_append L M, Int.add_assoc]
theorem wsum_cons (k : Int) : ∀ L : List (List Int), wsum (L.map fun l => k :: l) = (k + 1) * wsum L
  | [] => by simp [wsum]
  | l :: L => by rw [List.map_cons, wsum, wsum, wsum_cons k L, wprod, Int.mul_add]
theorem wsum_flat (F : Int × List Int → List (List Int)) (M : Int × List Int → Nat) : ∀ B : List (Int × List Int), (∀ p ∈ B, 0 ≤ p.1 ∧ wsum (F p) = (M p : Int)) → wsum (B.flatMap fun p => (F p).map fun l => p.1 :: l) = (((B.map fun p => (p.1.toNat + 1) * M p).sum : Nat) : Int)
  | [], _ => rfl
  | p :: B, h => by
    obtain ⟨h1, h2⟩ := h p (by simp)
    rw [List.flatMap_cons, wsum_append, wsum_cons, h2, wsum_flat F M B fun q hq => h q (by simp [hq]), List.map_cons, List.sum_cons, Int.natCast_add, Int.natCast_mul]
    congr 2
    omega
theorem redF_mac {n : Nat} (h1 : 1 ≤ n) (h5 : n ≤ 5) : ∀ (f : Nat) (u : List Int), u ∈ perms n → sumI (code u) < f → wsum (redF f u) = (tM u : Int)
  | 0, u, hu, h => by have := (redBase h1 h5 hu).low; omega
  | f + 1, u, hu, hf => by
    have hb := redBase h1 h5 hu
    rw [redF_succ, hb.mac]
    split
    · rfl
    · exact wsum_flat _ _ _ fun p hp => ⟨(hb.next p hp).1, redF_mac h1 h5 f p.2 (hb.next p hp).2.2.1 (by have := (hb.next p hp).2.2.2; omega)⟩
theorem redF_length {n : Nat} (h1 : 1 ≤ n) (h5 : n ≤ 5) : ∀ (f : Nat) (u : List Int), u ∈ perms n → ∀ l ∈ redF f u, l.length ≤ f
  | 0, u, _, l, h => by cases h
  | f + 1, u, hu, l, h => by
    have hb := redBase h1 h5 hu
    rw [redF_succ] at h
    split at h
    · rw [List.mem_singleton] at h
      subst h
      exact Nat.zero_le _
    · obtain ⟨p, hp, h2⟩ := List.mem_flatMap.1 h
      obtain ⟨l', h3, rfl⟩ := List.mem_map.1 h2
      have := redF_length h1 h5 f p.2 (hb.next p hp).2.2.1 l' h3
      rw [List.length_cons]
      omega
structure RedFacts (n : Nat) (u : List Int) : Prop where
  next : ∀ p ∈ begs u, 0 ≤ p.1 ∧ p.1 < 100 ∧ p.2 ∈ perms n ∧ sumI (code p.2) < sumI (code u)
  low : 0 ≤ sumI (code u)
  len : sumI (code u) ≤ 10
  cnt : 0 ≤ rcnt u ∧ rcnt u ≤ 800
  few : (rws u).length ≤ 800
  short : ∀ l ∈ rws u, l.length ≤ 11
  mac : wsum (rws u) = (tM u : Int)
  inv : ∀ x ∈ inv u, 0 ≤ x ∧ x < (n : Int)
theorem redFacts {n : Nat} {u : List Int} (h1 : 1 ≤ n) (h5 : n ≤ 5) (hu : u ∈ perms n) : RedFacts n u := by
  have hb := redBase h1 h5 hu
  have hl := hb.len
  have hf := hb.few
  have e1 := cntF_tab h1 h5 11 u hu (by omega)
  have e2 := redF_len h1 h5 11 u hu (by omega)
  refine ⟨hb.next, hb.low, hb.len, ?_, ?_, redF_length h1 h5 11 u hu, redF_mac h1 h5 11 u hu (by omega), hb.inv⟩
  · unfold rcnt
    rw [e1]
    omega
  · unfold rws
    rw [e2]
    exact hf
/-- after i of the beginnings -/
def cntTo (u : List Int) (i : Nat) : Int := (((begs u).take i).map fun p => rcnt p.2).sum
def redTo (u : List Int) (i : Nat) : List (List Int) := ((begs u).take i).flatMap fun p => (rws p.2).map fun l => p.1 :: l
theorem cnt_eq {n : Nat} {u : List Int} (h1 : 1 ≤ n) (h5 : n ≤ 5) (hu : u ∈ perms n) : rcnt u = if (begs u).length = 0 then 1 else cntTo u (begs u).length := by
  have hb := redBase h1 h5 hu
  have hl := hb.len
  have e : ((begs u).map fun p => cntF 10 p.2) = (begs u).map fun p => rcnt p.2 := List.map_congr_left fun p hp => by
    obtain ⟨_, _, a, b⟩ := hb.next p hp
    rw [cntF_tab h1 h5 10 p.2 a (by omega)]
    exact (cntF_tab h1 h5 11 p.2 a (by omega)).symm
  have e2 : rcnt u = if (begs u).length = 0 then 1 else ((begs u).map fun p => cntF 10 p.2).sum := cntF_succ 10 u
  rw [e2, e]
  unfold cntTo
  rw [List.take_length]
theorem red_eq {n : Nat} {u : List Int} (h1 : 1 ≤ n) (h5 : n ≤ 5) (hu : u ∈ perms n) : rws u = if (begs u).length = 0 then [[]] else redTo u (begs u).length := by
  have hb := redBase h1 h5 hu
  have hl := hb.len
  have e2 : rws u = if (begs u).length = 0 then [[]] else (begs u).flatMap fun p => (redF 10 p.2).map fun l => p.1 :: l := redF_succ 10 u
  rw [e2]
  unfold redTo
  rw [List.take_length, flat_congr (begs u) (fun p => (redF 10 p.2).map fun l => p.1 :: l) (fun p => (rws p.2).map fun l => p.1 :: l) fun p hp => by
    obtain ⟨_, _, a, b⟩ := hb.next p hp
    rw [show redF 10 p.2 = rws p.2 from redF_same h1 h5 10 11 p.2 a (by omega) (by omega)]]
theorem sum_append_one (l : List Int) (x : Int) : (l ++ [x]).sum = l.sum + x := by
  rw [List.sum_append]
  simp
theorem cntTo_zero (u : List Int) : cntTo u 0 = 0 := rfl
theorem cntTo_succ {u : List Int} {i : Nat} {p : Int × List Int} (h : (begs u)[i]? = some p) : cntTo u (i + 1) = cntTo u i + rcnt p.2 := by
  unfold cntTo
  rw [List.take_add_one, h, List.map_append, Option.toList_some, List.map_singleton, sum_append_one]
theorem redTo_zero (u : List Int) : redTo u 0 = [] := rfl
theorem redTo_succ {u : List Int} {i : Nat} {p : Int × List Int} (h : (begs u)[i]? = some p) : redTo u (i + 1) = redTo u i ++ (rws p.2).map fun l => p.1 :: l := by
  unfold redTo
  rw [List.take_add_one, h, Option.toList_some, List.flatMap_append]
  simp
theorem sum_nonneg : ∀ l : List Int, (∀ x ∈ l, 0 ≤ x) → 0 ≤ l.sum
  | [], _ => Int.le_refl _
  | x :: l, h => by
    have h1 := h x (by simp)
    have h2 := sum_nonneg l fun y hy => h y (by simp [hy])
    rw [List.sum_cons]
    omega
theorem cntTo_bd {n : Nat} {u : List Int} (h1 : 1 ≤ n) (h5 : n ≤ 5) (hu : u ∈ perms n) (i : Nat) : 0 ≤ cntTo u i ∧ cntTo u i ≤ 800 := by
  have hf := redFacts h1 h5 hu
  have hnn : ∀ x ∈ (begs u).map (fun p => rcnt p.2), 0 ≤ x := fun x hx => by
    obtain ⟨p, hp, rfl⟩ := List.mem_map.1 hx
    exact (redFacts h1 h5 (hf.next p hp).2.2.1).cnt.1
  have h0 : 0 ≤ cntTo u i := by
    unfold cntTo
    refine sum_nonneg _ fun x hx => ?_
    rw [List.map_take] at hx
    exact hnn x (List.mem_of_mem_take hx)
  refine ⟨h0, ?_⟩
  by_cases hz : (begs u).length = 0
  · rw [List.length_eq_zero_iff] at hz
    unfold cntTo
    rw [hz]
    simp
  · have e := cnt_eq h1 h5 hu
    rw [if_neg hz] at e
    have hc := hf.cnt.2
    have e2 : cntTo u (begs u).length = cntTo u i + (((begs u).drop i).map fun p => rcnt p.2).sum := by
      unfold cntTo
      rw [List.take_length, ← List.sum_append, ← List.map_append, List.take_append_drop]
    have h3 : 0 ≤ (((begs u).drop i).map fun p => rcnt p.2).sum := by
      refine sum_nonneg _ fun x hx => ?_
      rw [List.map_drop] at hx
      exact hnn x (List.mem_of_mem_drop hx)
    omega
theorem redTo_few {n : Nat} {u : List Int} (h1 : 1 ≤ n) (h5 : n ≤ 5) (hu : u ∈ perms n) (i : Nat) : (redTo u i).length ≤ 800 := by
  have hf := redFacts h1 h5 hu
  by_cases hz : (begs u).length = 0
  · rw [List.length_eq_zero_iff] at hz
    unfold redTo
    rw [hz]
    simp
  · have e := red_eq h1 h5 hu
    rw [if_neg hz] at e
    have hc := hf.few
    rw [e] at hc
    have e2 : redTo u (begs u).length = redTo u i ++ ((begs u).drop i).flatMap fun p => (rws p.2).map fun l => p.1 :: l := by
      unfold redTo
      rw [List.take_length, ← List.flatMap_append, List.take_append_drop]
    rw [e2, List.length_append] at hc
    omega
end Go.Proofs.Ytdpjcjnednmoeaa

namespace Go.Proofs.Ytdpjcjnednmoeaa
open Go.RowKit

/-- the slice at address a reads as pairs -/
def RC (w : World) (a : Option Addr) (xs : List (Int × Int)) : Prop :=
  xs = [] ∨ ∃ b off, a = some ⟨b, off, none⟩ ∧ ∀ k p, xs[k]? = some p → w.cell? ⟨b, off + k * 2, none⟩ = some (.int .i64 p.1) ∧ w.cell? ⟨b, off + k * 2 + 1, none⟩ = some (.int .i64 p.2)
theorem RC.at {w : World} {a : Option Addr} {xs : List (Int × Int)} (h : RC w a xs) {k : Nat} (hk : k < xs.length) :
    ∃ b off, a = some ⟨b, off, none⟩ ∧ ∀ k p, xs[k]? = some p → w.cell? ⟨b, off + k * 2, none⟩ = some (.int .i64 p.1) ∧ w.cell? ⟨b, off + k * 2 + 1, none⟩ = some (.int .i64 p.2) := by
  rcases h with rfl | h
  · simp at hk
  · exact h
theorem RC.below {w w' : World} {a : Option Addr} {xs : List (Int × Int)} (h : RC w a xs) (hb : Below w.heap.size w w') : RC w' a xs := by
  rcases h with h | ⟨b, off, ha, hc⟩
  · exact .inl h
  · exact .inr ⟨b, off, ha, fun k x hx => by
      obtain ⟨h1, h2⟩ := hc k x hx
      exact ⟨by rw [hb.cell (World.block_lt_of_cell? w _ h1)]; exact h1, by rw [hb.cell (World.block_lt_of_cell? w _ h2)]; exact h2⟩⟩

theorem eqp_of_all {xs ys : List (Int × Int)} (hl : xs.length = ys.length) (h : ∀ j, j < xs.length → xs[j]? = ys[j]?) : decide (xs = ys) = true := by
  rw [decide_eq_true_iff]
  apply List.ext_getElem?
  intro j
  rcases Nat.lt_or_ge j xs.length with h1 | h1
  · exact h j h1
  · rw [List.getElem?_eq_none h1, List.getElem?_eq_none (by omega)]
theorem nep_of_at {xs ys : List (Int × Int)} {k : Nat} {x y : Int × Int} (hx : xs[k]? = some x) (hy : ys[k]? = some y) (h : x ≠ y) : decide (xs = ys) = false := by
  rw [decide_eq_false_iff_not]
  rintro rfl
  rw [hx] at hy
  exact h (by simpa using hy)
theorem pair_at {xs : List (Int × Int)} {n k : Nat} (h : xs.length = n) (hk : k < n) : ∃ p q, xs[k]? = some (p, q) := ⟨(xs[k]'(by omega)).1, (xs[k]'(by omega)).2, List.getElem?_eq_getElem (by omega)⟩

end Go.Proofs.Ytdpjcjnednmoeaa
