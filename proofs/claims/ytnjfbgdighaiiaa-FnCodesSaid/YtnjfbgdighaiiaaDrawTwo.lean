/-
  Contracts of the swaps along a word drawn, of a reduced word drawn, of two permutations drawn.
-/
import Derived.Test.YtnjfbgdighaiiaaDrawPerm
import Derived.Test.YtnjfbgdighaiiaaLength
import Derived.Test.YtnjfbgdighaiiaaDescents
import Derived.Deep.LoopGhost
namespace Go.Proofs.Ytnjfbgdighaiiaa
open Go.RowKit

/-- swaps of neighbours keep to the permutations of n; at a descent they make shorter; where there is no descent, the length is 0 -/
def goodPerm (n : Nat) (u : List Int) : Bool :=
  decide (0 ≤ sumI (code u)) && decide (sumI (code u) ≤ 100 ∧ (descents u).length ≤ 5) && (decide (sumI (code u) = 0) || !(descents u).isEmpty)
  && ((List.range (n - 1)).all fun k => (perms n).contains (swp u k (k + 1)))
  && ((descents u).all fun k => decide (0 ≤ k) && decide (k + 1 < (n : Int)) && decide (sumI (code (swp u k.toNat (k.toNat + 1))) < sumI (code u)))
def goodPerms : Bool := [1, 2, 3, 4, 5].all fun n => (perms n).contains (ident n) && (perms n).all (goodPerm n)
set_option maxRecDepth 100000 in
theorem goodPerms_true : goodPerms = true := by kernel_rfl
theorem good_of {k : Nat} (h1 : 1 ≤ k) (h5 : k ≤ 5) : ident k ∈ perms k ∧ ∀ u ∈ perms k, goodPerm k u = true := by
  have h2 := goodPerms_true
  unfold goodPerms at h2
  rw [List.all_eq_true] at h2
  have h3 := h2 k (by simp; omega)
  rw [Bool.and_eq_true, List.all_eq_true] at h3
  exact ⟨by simpa using h3.1, h3.2⟩
theorem swp_in {n k : Nat} {u : List Int} (h1 : 1 ≤ n) (h5 : n ≤ 5) (hu : u ∈ perms n) (hk : k + 1 < n) : swp u k (k + 1) ∈ perms n := by
  have h := (good_of h1 h5).2 u hu
  unfold goodPerm at h
  simp only [Bool.and_eq_true] at h
  have h4 := h.1.2
  rw [List.all_eq_true] at h4
  have := h4 k (by rw [List.mem_range]; omega)
  simpa using this
theorem len_ok {n : Nat} {u : List Int} (h1 : 1 ≤ n) (h5 : n ≤ 5) (hu : u ∈ perms n) : 0 ≤ sumI (code u) ∧ sumI (code u) ≤ 100 ∧ (descents u).length ≤ 5 ∧ (sumI (code u) ≠ 0 → descents u ≠ []) := by
  have h := (good_of h1 h5).2 u hu
  unfold goodPerm at h
  simp only [Bool.and_eq_true, decide_eq_true_eq, Bool.or_eq_true, Bool.not_eq_true'] at h
  refine ⟨h.1.1.1.1, h.1.1.1.2.1, h.1.1.1.2.2, fun h0 => ?_⟩
  rcases h.1.1.2 with h2 | h2
  · exact absurd h2 h0
  · intro e; rw [e] at h2; simp at h2
theorem down_ok {n : Nat} {u : List Int} {k : Int} (h1 : 1 ≤ n) (h5 : n ≤ 5) (hu : u ∈ perms n) (hk : k ∈ descents u) : 0 ≤ k ∧ k + 1 < (n : Int) ∧ sumI (code (swp u k.toNat (k.toNat + 1))) < sumI (code u) := by
  have h := (good_of h1 h5).2 u hu
  unfold goodPerm at h
  simp only [Bool.and_eq_true] at h
  have h4 := h.2
  rw [List.all_eq_true] at h4
  have := h4 k hk
  simp only [Bool.and_eq_true, decide_eq_true_eq] at this
  exact ⟨this.1.1, this.1.2, this.2⟩

def PlayPost (p : Nat) (w : World) (e : Ending) (w' : World) : Prop :=
  ∃ u a' c', e = .returned (.slice a' p c') ∧ u ∈ perms p ∧ OwI w' w.heap.size w'.heap.size a' p c' u ∧ Below w.heap.size w w'
set_option maxRecDepth 100000 in
set_option maxHeartbeats 3200000 in
theorem l1Play_some (p : Nat) (h1 : 1 ≤ p) (h5 : p ≤ 5) (a : Option Addr) (n c : Nat) (xs : List Int) (all : Bool) (w : World) (hr : RI w a xs) (hn : xs.length = n) (hb : n ≤ 1000) (hw : ∀ x ∈ xs, 0 ≤ x ∧ x + 1 < (p : Int)) :
    Calls Try.prog 83 #[.int .i64 p, .slice a n c, .bool all] w (PlayPost p w) := by
  have Hbd := Lib.hid hw; clear hw
  have Hn := Lib.hid hn; clear hn
  go_enter Try.func83, Try.ntmps83
  go_wp2_with fail
  refine (specIdent_any p _ _ rfl (by omega)).mono ?_
  rintro e w1 ⟨a1, c1, rfl, ho1, hB1⟩
  go_wp2
  go_loopw [7, 8] (fun v i wr => Hid (∃ k : Nat, k ≤ n ∧ i = .int .i64 k ∧ ∃ u a' c', v = .slice a' p c' ∧ u ∈ perms p ∧ OwI wr w.heap.size wr.heap.size a' p c' u) ∧ Below w.heap.size w wr) (fun _ i _ => n - (intOf i).toNat)
  case atStart => exact ⟨⟨0, Nat.zero_le _, rfl, _, _, _, rfl, (good_of h1 h5).1, ho1⟩, hB1⟩
  case round =>
    clear ho1 hB1
    obtain ⟨HV, hB⟩ := hrel
    obtain ⟨wo, rfl⟩ : ∃ wo : World, wo = wr := ⟨_, rfl⟩
    obtain ⟨k, hk, rfl, u, a', c', rfl, hu, ho⟩ := HV.out
    clear HV
    have hbs := hB.size
    by_cases hlt : k < n
    · obtain ⟨b, off, rfl, hcell⟩ := (hr.below hB).at (k := k) (by rw [Hn.out]; exact hlt)
      obtain ⟨x0, hx⟩ := some_at Hn.out hlt
      have hc := hcell k x0 hx
      have hxb := Hbd.out x0 (List.mem_of_getElem? hx)
      obtain ⟨x, rfl⟩ : ∃ x : Nat, x0 = (x : Int) := ⟨x0.toNat, by omega⟩
      have hup := (perms_ok hu h1 h5).1
      have Hu2 := Lib.hid (swp_in h1 h5 hu (k := x) (by omega))
      have Hu := Lib.hid hu
      obtain ⟨b2, off2, rfl, hcell2⟩ := ho.rd.at (k := x) (by omega)
      obtain ⟨y, hy⟩ := some_at (k := x) hup (by omega)
      obtain ⟨z, hz⟩ := some_at (k := x + 1) hup (by omega)
      have hc2 := hcell2 x y hy
      have hc3 := hcell2 (x + 1) z hz
      have Hup := Lib.hid hup
      clear hx hcell hcell2 hy hz hu hup
      have q1 : (x : Int) < (p : Int) := by omega
      have q2 : (0 : Int) ≤ (x : Int) + 1 := by omega
      have q3 : (x : Int) + 1 < (p : Int) := by omega
      have HO := Lib.hid ho; clear ho
      have hxs : x ≤ 5 := by omega
      have q4 : IntKind.i64.wrap ((x : Int) + 1) = (x : Int) + 1 := IntWalk.i64_in _ (by omega)
      have q5 : ((x : Int) + 1).toNat = x + 1 := by omega
      have swap : ∀ (W : World), Below wo.heap.size wo W → ∀ J : Int, J = ((x + 1 : Nat) : Int) → Calls Try.prog 109 #[.slice (some ⟨b2, off2, none⟩) p c', .int .i64 x, .int .i64 J] W fun e w' => ∃ a2 c2, e = .returned (.slice a2 p c2) ∧ OwI w' w.heap.size w'.heap.size a2 p c2 (swp u x (x + 1)) ∧ Below w.heap.size w w' := by
        clear q4 q5
        intro W hW J hJ
        have hod := HO.out.below hW
        have hs := hW.size
        refine (l1Swap_any _ _ _ u x (x + 1) _ _ _ hod.rd Hup.out (by omega) rfl hJ (by omega) (by omega)).mono ?_
        rintro e w2 ⟨a2, c2, rfl, ho2, hb2⟩
        exact ⟨_, _, rfl, ho2.mono (by omega) (Nat.le_refl _), hB.trans ((hW.trans (hb2.mono hs)).mono hbs)⟩
      cases all
      · by_cases hyz : y < z
        · go_wp2
          go_quiet (fail)
          clear q4 q5
          have hBd := Drew.below ⟨nq, rfl⟩ wo.heap.size (w := wo) (w' := wo.drewN nq)
          go_wp2_with fail
          refine (swap _ hBd _ (by omega)).mono ?_
          rintro e w2 ⟨a2, c2, rfl, ho2, hB2⟩
          go_wp2
          go_roundw
          case rel => exact ⟨⟨k + 1, by omega, by go_num, _, _, _, rfl, Hu2.out, ho2⟩, hB2⟩
          case measure => simp [intOf]; omega
        · go_wp2
          go_quiet (fail)
          clear q4 q5
          go_wp2
          go_roundw
          case rel => exact ⟨⟨k + 1, by omega, by go_num, _, _, _, rfl, Hu.out, HO.out.below (Drew.below ⟨nq, rfl⟩ _)⟩, hB.trans (Drew.below ⟨nq, rfl⟩ _)⟩
          case measure => simp [intOf]; omega
      · go_wp2
        go_quiet (fail)
        clear q4 q5
        have hBd := Drew.below ⟨nq, rfl⟩ wo.heap.size (w := wo) (w' := wo.drewN nq)
        go_wp2_with fail
        refine (swap _ hBd _ (by omega)).mono ?_
        rintro e w2 ⟨a2, c2, rfl, ho2, hB2⟩
        go_wp2
        go_roundw
        case rel => exact ⟨⟨k + 1, by omega, by go_num, _, _, _, rfl, Hu2.out, ho2⟩, hB2⟩
        case measure => simp [intOf]; omega
    · obtain rfl : k = n := by omega
      have HO := Lib.hid ho; clear ho
      have HU := Lib.hid hu; clear hu
      go_wp2
      go_ret
      exact ⟨_, _, _, rfl, HU.out, HO.out, hB⟩

theorem OwI.one (w : World) (x : Int) : OwI (w.alloc (.cells #[.int .i64 x] 3)) w.heap.size (w.alloc (.cells #[.int .i64 x] 3)).heap.size (some ⟨w.heap.size, 0, none⟩) 1 1 [x] :=
  OwI.mk ⟨by simp [ints], .inr ⟨w.heap.size, 1, #[.int .i64 x], rfl, Nat.le_refl _, heap_alloc_new w _, Nat.le_refl _, by unfold maxLen; omega, by simp, by simp [ints]⟩⟩
def ReducedPost (n : Nat) (g : Nat) (a : Option Addr) (m c : Nat) (xs : List Int) (w : World) (e : Ending) (w' : World) : Prop :=
  ∃ ys a' l c', e = .returned (.slice a' l c') ∧ l ≤ 100 ∧ (∀ x ∈ ys, 0 ≤ x ∧ x + 1 < (n : Int)) ∧ OwI w' w.heap.size w'.heap.size a' l c' ys ∧ Cur w' g a m c xs ∧ Only g (g + 1) w w'
set_option maxRecDepth 100000 in
set_option maxHeartbeats 3200000 in
theorem dReduced_any (n : Nat) (h1 : 1 ≤ n) (h5 : n ≤ 5) (g : Nat) (a : Option Addr) (m c : Nat) (xs : List Int) (ai : Option Addr) (ci : Nat) (ui : List Int) (w : World) (hc : Cur w g a m c xs) (hr : RI w ai ui) (hui : ui ∈ perms n) :
    Calls Try.prog 82 #[.pointer (some ⟨g, 0, none⟩), .slice ai n ci] w (ReducedPost n g a m c xs w) := by
  have hgw := hc.lt
  have hul := (perms_ok hui h1 h5).1
  have hI0 : OwI (w.alloc (.cells #[] 3)) w.heap.size (w.alloc (.cells #[] 3)).heap.size (some ⟨w.heap.size, 0, none⟩) 0 0 [] := OwI.mk (World.ownsRow_made _ #[] 0 (Nat.le_refl _) (Nat.zero_le _) rfl)
  have hB0 : Below w.heap.size w (w.alloc (.cells #[] 3)) := (Below.refl _ _).alloc (Nat.le_refl _) _
  have hr0 := hr.below hB0
  have Hul := Lib.hid hul
  have Hui := Lib.hid hui
  have HI0 := Lib.hid hI0
  clear hul hui hI0
  go_enter Try.func82, Try.ntmps82
  go_wp2_with fail
  refine (l1Ints_any _ _ _ ui _ hr0 Hul.out (by omega)).mono ?_
  rintro e w1 ⟨a1, c1, rfl, ho1, hB1⟩
  have hs0 := hB0.size
  have hB2 := hB0.trans (hB1.mono hs0)
  have hO0 := (Only.refl g (g + 1) w).laid hB2
  have hC0 := hc.below hB2
  have ho1' := ho1.mono (B' := w.heap.size) hs0 (Nat.le_refl _)
  have hI1 := (HI0.out.below hB1).mono (B' := w.heap.size) (S' := w1.heap.size) (Nat.le_refl _) hB1.size
  have hlen := len_ok h1 h5 Hui.out
  go_wp2
  go_loopg [5, 6] 100 (fun gf o v wr => Hid (∃ u av cv ys ao mo co, v = .slice av n cv ∧ o = .slice ao mo co ∧ u ∈ perms n ∧ sumI (code u) ≤ (gf : Nat) ∧ mo + gf ≤ 100 ∧ (∀ x ∈ ys, 0 ≤ x ∧ x + 1 < (n : Int)) ∧ OwI wr w.heap.size wr.heap.size av n cv u ∧ OwI wr w.heap.size wr.heap.size ao mo co ys) ∧ Cur wr g a m c xs ∧ Only g (g + 1) w wr)
  case atStart => exact ⟨⟨ui, _, _, [], _, _, _, rfl, rfl, Hui.out, by omega, by omega, by simp, ho1', hI1⟩, hC0, hO0⟩
  case round =>
    clear hB0 hB1 hB2 hO0 hC0 ho1 ho1' hI1 hlen hs0 HI0 hr0
    obtain ⟨HV, hC, hO⟩ := hrel
    obtain ⟨wo, rfl⟩ : ∃ wo : World, wo = wr := ⟨_, rfl⟩
    obtain ⟨u, av, cv, ys, ao, mo, co, rfl, rfl, hu, hsum, hmo, hys, hov, hoo⟩ := HV.out
    clear HV
    have hsz := hO.size
    have hul := (perms_ok hu h1 h5).1
    obtain ⟨hs0, hs1, hd5, hdne⟩ := len_ok h1 h5 hu
    obtain ⟨s, hs⟩ : ∃ s : Nat, sumI (code u) = s := ⟨(sumI (code u)).toNat, by omega⟩
    rw [hs] at hsum hs0 hs1 hdne
    have Hs := Lib.hid hs
    have Hu := Lib.hid hu
    have Hul2 := Lib.hid hul
    have HY := Lib.hid hys
    clear hs hu hul hys
    by_cases hz : s = 0
    · have q1 : ¬ ((0 : Int) < (s : Int)) := by omega
      clear hdne hz
      go_wp2_with fail
      refine (isInt (l1Length_any _ _ _ u _ hov.rd Hul2.out (by omega)) Hs.out).mono ?_
      rintro e w2 ⟨rfl, hB2⟩
      have hoo2 := (hoo.below hB2).mono (B' := w.heap.size) (S' := w2.heap.size) (Nat.le_refl _) hB2.size
      have hC2 := hC.below hB2
      have hO2 := hO.laid hB2
      go_wp2
      go_ret
      exact ⟨_, _, _, _, rfl, by omega, HY.out, hoo2, hC2, hO2⟩
    · have q1 : (0 : Int) < (s : Int) := by omega
      have hne := hdne (by omega)
      obtain ⟨g', rfl⟩ : ∃ g', gk = g' + 1 := ⟨gk - 1, by omega⟩
      obtain ⟨ds, hds⟩ : ∃ ds, descents u = ds := ⟨_, rfl⟩
      rw [hds] at hne hd5
      obtain ⟨d, hd⟩ : ∃ d, ds.length = d := ⟨_, rfl⟩
      have hd0 : 1 ≤ d := by rw [← hd]; exact List.length_pos_iff.2 hne
      rw [hd] at hd5
      have Hd := Lib.hid hd
      have Hds := Lib.hid hds
      clear hdne hz hne hd hds
      go_wp2_with fail
      refine (isInt (l1Length_any _ _ _ u _ hov.rd Hul2.out (by omega)) Hs.out).mono ?_
      rintro e w2 ⟨rfl, hB2⟩
      have hov2 := hov.below hB2
      have hoo2 := hoo.below hB2
      have hC2 := hC.below hB2
      have hO2 := hO.laid hB2
      have hz2 := hB2.size
      clear hov hoo hC hO
      go_wp2_with fail
      refine (specDescents_any _ _ _ u _ hov2.rd Hul2.out (by omega) hov2.1.lt).mono ?_
      rintro e w3 ⟨a3, n3, c3, rfl, ho3, hB3⟩
      rw [Hds.out] at ho3
      obtain rfl : n3 = d := by rw [← ho3.len]; exact Hd.out
      have hov3 := hov2.below hB3
      have hoo3 := hoo2.below hB3
      have hC3 := hC2.below hB3
      have hO3 := hO2.laid hB3
      have hz3 := hB3.size
      clear hov2 hoo2 hC2 hO2
      have q2 : (1 : Int) ≤ (n3 : Int) := by omega
      go_wp2_with fail
      refine (l1Below_any _ q2 (by omega) g a m c xs _ hC3).mono ?_
      rintro e w4 ⟨r, rfl, hrd, hC4, hO4⟩
      have hov4 := hov3.only hO4 (.inr (by omega))
      have hoo4 := hoo3.only hO4 (.inr (by omega))
      have ho4 := ho3.only hO4 (.inr (by omega))
      have hO5 := hO3.trans hO4
      have hz4 := hO4.size
      clear hov3 hoo3 hC3 hO3 ho3
      obtain ⟨b, off, rfl, hcell⟩ := ho4.rd.at (k := r) (by rw [Hd.out]; omega)
      obtain ⟨kk, hkk⟩ := some_at (k := r) Hd.out (by omega)
      have hck := hcell r kk hkk
      have hmem : kk ∈ descents u := by rw [Hds.out]; exact List.mem_of_getElem? hkk
      obtain ⟨hk0, hk1, hk2⟩ := down_ok h1 h5 Hu.out hmem
      obtain ⟨k, rfl⟩ : ∃ k : Nat, kk = k := ⟨kk.toNat, by omega⟩
      rw [Int.toNat_natCast, Hs.out] at hk2
      have Hk2 := Lib.hid hk2
      have Hin := Lib.hid (swp_in h1 h5 Hu.out (k := k) (by omega))
      clear hcell hkk hmem hk2
      have hov5 := Lib.hid hov4
      go_wp2_with fail
      refine (l1Swap_any _ _ _ u k (k + 1) _ _ _ hov4.rd Hul2.out (by omega) rfl (by omega) (by omega) (by omega)).mono ?_
      rintro e w5 ⟨a5, c5, rfl, ho5, hB5⟩
      have hoo5 := hoo4.below hB5
      have hC5 := hC4.below hB5
      have hO6 := hO5.laid hB5
      have hz5 := hB5.size
      clear hov4 hoo4 hC4 hO4 hO5 ho4
      have hA : Below w5.heap.size w5 (w5.alloc (.cells #[.int .i64 (k : Int)] 3)) := (Below.refl _ _).alloc (Nat.le_refl _) _
      have hI5 : OwI (w5.alloc (.cells #[.int .i64 (k : Int)] 3)) w5.heap.size (w5.alloc (.cells #[.int .i64 (k : Int)] 3)).heap.size (some ⟨w5.heap.size, 0, none⟩) 1 1 [(k : Int)] := OwI.one w5 (k : Int)
      have hoo6 := hoo5.below hA
      have HI5 := Lib.hid hI5; clear hI5
      go_wp2_with (first | (at_builtin; go_loud (refine wpList_appI (by rfl) _ _ (by rfl) HI5.out (by rfl) hoo6.rd hoo6.len (by rfl) (by omega) (by simp) ?_)))
      intro a7 c7 w7 ho7 hg7
      have hB7 : Below w5.heap.size w5 w7 := hg7.below hA (by simp) (fun k hk => by simp [Value.ownBlock] at hk; omega)
      have hC7 := hC5.below hB7
      have hO7 := hO6.laid hB7
      have hz7 := hB7.size
      have hov7 := (ho5.below hB7).mono (B' := w.heap.size) (S' := w7.heap.size) (by omega) (by omega)
      have ho8 := ho7.mono (B' := w.heap.size) (S' := w7.heap.size) (by omega) (Nat.le_refl _)
      have hys2 : ∀ x ∈ [(k : Int)] ++ ys, 0 ≤ x ∧ x + 1 < (n : Int) := by
        intro x hx
        rcases List.mem_append.1 hx with h | h
        · obtain rfl : x = (k : Int) := by simpa using h
          exact ⟨hk0, hk1⟩
        · exact HY.out x h
      have HY2 := Lib.hid hys2
      clear hys2 ho5 ho7 hoo5 hoo6 hA
      go_wp2
      go_roundg g'
      case rel => exact ⟨⟨_, _, _, _, _, _, _, rfl, rfl, Hin.out, by have := Hk2.out; omega, by omega, HY2.out, hov7, ho8⟩, hC7, hO7⟩
      case measure => omega
end Go.Proofs.Ytnjfbgdighaiiaa
