/-
  Contract of DrawTwoPerms: two permutations of one size of at most 5.
-/
import Derived.Test.YtnjfbgdighaiiaaDrawTwo
import Derived.OwnWalk
namespace Go.Proofs.Ytnjfbgdighaiiaa
open Go.RowKit

theorem dPerm_at (K : Int) (k : Nat) (hK : K = (k : Int)) (h1 : 1 ≤ k) (h5 : k ≤ 5) (g : Nat) (a : Option Addr) (m c : Nat) (xs : List Int) (w : World) (hc : Cur w g a m c xs) :
    Calls Try.prog 80 #[.pointer (some ⟨g, 0, none⟩), .int .i64 K] w (PermPost k g a m c xs w) := by subst hK; exact dPerm_any k h1 h5 g a m c xs w hc
theorem l1Play_at (K : Int) (p : Nat) (hK : K = (p : Int)) (h1 : 1 ≤ p) (h5 : p ≤ 5) (a : Option Addr) (n c : Nat) (xs : List Int) (all : Bool) (w : World) (hr : RI w a xs) (hn : xs.length = n) (hb : n ≤ 1000) (hw : ∀ x ∈ xs, 0 ≤ x ∧ x + 1 < (p : Int)) :
    Calls Try.prog 83 #[.int .i64 K, .slice a n c, .bool all] w (PlayPost p w) := by subst hK; exact l1Play_some p h1 h5 a n c xs all w hr hn hb hw

def TwoPost (w : World) (e : Ending) (w' : World) : Prop :=
  ∃ n u v a1 c1 a2 c2, e = .returned (.tuple #[.slice a1 n c1, .slice a2 n c2]) ∧ (1 ≤ n ∧ n ≤ 5) ∧ u ∈ perms n ∧ v ∈ perms n ∧ OwI w' w.heap.size w'.heap.size a1 n c1 u ∧ OwI w' w.heap.size w'.heap.size a2 n c2 v ∧ Below w.heap.size w w'
set_option maxRecDepth 100000 in
set_option maxHeartbeats 3200000 in
theorem drawTwo_any (a : Option Addr) (m c : Nat) (xs : List Int) (w : World) (hr : RB w a xs) (hm : xs.length = m) (hb : m ≤ 1048576) (hx : Bytes xs) :
    Calls Try.prog 28 #[.slice a m c] w (TwoPost w) := by
  go_enter Try.func28, Try.ntmps28
  go_wp2_with fail
  refine (l1New_any _ _ _ xs _ hr hm hb hx).mono ?_
  rintro e w1 ⟨rfl, hC1, hB1, hz1⟩
  clear hr
  go_wp2_with fail
  refine (l1Below_any 5 (by omega) (by omega) _ _ _ _ _ _ hC1).mono ?_
  rintro e w2 ⟨r, rfl, hr5, hC2, hO2⟩
  have hz2 := hO2.size
  have h1 : 1 ≤ 1 + r := by omega
  have h5 : 1 + r ≤ 5 := by omega
  clear hC1
  go_wp2_with fail
  refine (dPerm_at _ (1 + r) (by omega) h1 h5 _ _ _ _ _ _ hC2).mono ?_
  rintro e w3 ⟨u, a3, c3, rfl, hu, ho3, hC3, hO3⟩
  have HU := Lib.hid hu; clear hu
  have hO3' := hO2.trans hO3
  have hz3 := hO3.size
  clear hC2
  go_wp2_with fail
  refine (l1Once_any 3 (by omega) (by omega) _ _ _ _ _ _ hC3).mono ?_
  rintro e w4 ⟨bb, rfl, hC4, hO4⟩
  have hO4' := hO3'.trans hO4
  have ho4 := ho3.only hO4 (.inr (by omega))
  have hz4 := hO4.size
  clear hC3 ho3
  cases bb
  · go_wp2_with fail
    refine (dPerm_at _ (1 + r) (by omega) h1 h5 _ _ _ _ _ _ hC4).mono ?_
    rintro e w5 ⟨v, a5, c5, rfl, hv, ho5, hC5, hO5⟩
    have HV := Lib.hid hv; clear hv
    have ho6 := (ho4.only hO5 (.inr (by omega))).mono (B' := w.heap.size) (S' := w5.heap.size) (by omega) (by have := hO5.size; omega)
    have ho7 := ho5.mono (B' := w.heap.size) (S' := w5.heap.size) (by omega) (Nat.le_refl _)
    have hBf := (hO4'.trans hO5).below hB1 (Nat.le_refl _) (by omega)
    go_wp2
    go_ret2
    exact ⟨_, _, _, _, _, _, _, rfl, ⟨h1, h5⟩, HU.out, HV.out, ho6, ho7, hBf⟩
  · go_wp2_with fail
    refine (dReduced_any _ h1 h5 _ _ _ _ _ _ _ u _ hC4 ho4.rd HU.out).mono ?_
    rintro e w5 ⟨ys, a5, l5, c5, rfl, hl5, hys, ho5, hC5, hO5⟩
    have ho6 := ho4.only hO5 (.inr (by omega))
    have hO6 := hO4'.trans hO5
    have hz5 := hO5.size
    have HY := Lib.hid hys
    clear hC4 ho4 hys hO4' hO3' hO3 hO2
    have hA : Below w5.heap.size w5 (w5.alloc (.cells #[] 3)) := (Below.refl _ _).alloc (Nat.le_refl _) _
    have hI0 : OwI (w5.alloc (.cells #[] 3)) w5.heap.size (w5.alloc (.cells #[] 3)).heap.size (some ⟨w5.heap.size, 0, none⟩) 0 0 [] := OwI.mk (World.ownsRow_made _ #[] 0 (Nat.le_refl _) (Nat.zero_le _) rfl)
    have hU0 := (ho6.below hA).mono (B' := w.heap.size + 1) (S' := w5.heap.size) (by omega) (by omega)
    have hY0 := (ho5.below hA).mono (B' := w.heap.size + 1) (S' := w5.heap.size) (by omega) (by omega)
    have hAz := hA.size
    have hC0 := hC5.below hA
    have hO0 := hO6.laid hA
    have HI := Lib.hid hI0
    have HU0 := Lib.hid hU0
    have HY0 := Lib.hid hY0
    clear hI0 hU0 hY0 ho5 ho6 hA hC5 hO6
    go_wp2
    go_loopw [8, 9] (fun p i wr => Hid (∃ k : Nat, k ≤ l5 ∧ i = .int .i64 k ∧ ∃ zs ap mp cp, p = .slice ap mp cp ∧ mp ≤ k ∧ (∀ x ∈ zs, 0 ≤ x ∧ x + 1 < ((1 + r : Nat) : Int)) ∧ OwI wr w5.heap.size wr.heap.size ap mp cp zs ∧ OwI wr (w.heap.size + 1) w5.heap.size a3 (1 + r) c3 u ∧ OwI wr (w.heap.size + 1) w5.heap.size a5 l5 c5 ys) ∧ w5.heap.size ≤ wr.heap.size ∧ Cur wr w.heap.size a m c xs ∧ Only w.heap.size (w.heap.size + 1) w1 wr) (fun _ i _ => l5 - (intOf i).toNat)
    case atStart => exact ⟨⟨0, Nat.zero_le _, rfl, [], _, _, _, rfl, Nat.le_refl _, by simp, HI.out, HU0.out, HY0.out⟩, hAz, hC0, hO0⟩
    case round =>
      clear HI HU0 HY0 hC0 hO0 hAz
      obtain ⟨HV, hz, hC, hO⟩ := hrel
      obtain ⟨wo, rfl⟩ : ∃ wo : World, wo = wr := ⟨_, rfl⟩
      obtain ⟨k, hk, rfl, zs, ap, mp, cp, rfl, hmp, hzs, hop, hou, hoy⟩ := HV.out
      clear HV
      have hsz := hO.size
      have HZ := Lib.hid hzs; clear hzs
      by_cases hlt : k < l5
      · have hlt2 : (k : Int) < (l5 : Int) := by omega
        go_wp2_with fail
        refine (l1Once_any 3 (by omega) (by omega) _ _ _ _ _ _ hC).mono ?_
        rintro e w6 ⟨b6, rfl, hC6, hO7⟩
        have hop6 := hop.only hO7 (.inr (by omega))
        have hou6 := hou.only hO7 (.inr (by omega))
        have hoy6 := hoy.only hO7 (.inr (by omega))
        have hO8 := hO.trans hO7
        have hz6 := hO7.size
        clear hop hou hoy hC hO
        cases b6
        · obtain ⟨b, off, rfl, hcell⟩ := hoy6.rd.at (k := k) (by rw [hoy6.len]; exact hlt)
          obtain ⟨y, hy⟩ := some_at (k := k) hoy6.len hlt
          have hcy := hcell k y hy
          have hyb := HY.out y (List.mem_of_getElem? hy)
          clear hcell hy
          have hop7 := hop6
          go_wp2_with (first | (at_builtin; go_loud (refine wpList_pushI (by rfl) (by rfl) _ _ (by rfl) hop7 (by rfl) (by rfl) (by omega) (by omega) ?_)))
          intro a8 c8 w8 ho8 hg8
          have hO9 := hg8.only (B := w5.heap.size) (S := wo.heap.size) (fun k hk => hop7.1.lo k hk) (fun k hk => hop7.2 k hk)
          have hO10 := hO8.new hO9 (by omega)
          have hC8 := hC6.only hO9 (by omega)
          have hou8 := hou6.only hO9 (.inl (Nat.le_refl _))
          have hoy8 := hoy6.only hO9 (.inl (Nat.le_refl _))
          have hz8 := hO9.size
          have hzs2 : ∀ x ∈ zs ++ [y], 0 ≤ x ∧ x + 1 < ((1 + r : Nat) : Int) := by
            intro x hx
            rcases List.mem_append.1 hx with h | h
            · exact HZ.out x h
            · obtain rfl : x = y := by simpa using h
              exact hyb
          have HZ2 := Lib.hid hzs2; clear hzs2
          clear hop7 hop6 hou6 hoy6
          go_wp2
          go_roundw
          case rel => exact ⟨⟨k + 1, by omega, by go_num, _, _, _, _, rfl, by omega, HZ2.out, ho8, hou8, hoy8⟩, by omega, hC8, hO10⟩
          case measure => simp [intOf]; omega
        · go_wp2
          go_roundw
          case rel => exact ⟨⟨k + 1, by omega, by go_num, zs, _, _, _, rfl, by omega, HZ.out, hop6.mono (Nat.le_refl _) hz6, hou6, hoy6⟩, by omega, hC6, hO8⟩
          case measure => simp [intOf]; omega
      · obtain rfl : k = l5 := by omega
        go_wp2_with fail
        refine (l1Once_any 2 (by omega) (by omega) _ _ _ _ _ _ hC).mono ?_
        rintro e w6 ⟨b6, rfl, hC6, hO7⟩
        have hop6 := hop.only hO7 (.inr (by omega))
        have hou6 := hou.only hO7 (.inr (by omega))
        have hO8 := hO.trans hO7
        have hz6 := hO7.size
        clear hop hou hoy hC hO
        go_wp2_with fail
        refine (l1Play_at _ (1 + r) (by omega) h1 h5 _ _ _ zs b6 _ hop6.rd hop6.len (by omega) HZ.out).mono ?_
        rintro e w7 ⟨v, a7, c7, rfl, hv, ho7, hB7⟩
        have HV := Lib.hid hv; clear hv
        have ho8 := ho7.mono (B' := w.heap.size) (S' := w7.heap.size) (by omega) (Nat.le_refl _)
        have ho9 := (hou6.below hB7).mono (B' := w.heap.size) (S' := w7.heap.size) (by omega) (by have := hB7.size; omega)
        have hBf := (hO8.laid hB7).below hB1 (Nat.le_refl _) (by omega)
        go_wp2
        go_ret2
        exact ⟨_, _, _, _, _, _, _, rfl, ⟨h1, h5⟩, HV.out, HU.out, ho8, ho9, hBf⟩
end Go.Proofs.Ytnjfbgdighaiiaa
