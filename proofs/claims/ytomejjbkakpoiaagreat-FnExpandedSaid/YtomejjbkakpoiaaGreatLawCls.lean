/-
  Contract of the laws' own comparison of classes.
-/
import Derived.Test.YtomejjbkakpoiaaGreatBuE32
namespace Go.Proofs.YtomejjbkakpoiaaGreat
open Go.RowKit

set_option maxRecDepth 100000 in
set_option maxHeartbeats 3200000 in
theorem lawClasses_any (a b : Option Addr) (n c m d : Nat) (xs ys : List (List Int × Int)) (w : World) (hr : RP w a xs) (hs : RP w b ys) (hn : xs.length = n) (hm : ys.length = m) (hb : n ≤ 1048576) (hsh : ∀ p ∈ xs, p.1.length ≤ 1048576) :
    Calls Tryz.prog 19 #[.slice a n c, .slice b m d] w fun e w' => e = .returned (.bool (decide (xs = ys))) ∧ Drew w w' := by
  have Hn := Lib.hid hn; clear hn
  have Hm := Lib.hid hm; clear hm
  have Hsh := Lib.hid hsh; clear hsh
  by_cases hnm : n = m
  · subst hnm
    go_enter Tryz.func19, Tryz.ntmps19
    go_wp2
    go_loopw [5] (fun i wr => ∃ k : Nat, k ≤ n ∧ i = .int .i64 k ∧ Hid (∀ j, j < k → xs[j]? = ys[j]?) ∧ Drew w wr) (fun i _ => n - (intOf i).toNat)
    case atStart => exact ⟨0, Nat.zero_le _, rfl, by intro j hj; omega, Drew.refl _⟩
    case round =>
      obtain ⟨k, hk, rfl, HA, hd⟩ := hrel
      obtain ⟨wo, rfl⟩ : ∃ wo : World, wo = wr := ⟨_, rfl⟩
      by_cases hlt : k < n
      · obtain ⟨b1, off1, rfl, hcell⟩ := (hr.below (hd.below _)).at (k := k) (by rw [Hn.out]; exact hlt)
        obtain ⟨b2, off2, rfl, hcell2⟩ := (hs.below (hd.below _)).at (k := k) (by rw [Hm.out]; exact hlt)
        obtain ⟨s, x, hx⟩ := part_at Hn.out hlt
        obtain ⟨t, y, hy⟩ := part_at Hm.out hlt
        obtain ⟨a1, c1, p1, p2, hri, _⟩ := hcell k _ hx
        obtain ⟨a2, c2, p3, p4, hri2, _⟩ := hcell2 k _ hy
        simp only at p1 p2 hri p3 p4 hri2
        have hsl := Hsh.out _ (List.mem_of_getElem? hx)
        simp only at hsl
        have Hx := Lib.hid hx; clear hx
        have Hy := Lib.hid hy; clear hy
        obtain ⟨l, hl⟩ : ∃ l, s.length = l := ⟨_, rfl⟩
        obtain ⟨l2, hl2⟩ : ∃ l, t.length = l := ⟨_, rfl⟩
        rw [hl] at p1 hsl
        rw [hl2] at p3
        have Hl := Lib.hid hl; clear hl
        have Hl2 := Lib.hid hl2; clear hl2
        clear hcell hcell2
        have hltI : (k : Int) < (n : Int) := by omega
        by_cases h1 : x = y
        · subst h1
          have hne : (x != x) = false := by simp
          by_cases h2 : s = t
          · subst h2
            go_wp2
            go_quiet ((go_at_call 9; exact quiet (is (ints_any _ _ _ _ _ _ s s _ (hri.drew (Drew.drewN _ _)) (hri2.drew (Drew.drewN _ _)) Hl.out Hl2.out (by omega)) (by simp : _ = true))))
            go_wp2
            go_roundw
            case rel => exact ⟨k + 1, by omega, by go_num, by
                  intro j hj
                  rcases Nat.lt_or_ge j k with h | h
                  · exact HA.out j h
                  · obtain rfl : j = k := by omega
                    rw [Hx.out, Hy.out], hd.trans (Drew.drewN _ _)⟩
            case measure => simp [intOf]; omega
          · have H2 := Lib.hid h2; clear h2
            go_wp2
            go_quiet ((go_at_call 9; exact quiet (is (ints_any _ _ _ _ _ _ s t _ (hri.drew (Drew.drewN _ _)) (hri2.drew (Drew.drewN _ _)) Hl.out Hl2.out (by omega)) (by simp [H2.out] : _ = false))))
            go_wp2
            go_ret
            exact ⟨ret_bool (net_of_at Hx.out Hy.out (fun e => H2.out (by cases e; rfl))).symm, hd.trans (Drew.drewN _ _)⟩
        · have hne : (x != y) = true := by simpa using h1
          have H1 := Lib.hid h1; clear h1
          go_wp2
          go_quiet (fail)
          go_wp2
          go_ret
          exact ⟨ret_bool (net_of_at Hx.out Hy.out (fun e => H1.out (by cases e; rfl))).symm, hd.trans (Drew.drewN _ _)⟩
      · go_wp2
        go_ret
        exact ⟨ret_bool (eqt_of_all (Hn.out.trans Hm.out.symm) (by intro j hj; exact HA.out j (by rw [Hn.out] at hj; omega))).symm, hd⟩
  · go_enter Tryz.func19, Tryz.ntmps19
    have hne : ((n : Int) != (m : Int)) = true := by rw [bne_iff_ne]; omega
    go_wp2
    go_ret
    exact ⟨ret_bool (by symm; rw [decide_eq_false_iff_not]; rintro rfl; exact hnm (Hn.out.symm.trans Hm.out)), Drew.refl _⟩
end Go.Proofs.YtomejjbkakpoiaaGreat
