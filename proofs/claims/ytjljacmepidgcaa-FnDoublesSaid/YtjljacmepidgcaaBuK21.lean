/-
  Contract of times: the product of two polynomials of the program.
  Contract of MulPolys, the program's.
  Contract of the laws' own comparison of lists.
  Contract of the laws' own comparison of polynomials.
-/
import Derived.Test.YtjljacmepidgcaaBuK7
import Derived.Test.YtjljacmepidgcaaBuK10
import Derived.Test.YtjljacmepidgcaaBuK12
import Derived.Test.YtjljacmepidgcaaOperated
import Derived.Test.YtjljacmepidgcaaBuK1
import Derived.Test.YtjljacmepidgcaaBuK5
import Derived.StillTailTactics
namespace Go.Proofs.Ytjljacmepidgcaa
open Go.RowKit Go.MapKept Go.ChangeMaps

/-- the exponents of a, the first i of them with those of b added -/
def addTo (a b : Int) : Nat → Int
  | 0 => a
  | i + 1 => dset (addTo a b i) i (dig a i + dig b i)
theorem addTo_digs {a b : Int} (ha : inK a) (hs : ∀ i : Nat, i < 7 → dig a i + dig b i ≤ 127) : ∀ i : Nat, i ≤ 7 → inK (addTo a b i) ∧ ∀ j : Nat, j < 7 → dig (addTo a b i) j = if j < i then dig a j + dig b j else dig a j
  | 0, _ => ⟨ha, fun j _ => by simp [addTo]⟩
  | i + 1, hi => by
    obtain ⟨h1, h2⟩ := addTo_digs ha hs i (by omega)
    have r1 := dig_range a i
    have r2 := dig_range b i
    have h3 := hs i (by omega)
    obtain ⟨e1, e2, e3⟩ := dset_digs h1 (i := i) (by omega) (x := dig a i + dig b i) (by unfold isD; omega)
    refine ⟨e1, fun j hj => ?_⟩
    by_cases h : j = i
    · subst h
      show dig (dset _ j _) j = _
      rw [e2, if_pos (by omega)]
    · show dig (dset _ i _) j = _
      rw [e3 j hj h, h2 j hj]
      by_cases h' : j < i
      · rw [if_pos h', if_pos (by omega)]
      · rw [if_neg h', if_neg (by omega)]
theorem addTo_all {a b : Int} (ha : inK a) (hb : inK b) (hs : ∀ i : Nat, i < 7 → dig a i + dig b i ≤ 127) : addTo a b 7 = a + b := by
  obtain ⟨h1, h2⟩ := addTo_digs ha hs 7 (by omega)
  obtain ⟨h3, h4⟩ := key_add ha hb hs
  exact key_ext h1 h3 fun i hi => by rw [h2 i hi, h4 i hi, if_pos hi]
/-- one monomial times a polynomial -/
def rowT (k c : Int) (l : Mons) : Mons := l.map fun q => (k + q.1, c * q.2)
theorem timesM_cons (k c : Int) (F G : Mons) : timesM ((k, c) :: F) G = rowT k c G ++ timesM F G := by
  unfold timesM rowT
  rw [List.flatMap_cons]

end Go.Proofs.Ytjljacmepidgcaa

namespace Go.Proofs.Ytjljacmepidgcaa
open Go.RowKit Go.MapKept Go.ChangeMaps

def mulT (f g : List (List Int × Int)) : List (List Int × Int) := if polyOk f = true ∧ polyOk g = true then closedT (timesM (monsOf f) (monsOf g)) else []
def mulOk (f g : List (List Int × Int)) : Bool := polyOk f && (polyOk g && polyOk (termsM (timesM (monsOf f) (monsOf g))))
theorem mul_no1 {f g : List (List Int × Int)} (h : polyOk f = false) : mulT f g = [] ∧ mulOk f g = false := by
  unfold mulT mulOk
  rw [h]
  exact ⟨if_neg (by simp), rfl⟩
theorem mul_no2 {f g : List (List Int × Int)} (h : polyOk g = false) : mulT f g = [] ∧ mulOk f g = false := by
  unfold mulT mulOk
  rw [h]
  exact ⟨if_neg (by simp), by simp⟩
theorem mul_yes {f g : List (List Int × Int)} (h : polyOk f = true) (h' : polyOk g = true) : mulT f g = closedT (timesM (monsOf f) (monsOf g)) ∧ mulOk f g = polyOk (termsM (timesM (monsOf f) (monsOf g))) := by
  unfold mulT mulOk
  rw [h, h']
  exact ⟨if_pos ⟨rfl, rfl⟩, by simp⟩
end Go.Proofs.Ytjljacmepidgcaa

namespace Go.Proofs.Ytjljacmepidgcaa
open Go.RowKit

set_option maxHeartbeats 400000 in
theorem ints_any (a b : Option Addr) (n c m d : Nat) (xs ys : List Int) (w : World) (hr : RI w a xs) (hs : RI w b ys) (hn : xs.length = n) (hm : ys.length = m) (hb : n ≤ 17592186044416) :
    Calls Try.prog 23 #[.slice a n c, .slice b m d] w fun e w' => e = .returned (.bool (decide (xs = ys))) ∧ Drew w w' := by
  have Hn := Lib.hid hn; clear hn
  have Hm := Lib.hid hm; clear hm
  by_cases hnm : n = m
  · subst hnm
    go_enter Try.func23, Try.ntmps23
    go_wp2
    go_loopw [5] (fun i wr => ∃ k : Nat, k ≤ n ∧ i = .int .i64 k ∧ Hid (∀ j, j < k → xs[j]? = ys[j]?) ∧ Drew w wr) (fun i _ => n - (intOf i).toNat)
    case atStart => exact ⟨0, Nat.zero_le _, rfl, by intro j hj; omega, Drew.refl _⟩
    case round =>
      obtain ⟨k, hk, rfl, HA, hd⟩ := hrel
      by_cases hlt : k < n
      · obtain ⟨b, off, rfl, hcell⟩ := (hr.drew hd).at (k := k) (by rw [Hn.out]; exact hlt)
        obtain ⟨b2, off2, rfl, hcell2⟩ := (hs.drew hd).at (k := k) (by rw [Hm.out]; exact hlt)
        obtain ⟨x, hx⟩ : ∃ x, xs[k]? = some x := ⟨xs[k]'(by rw [Hn.out]; exact hlt), by simp⟩
        obtain ⟨y, hy⟩ : ∃ y, ys[k]? = some y := ⟨ys[k]'(by rw [Hm.out]; exact hlt), by simp⟩
        have hc := hcell k x hx
        have hc2 := hcell2 k y hy
        have Hx := Lib.hid hx; clear hx
        have Hy := Lib.hid hy; clear hy
        clear hcell hcell2
        have hltI : (k : Int) < (n : Int) := by omega
        by_cases h1 : x = y
        · subst h1
          go_wp2
          go_quiet (fail)
          go_wp2
          go_roundw
          case rel => exact ⟨k + 1, by omega, by go_num, by
                intro j hj
                rcases Nat.lt_or_ge j k with h | h
                · exact HA.out j h
                · obtain rfl : j = k := by omega
                  rw [Hx.out, Hy.out], hd.trans (Drew.drewN _ _)⟩
          case measure => simp [intOf]; omega
        · have hne : (x != y) = true := by simpa using h1
          have H1 := Lib.hid h1; clear h1
          go_wp2
          go_quiet (fail)
          go_wp2
          go_ret
          exact ⟨ret_bool (ne_of_at Hx.out Hy.out H1.out).symm, hd.trans (Drew.drewN _ _)⟩
      · go_wp2
        go_ret
        exact ⟨ret_bool (eq_of_all (Hn.out.trans Hm.out.symm) (by intro j hj; exact HA.out j (by rw [Hn.out] at hj; omega))).symm, hd⟩
  · go_enter Try.func23, Try.ntmps23
    have hne : ((n : Int) != (m : Int)) = true := by rw [bne_iff_ne]; omega
    go_wp2
    go_ret
    exact ⟨ret_bool (by symm; rw [decide_eq_false_iff_not]; rintro rfl; exact hnm (Hn.out.symm.trans Hm.out)), Drew.refl _⟩
end Go.Proofs.Ytjljacmepidgcaa

namespace Go.Proofs.Ytjljacmepidgcaa
open Go.RowKit

theorem eqt_of_all {xs ys : List (List Int × Int)} (hl : xs.length = ys.length) (h : ∀ j, j < xs.length → xs[j]? = ys[j]?) : decide (xs = ys) = true := by
  rw [decide_eq_true_iff]
  apply List.ext_getElem?
  intro j
  rcases Nat.lt_or_ge j xs.length with h1 | h1
  · exact h j h1
  · rw [List.getElem?_eq_none h1, List.getElem?_eq_none (by omega)]
theorem net_of_at {xs ys : List (List Int × Int)} {k : Nat} {x y : List Int × Int} (hx : xs[k]? = some x) (hy : ys[k]? = some y) (h : x ≠ y) : decide (xs = ys) = false := by
  rw [decide_eq_false_iff_not]
  rintro rfl
  rw [hx] at hy
  exact h (by simpa using hy)

set_option maxRecDepth 100000 in
set_option maxHeartbeats 3200000 in
theorem lawTerms_any (a b : Option Addr) (n c m d : Nat) (xs ys : List (List Int × Int)) (w : World) (hr : RP w a xs) (hs : RP w b ys) (hn : xs.length = n) (hm : ys.length = m) (hb : n ≤ 1048576) (hsh : ∀ p ∈ xs, p.1.length ≤ 1048576) :
    Calls Try.prog 7 #[.slice a n c, .slice b m d] w fun e w' => e = .returned (.bool (decide (xs = ys))) ∧ Drew w w' := by
  have Hn := Lib.hid hn; clear hn
  have Hm := Lib.hid hm; clear hm
  have Hsh := Lib.hid hsh; clear hsh
  by_cases hnm : n = m
  · subst hnm
    go_enter Try.func7, Try.ntmps7
    go_wp2
    go_loopw [5] (fun i wr => ∃ k : Nat, k ≤ n ∧ i = .int .i64 k ∧ Hid (∀ j, j < k → xs[j]? = ys[j]?) ∧ Drew w wr) (fun i _ => n - (intOf i).toNat)
    case atStart => exact ⟨0, Nat.zero_le _, rfl, by intro j hj; omega, Drew.refl _⟩
    case round =>
      obtain ⟨k, hk, rfl, HA, hd⟩ := hrel
      obtain ⟨wo, rfl⟩ : ∃ wo : World, wo = wr := ⟨_, rfl⟩
      by_cases hlt : k < n
      · obtain ⟨b1, off1, rfl, hcell⟩ := (hr.below (hd.below _)).at (k := k) (by rw [Hn.out]; exact hlt)
        obtain ⟨b2, off2, rfl, hcell2⟩ := (hs.below (hd.below _)).at (k := k) (by rw [Hm.out]; exact hlt)
        obtain ⟨s, x, hx⟩ := part_at Hn.out hlt
        obtain ⟨t, y, hy⟩ := part_at Hm.out hlt
        obtain ⟨a1, c1, p1, p2, hri, _⟩ := hcell k _ hx
        obtain ⟨a2, c2, p3, p4, hri2, _⟩ := hcell2 k _ hy
        simp only at p1 p2 hri p3 p4 hri2
        have hsl := Hsh.out _ (List.mem_of_getElem? hx)
        simp only at hsl
        have Hx := Lib.hid hx; clear hx
        have Hy := Lib.hid hy; clear hy
        obtain ⟨l, hl⟩ : ∃ l, s.length = l := ⟨_, rfl⟩
        obtain ⟨l2, hl2⟩ : ∃ l, t.length = l := ⟨_, rfl⟩
        rw [hl] at p1 hsl
        rw [hl2] at p3
        have Hl := Lib.hid hl; clear hl
        have Hl2 := Lib.hid hl2; clear hl2
        clear hcell hcell2
        have hltI : (k : Int) < (n : Int) := by omega
        by_cases h1 : x = y
        · subst h1
          have hne : (x != x) = false := by simp
          by_cases h2 : s = t
          · subst h2
            go_wp2
            go_quiet ((go_at_call 23; exact quiet (is (ints_any _ _ _ _ _ _ s s _ (hri.drew (Drew.drewN _ _)) (hri2.drew (Drew.drewN _ _)) Hl.out Hl2.out (by omega)) (by simp : _ = true))))
            go_wp2
            go_roundw
            case rel => exact ⟨k + 1, by omega, by go_num, by
                  intro j hj
                  rcases Nat.lt_or_ge j k with h | h
                  · exact HA.out j h
                  · obtain rfl : j = k := by omega
                    rw [Hx.out, Hy.out], hd.trans (Drew.drewN _ _)⟩
            case measure => simp [intOf]; omega
          · have H2 := Lib.hid h2; clear h2
            go_wp2
            go_quiet ((go_at_call 23; exact quiet (is (ints_any _ _ _ _ _ _ s t _ (hri.drew (Drew.drewN _ _)) (hri2.drew (Drew.drewN _ _)) Hl.out Hl2.out (by omega)) (by simp [H2.out] : _ = false))))
            go_wp2
            go_ret
            exact ⟨ret_bool (net_of_at Hx.out Hy.out (fun e => H2.out (by cases e; rfl))).symm, hd.trans (Drew.drewN _ _)⟩
        · have hne : (x != y) = true := by simpa using h1
          have H1 := Lib.hid h1; clear h1
          go_wp2
          go_quiet (fail)
          go_wp2
          go_ret
          exact ⟨ret_bool (net_of_at Hx.out Hy.out (fun e => H1.out (by cases e; rfl))).symm, hd.trans (Drew.drewN _ _)⟩
      · go_wp2
        go_ret
        exact ⟨ret_bool (eqt_of_all (Hn.out.trans Hm.out.symm) (by intro j hj; exact HA.out j (by rw [Hn.out] at hj; omega))).symm, hd⟩
  · go_enter Try.func7, Try.ntmps7
    have hne : ((n : Int) != (m : Int)) = true := by rw [bne_iff_ne]; omega
    go_wp2
    go_ret
    exact ⟨ret_bool (by symm; rw [decide_eq_false_iff_not]; rintro rfl; exact hnm (Hn.out.symm.trans Hm.out)), Drew.refl _⟩
end Go.Proofs.Ytjljacmepidgcaa
