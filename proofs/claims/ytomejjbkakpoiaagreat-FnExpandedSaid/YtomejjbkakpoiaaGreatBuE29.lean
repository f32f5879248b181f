/-
  Contract of times: the product of two polynomials of the program.
  Contract of MulPolys, the program's.
  Contracts of MulPolys, the program's and the reference's.
-/
import Derived.Test.YtomejjbkakpoiaaGreatBuE7
import Derived.Test.YtomejjbkakpoiaaGreatBuE10
import Derived.Test.YtomejjbkakpoiaaGreatBuE11
import Derived.Test.YtomejjbkakpoiaaGreatBuE17
import Derived.Test.YtomejjbkakpoiaaGreatBuE20
import Derived.Test.YtomejjbkakpoiaaGreatBuE21
import Derived.Test.YtomejjbkakpoiaaGreatBuE23
namespace Go.Proofs.YtomejjbkakpoiaaGreat
open Go.RowKit Go.MapKept Go.ChangeMaps

/-- the exponents of a, the first i of them with those of b added -/
def addTo (a b : Int) : Nat → Int
  | 0 => a
  | i + 1 => dset (addTo a b i) i (dig a i + dig b i)
theorem addTo_digs {a b : Int} (ha : inK a) (hs : ∀ i : Nat, i < 7 → dig a i + dig b i ≤ 127) : ∀ i : Nat, i ≤ 7 → inK (addTo a b i) ∧ ∀ j : Nat, j < 7 → dig (addTo a b i) j = if j < i then dig a j + dig b j else dig a j
  | 0, _ => ⟨ha, fun j _ => by simp [addTo]⟩
  | i + 1, hi => by
    obtain ⟨h1, h2⟩ := addTo_digs ha hs i (by omega)
    have r1 := dig_range a i
    have r2 := dig_range b i
    have h3 := hs i (by omega)
    obtain ⟨e1, e2, e3⟩ := dset_digs h1 (i := i) (by omega) (x := dig a i + dig b i) (by unfold isD; omega)
    refine ⟨e1, fun j hj => ?_⟩
    by_cases h : j = i
    · subst h
      show dig (dset _ j _) j = _
      rw [e2, if_pos (by omega)]
    · show dig (dset _ i _) j = _
      rw [e3 j hj h, h2 j hj]
      by_cases h' : j < i
      · rw [if_pos h', if_pos (by omega)]
      · rw [if_neg h', if_neg (by omega)]
theorem addTo_all {a b : Int} (ha : inK a) (hb : inK b) (hs : ∀ i : Nat, i < 7 → dig a i + dig b i ≤ 127) : addTo a b 7 = a + b := by
  obtain ⟨h1, h2⟩ := addTo_digs ha hs 7 (by omega)
  obtain ⟨h3, h4⟩ := key_add ha hb hs
  exact key_ext h1 h3 fun i hi => by rw [h2 i hi, h4 i hi, if_pos hi]
/-- one monomial times a polynomial -/
def rowT (k c : Int) (l : Mons) : Mons := l.map fun q => (k + q.1, c * q.2)
theorem timesM_cons (k c : Int) (F G : Mons) : timesM ((k, c) :: F) G = rowT k c G ++ timesM F G := by
  unfold timesM rowT
  rw [List.flatMap_cons]

set_option maxRecDepth 100000 in
set_option maxHeartbeats 6400000 in
theorem times_any (b d : Nat) (F G : Mons) (w : World) (hF : PF w b F) (hG : PF w d G) (hs : ∀ p ∈ canon F, ∀ q ∈ canon G, ∀ i : Nat, i < 7 → dig p.1 i + dig q.1 i ≤ 127) :
    Calls Tryz.prog 99 #[.map (some b), .map (some d)] w fun e w' => ∃ r, e = .returned (.map (some r)) ∧ w.heap.size ≤ r ∧ PF w' r (timesM F G) ∧ Below w.heap.size w w' := by
  obtain ⟨lf, hlf, hpf⟩ := hF
  obtain ⟨lg, hlg, hpg⟩ := hG
  have hkf : ∀ p ∈ lf, inK p.1 ∧ in64 p.2 := by obtain ⟨_, _, _, _, _, h⟩ := hlf; exact h
  have hkg : ∀ p ∈ lg, inK p.1 ∧ in64 p.2 := by obtain ⟨_, _, _, _, _, h⟩ := hlg; exact h
  have Hs := Lib.hid (fun p (hp : p ∈ lf) q (hq : q ∈ lg) => hs p (hpf.mem_iff.1 hp) q (hpg.mem_iff.1 hq))
  clear hs
  have hmm := @run_makeMap Tryz.prog
  obtain ⟨W, hW⟩ : ∃ W, w.alloc (.map #[] 0) = W := ⟨_, rfl⟩
  have hBW : Below w.heap.size w W := by rw [← hW]; exact (Below.refl _ _).alloc (Nat.le_refl _) _
  have hM : PF W w.heap.size [] := by rw [← hW]; exact PF.made w
  have HzW := Lib.hid (show W.heap.size = w.heap.size + 1 by rw [← hW]; simp)
  have hlfW := hlf.below hBW
  have hblt := hlf.lt
  have hdlt := hlg.lt
  go_enter Tryz.func99, Tryz.ntmps99
  go_wp2_with (first | (at_range; refine wpList_range_P _ (by rfl) _ (by rfl) b lf (by rfl) hlfW ?_; intro w0 hr0 hB0 _) | go_in)
  go_frame
  go_loopw [15] (fun _ wr => ∃ don left, PRg wr b W.heap.size lf left ∧ Hid (lf.Perm (don ++ left)) ∧ PF wr w.heap.size (timesM don lg) ∧ Below w.heap.size w wr) (fun _ wr => wr.rangeLeft b W.heap.size)
  case atStart => exact ⟨[], lf, hr0, List.Perm.refl _, hM.below hB0, hBW.trans (hB0.mono hBW.size)⟩
  case round =>
    clear hM hlfW hr0 hB0 hBW hW
    obtain ⟨don, left, hr, HP, hM1, hB⟩ := hrel
    obtain ⟨wo, rfl⟩ : ∃ wo : World, wo = wr := ⟨_, rfl⟩
    go_wp2_with (first | (at_next; refine wpList_next_P _ (by rfl) _ (by rfl) b W.heap.size lf left (by rfl) hr ?_ ?_) | go_in)
    · intro hleft
      subst hleft
      rw [List.append_nil] at HP
      have hfin : PF wo w.heap.size (timesM F G) := hM1.eqv (timesM_eqv (Eqv.perm_canon hpf HP.out) (Eqv.perm_canon hpg (List.Perm.refl _)))
      clear hM1 hr
      go_wp2
      go_ret
      exact ⟨_, rfl, Nat.le_refl _, hfin, hB⟩
    · intro k0 c0 left' w1 hp hr1 hg1 hz1 hen
      have hmem := HP.out.mem_iff.2 (List.mem_append_right _ (hp.mem_iff.2 List.mem_cons_self))
      obtain ⟨hk0, hc0⟩ := hkf (k0, c0) hmem
      have Hs0 := Lib.hid (fun q (hq : q ∈ lg) => Hs.out (k0, c0) hmem q hq)
      try simp only at hk0 hc0
      have hlt := PF.lt hM1
      unfold kV at hen ⊢
      obtain ⟨W1, hW1⟩ : ∃ W1, w1.alloc (.cells (cells7 k0) 85) = W1 := ⟨_, rfl⟩
      have g0 : W1.heap[w1.heap.size]? = some (.cells (cells7 k0) 85) := by rw [← hW1]; exact heap_alloc_new w1 _
      have hBW1 : Below w1.heap.size w1 W1 := by rw [← hW1]; exact (Below.refl _ _).alloc (Nat.le_refl _) _
      have HzW1 := Lib.hid (show W1.heap.size = w1.heap.size + 1 by rw [← hW1]; simp)
      have hB1 := below_of_grown hB hg1 hB.size (by rw [HzW.out]; omega)
      have hM2 : PF W1 w.heap.size (timesM don lg) := (hM1.kept hg1 (by rw [HzW.out]; simp)).below hBW1
      have hB2 := hB1.trans (hBW1.mono hB1.size)
      have hr2 := hr1.below hBW1
      have HP3 := Lib.hid (show lf.Perm ((k0, c0) :: don ++ left') from HP.out.trans ((hp.append_left don).trans List.perm_middle))
      have hmeas := hr.left_eq
      have hlen := hp.length_eq
      have hgr : W.heap.size < w1.heap.size := hr1.lt
      have hgb : b < w1.heap.size := hr1.pm.lt
      have hgo : w.heap.size < w1.heap.size := by have := hg1.size; omega
      have hlgW1 := hlg.below hB2
      have Hz1 := Lib.hid hz1
      have hmeas1 : w1.rangeLeft b W.heap.size = left'.length := hr1.left_eq
      have HE : Hid (timesM ((k0, c0) :: don) lg = rowT k0 c0 lg ++ timesM don lg) := timesM_cons _ _ _ _
      generalize timesM don lg = acc at hM2 HE
      obtain ⟨ga, hga⟩ : ∃ ga, w1.heap.size = ga := ⟨_, rfl⟩
      have Hga := Lib.hid hga
      unfold cells7 at hW1
      clear hz1 hM1 hB hg1 hB1 hr1 hBW1 hp hmeas1 hga hr
      go_wp2_with (first | (at_range; refine wpList_range_P _ (by rfl) _ (by rfl) d lg (by rfl) hlgW1 ?_; intro w2 hr3 hB3 _) | go_in)
      try go_frame
      obtain ⟨rb, hrb⟩ : ∃ rb, W1.heap.size = rb := ⟨_, rfl⟩
      rw [Hga.out]
      rw [Hga.out] at g0 hgr hgb hgo HzW1
      have hgab : ga < rb := by have := HzW1.out; omega
      have hg0 : w2.heap[ga]? = some (.cells (cells7 k0) 85) := by rw [hB3.block ga (by omega)]; exact g0
      have hr4 : PRg w2 b W.heap.size lf left' := hr2.below hB3
      have hM3 : PF w2 w.heap.size acc := hM2.below hB3
      have hB4 : Below w.heap.size w w2 := hB2.trans (hB3.mono hB2.size)
      rw [hrb] at hr3 ⊢
      clear g0 hr2 hM2 hB2 hB3 hlgW1 HzW1 Hga hW1
      go_loopw [22] (fun _ wr => ∃ don2 left2, PRg wr d rb lg left2 ∧ Hid (lg.Perm (don2 ++ left2)) ∧ PRg wr b W.heap.size lf left' ∧ wr.heap[ga]? = some (.cells (cells7 k0) 85) ∧ PF wr w.heap.size (rowT k0 c0 don2 ++ acc) ∧ Below w.heap.size w wr) (fun _ wr => wr.rangeLeft d rb)
      case atStart => exact ⟨[], lg, hr3, List.Perm.refl _, hr4, hg0, hM3, hB4⟩
      case round =>
        clear hr3 hr4 hg0 hM3 hB4
        obtain ⟨don2, left2, hr, HP2, hq, hg0, hM1, hB⟩ := hrel
        obtain ⟨wp, rfl⟩ : ∃ wp : World, wp = wr := ⟨_, rfl⟩
        go_wp2_with (first | (at_next; refine wpList_next_P _ (by rfl) _ (by rfl) d rb lg left2 (by rfl) hr ?_ ?_) | go_in)
        · intro hleft
          subst hleft
          rw [List.append_nil] at HP2
          have hM4 : PF wp w.heap.size (timesM ((k0, c0) :: don) lg) := by
            rw [HE.out]
            exact hM1.eqv (Eqv.of_perm ((HP2.out.map _).symm.append_right acc))
          clear hM1 hr hg0
          go_wp2
          go_roundw
          case rel => exact ⟨(k0, c0) :: don, left', hq, HP3, hM4, hB⟩
          case measure =>
            rw [hq.left_eq, hmeas, hlen]
            simp
        · intro k1 c1 left3 w3 hp hr1 hg1 hz3 hen3
          have hmem1 := HP2.out.mem_iff.2 (List.mem_append_right _ (hp.mem_iff.2 List.mem_cons_self))
          obtain ⟨hk1, hc1⟩ := hkg (k1, c1) hmem1
          have hsum := Hs0.out (k1, c1) hmem1
          simp only at hk1 hc1 hsum
          have hw3 : wp.heap.size ≤ w3.heap.size := hg1.size
          have hgap : ga < wp.heap.size := (Array.getElem?_eq_some_iff.1 hg0).1
          have hrbl : rb < w3.heap.size := hr1.lt
          have hg03 : w3.heap[ga]? = some (.cells (cells7 k0) 85) := by rw [hg1.block ga hgap (by simp; omega)]; exact hg0
          have hq3 := hq.kept hg1 (by simp; omega) (by simp; omega)
          have hM3 : PF w3 w.heap.size (rowT k0 c0 don2 ++ acc) := hM1.kept hg1 (by simp; omega)
          have hB3 := below_of_grown hB hg1 hB.size (by omega)
          have HP4 := Lib.hid (show lg.Perm ((k1, c1) :: don2 ++ left3) from HP2.out.trans ((hp.append_left don2).trans List.perm_middle))
          have hmeas2 := hr.left_eq
          have hlen2 := hp.length_eq
          obtain ⟨W3, hW3⟩ : ∃ W3, w3.alloc (.cells (cells7 k1) 85) = W3 := ⟨_, rfl⟩
          have gb3 : W3.heap[w3.heap.size]? = some (.cells (cells7 k1) 85) := by rw [← hW3]; exact heap_alloc_new w3 _
          have hBW3 : Below w3.heap.size w3 W3 := by rw [← hW3]; exact (Below.refl _ _).alloc (Nat.le_refl _) _
          have HzW3 := Lib.hid (show W3.heap.size = w3.heap.size + 1 by rw [← hW3]; simp)
          have ga3 : W3.heap[ga]? = some (.cells (cells7 k0) 85) := by rw [hBW3.block ga (by omega)]; exact hg03
          obtain ⟨a0, a1, a2, a3, a4, a5, a6⟩ := cells7_at ga3
          obtain ⟨W4, hW4⟩ : ∃ W4, W3.alloc (.cells (cells7 k0) 85) = W4 := ⟨_, rfl⟩
          have ge4 : W4.heap[W3.heap.size]? = some (.cells (cells7 k0) 85) := by rw [← hW4]; exact heap_alloc_new W3 _
          have hBW4 : Below W3.heap.size W3 W4 := by rw [← hW4]; exact (Below.refl _ _).alloc (Nat.le_refl _) _
          have hr5 := hr1.below hBW3
          have hq5 := hq3.below hBW3
          have hM5 := hM3.below hBW3
          have hB5 := hB3.trans (hBW3.mono hB3.size)
          have HD := Lib.hid (addTo_digs hk0 hsum)
          have HA := Lib.hid (addTo_all hk0 hk1 hsum)
          have hkS := (key_add hk0 hk1 hsum).1
          have Hsum := Lib.hid hsum
          obtain ⟨gb, hgbb⟩ : ∃ gb, w3.heap.size = gb := ⟨_, rfl⟩
          have Hgbb := Lib.hid hgbb
          obtain ⟨ge, hge⟩ : ∃ ge, W3.heap.size = ge := ⟨_, rfl⟩
          have Hge := Lib.hid hge
          unfold cells7 at hW3 hW4
          unfold kV at hen3 ⊢
          have Hz3 := Lib.hid hz3
          clear hz3 hr1 hg1 hq3 hM3 hB3 hBW3 hg03 hr hq hM1 hB hg0 hp hgbb hge hsum
          go_wp2
          rw [Hgbb.out] at gb3 hrbl HzW3 ⊢
          rw [Hge.out] at ge4 HzW3 ⊢
          have hgbe : gb < ge := by have := HzW3.out; omega
          clear HzW3
          go_loopw [28] (fun t wr => ∃ i : Nat, t = .int .i64 i ∧ i ≤ 7 ∧ wr.heap[ge]? = some (.cells (cells7 (addTo k0 k1 i)) 85) ∧ Below ge W3 wr) (fun t _ => 7 - (intOf t).toNat)
          case atStart => exact ⟨0, by simp, by omega, ge4, by rw [← Hge.out]; exact hBW4⟩
          case round =>
            clear hW4 hW3 ge4 hBW4 a0 a1 a2 a3 a4 a5 a6
            obtain ⟨i, rfl, hi7, gi, hBi⟩ := hrel
            obtain ⟨wi, rfl⟩ : ∃ wi : World, wi = wr := ⟨_, rfl⟩
            have hgei : ge < wi.heap.size := (Array.getElem?_eq_some_iff.1 gi).1
            by_cases hi : i < 7
            · obtain ⟨hki, hdi⟩ := HD.out i hi7
              have hdd := hdi i hi
              rw [if_neg (by omega)] at hdd
              obtain ⟨p0, f0⟩ := cells7_cell gi (i := i) (by omega)
              rw [hdd] at p0
              have gbi : wi.heap[gb]? = some (.cells (cells7 k1) 85) := by rw [hBi.block gb hgbe]; exact gb3
              obtain ⟨p1, f1⟩ := cells7_cell gbi (i := i) (by omega)
              have r1 := dig_range k0 i
              have r2 := dig_range k1 i
              have r3 := Hsum.out i hi
              have s1 := cells7_set gi hki (i := i) (by omega) (x := dig k0 i + dig k1 i) (by unfold isD; omega)
              have HS := Lib.hid (show (wi.setCell ⟨ge, i, none⟩ (.int .i64 (dig k0 i + dig k1 i))).heap[ge]? = some (.cells (cells7 (addTo k0 k1 (i + 1))) 85) from s1)
              have HB := Lib.hid (show Below ge W3 (wi.setCell ⟨ge, i, none⟩ (.int .i64 (dig k0 i + dig k1 i))).drew from
                (hBi.trans (below_setCell i _ (Nat.le_refl _))).trans (Drew.below ⟨1, rfl⟩ _))
              generalize dig k0 i = da at *
              generalize dig k1 i = db at *
              have q1 : (i : Int) < 7 := by omega
              have q2 : IntKind.i64.wrap (da + db) = da + db := IntWalk.i64_in _ (by omega)
              have q3 : IntKind.i64.wrap ((i : Int) + 1) = (i : Int) + 1 := IntWalk.i64_in _ (by omega)
              clear hdi hdd s1 gi hBi gbi
              go_wp2
              go_region
              go_wp2
              go_roundw
              case rel => exact ⟨i + 1, by clear q1 q2 q3; go_num, by omega, HS.out, HB.out⟩
              case measure => clear q1 q2 q3; simp [intOf]; omega
            · obtain rfl : i = 7 := by omega
              rw [HA.out] at gi
              obtain ⟨a0, a1, a2, a3, a4, a5, a6⟩ := cells7_at gi
              have hs3 : W3.heap.size ≤ wi.heap.size := hBi.size
              have hBi' : Below W3.heap.size W3 wi := by rw [Hge.out]; exact hBi
              have hr6 := hr5.below hBi'
              have hq6 := hq5.below hBi'
              have hM6 := hM5.below hBi'
              have hB6 := hB5.trans (hBi'.mono hB5.size)
              have ga6 : wi.heap[ga]? = some (.cells (cells7 k0) 85) := by rw [hBi.block ga (by omega)]; exact ga3
              have hgal : ga < wi.heap.size := (Array.getElem?_eq_some_iff.1 ga6).1
              have hq : IntKind.i64.wrap (c0 * c1) = wrap64 (c0 * c1) := IntWalk.i64_left _
              obtain ⟨cc, hcc⟩ : ∃ cc, wrap64 (c0 * c1) = cc := ⟨_, rfl⟩
              have hcc0 : in64 cc := by rw [← hcc]; exact in64_wrap _
              rw [hcc] at hq
              have Hcc := Lib.hid hcc
              have hst : Eqv ((k0 + k1, cc) :: (rowT k0 c0 don2 ++ acc)) (rowT k0 c0 ((k1, c1) :: don2) ++ acc) := by
                rw [← hcc]; exact Eqv.wrap _ _ _
              have Hst := Lib.hid hst
              generalize k0 + k1 = kk at *
              clear hcc hBi' hBi gi hr5 hq5 hM5 hB5 gb3 ga3 hst
              go_wp2_with fail
              refine (add_any w.heap.size kk cc _ _ hM6 hkS hcc0).mono ?_
              rintro e w7 ⟨rfl, hM7, hg7⟩
              have hr7 := hr6.kept hg7 (by simp; omega) (by simp; omega)
              have hq7 := hq6.kept hg7 (by simp; omega) (by rw [HzW.out]; simp)
              have hB7 := below_of_grown hB6 hg7 hB6.size (Nat.le_refl _)
              have ga7 : w7.heap[ga]? = some (.cells (cells7 k0) 85) := by rw [hg7.block ga hgal (by simp; omega)]; exact ga6
              have hM8 := hM7.eqv Hst.out
              clear hr6 hq6 hM6 hB6 hM7 hg7 ga6
              go_wp2
              go_roundw
              case rel => exact ⟨(k1, c1) :: don2, left3, hr7, HP4, hq7, ga7, hM8, hB7⟩
              case measure =>
                rw [hr7.left_eq, hmeas2, hlen2]
                simp
end Go.Proofs.YtomejjbkakpoiaaGreat

namespace Go.Proofs.YtomejjbkakpoiaaGreat
open Go.RowKit Go.MapKept Go.ChangeMaps

def mulT (f g : List (List Int × Int)) : List (List Int × Int) := if polyOk f = true ∧ polyOk g = true then closedT (timesM (monsOf f) (monsOf g)) else []
def mulOk (f g : List (List Int × Int)) : Bool := polyOk f && (polyOk g && polyOk (termsM (timesM (monsOf f) (monsOf g))))
theorem mul_no1 {f g : List (List Int × Int)} (h : polyOk f = false) : mulT f g = [] ∧ mulOk f g = false := by
  unfold mulT mulOk
  rw [h]
  exact ⟨if_neg (by simp), rfl⟩
theorem mul_no2 {f g : List (List Int × Int)} (h : polyOk g = false) : mulT f g = [] ∧ mulOk f g = false := by
  unfold mulT mulOk
  rw [h]
  exact ⟨if_neg (by simp), by simp⟩
theorem mul_yes {f g : List (List Int × Int)} (h : polyOk f = true) (h' : polyOk g = true) : mulT f g = closedT (timesM (monsOf f) (monsOf g)) ∧ mulOk f g = polyOk (termsM (timesM (monsOf f) (monsOf g))) := by
  unfold mulT mulOk
  rw [h, h']
  exact ⟨if_pos ⟨rfl, rfl⟩, by simp⟩
set_option maxRecDepth 100000 in
set_option maxHeartbeats 3200000 in
theorem implMul_any (a b : Option Addr) (n c m d : Nat) (xs ys : List (List Int × Int)) (w : World) (hx : RP w a xs) (hy : RP w b ys) (hn : xs.length = n) (hm : ys.length = m) (hb : n ≤ 1048576) (hb' : m ≤ 1048576) :
    Calls Tryz.prog 59 #[.slice a n c, .slice b m d] w fun e w' => ∃ a' n' c' r, e = .returned (.tuple #[.slice a' n' c', .bool r]) ∧ TO w' w.heap.size w'.heap.size a' n' c' (mulT xs ys) ∧ Hid (r = mulOk xs ys) ∧ Below w.heap.size w w' := by
  have Hn := Lib.hid hn; clear hn
  have Hm := Lib.hid hm; clear hm
  cases hok : polyOk xs
  · have H0 := Lib.hid (mul_no1 (g := ys) hok)
    have Hok := Lib.hid hok
    clear hok
    go_enter Tryz.func59, Tryz.ntmps59
    go_wp2_with fail
    refine (is (implPolyOk_any _ _ _ xs _ hx Hn.out hb) Hok.out).mono ?_
    rintro e w1 ⟨rfl, hb1⟩
    go_wp2
    go_ret2
    exact ⟨_, _, _, _, rfl, by rw [H0.out.1]; exact TO.nil, H0.out.2.symm, hb1⟩
  have Hok := Lib.hid hok
  cases hv : polyOk ys
  · have H0 := Lib.hid (mul_no2 (f := xs) hv)
    have Hv := Lib.hid hv
    clear hok hv
    go_enter Tryz.func59, Tryz.ntmps59
    go_wp2_with fail
    refine (is (implPolyOk_any _ _ _ xs _ hx Hn.out hb) Hok.out).mono ?_
    rintro e w1 ⟨rfl, hb1⟩
    have hy1 := hy.below hb1
    go_wp2_with fail
    refine (is (implPolyOk_any _ _ _ ys _ hy1 Hm.out hb') Hv.out).mono ?_
    rintro e w2 ⟨rfl, hb2⟩
    have hB2 := hb1.trans (hb2.mono hb1.size)
    go_wp2
    go_ret2
    exact ⟨_, _, _, _, rfl, by rw [H0.out.1]; exact TO.nil, H0.out.2.symm, hB2⟩
  have H0 := Lib.hid (mul_yes hok hv)
  have Hv := Lib.hid hv
  have HBd := Lib.hid (polyOk_mons hok)
  have HBe := Lib.hid (polyOk_mons hv)
  clear hok hv
  go_enter Tryz.func59, Tryz.ntmps59
  go_wp2_with fail
  refine (is (implPolyOk_any _ _ _ xs _ hx Hn.out hb) Hok.out).mono ?_
  rintro e w1 ⟨rfl, hb1⟩
  have hy1 := hy.below hb1
  go_wp2_with fail
  refine (is (implPolyOk_any _ _ _ ys _ hy1 Hm.out hb') Hv.out).mono ?_
  rintro e w2 ⟨rfl, hb2⟩
  have hB2 := hb1.trans (hb2.mono hb1.size)
  have hx2 := hx.below hB2
  have hy2 := hy.below hB2
  go_wp2_with fail
  refine (open_any _ _ _ xs _ hx2 Hn.out Hok.out).mono ?_
  rintro e w3 ⟨r3, rfl, hr3, hF3, hb3⟩
  have hB3 := hB2.trans (hb3.mono hB2.size)
  have hy3 := hy2.below hb3
  go_wp2_with fail
  refine (open_any _ _ _ ys _ hy3 Hm.out Hv.out).mono ?_
  rintro e w4 ⟨r4, rfl, hr4, hG4, hb4⟩
  have hB4 := hB3.trans (hb4.mono hB3.size)
  have hF4 := hF3.below hb4
  go_wp2_with fail
  refine (times_any r3 r4 (monsOf xs) (monsOf ys) _ hF4 hG4 (fun p hp q hq i hi => by
    have h1 := (HBd.out.canon p hp).2 i hi
    have h2 := (HBe.out.canon q hq).2 i hi
    omega)).mono ?_
  rintro e w5 ⟨r5, rfl, hr5, hF5, hb5⟩
  have hB5 := hB4.trans (hb5.mono hB4.size)
  go_wp2_with fail
  refine (closed_any r5 _ _ hF5).mono ?_
  rintro e w6 ⟨a6, n6, c6, r6, rfl, ho6, hh6, hb6⟩
  have hB6 := hB5.trans (hb6.mono hB5.size)
  have Ho6 := Lib.hid (ho6.mono (B' := w.heap.size) (S' := w6.heap.size) hB5.size (Nat.le_refl _))
  clear ho6
  go_wp2
  go_ret2
  exact ⟨_, _, _, _, rfl, by rw [H0.out.1]; exact Ho6.out, by rw [H0.out.2]; exact hh6, hB6⟩
end Go.Proofs.YtomejjbkakpoiaaGreat

namespace Go.Proofs.YtomejjbkakpoiaaGreat
open Go.RowKit Go.MapKept Go.ChangeMaps

theorem mulT_len (f g : List (List Int × Int)) : (mulT f g).length ≤ 600 := by
  unfold mulT
  split
  · exact closedT_len _
  · exact Nat.zero_le _

set_option maxRecDepth 100000 in
set_option maxHeartbeats 3200000 in
theorem specMul_any (a b : Option Addr) (n c m d : Nat) (xs ys : List (List Int × Int)) (w : World) (hx : RP w a xs) (hy : RP w b ys) (hn : xs.length = n) (hm : ys.length = m) (hb : n ≤ 1048576) (hb' : m ≤ 1048576) :
    Calls Tryz.prog 61 #[.slice a n c, .slice b m d] w fun e w' => ∃ a' n' c' r, e = .returned (.tuple #[.slice a' n' c', .bool r]) ∧ TO w' w.heap.size w'.heap.size a' n' c' (mulT xs ys) ∧ Hid (r = mulOk xs ys) ∧ Below w.heap.size w w' := by
  have Hn := Lib.hid hn; clear hn
  have Hm := Lib.hid hm; clear hm
  cases hok : polyOk xs
  · have H0 := Lib.hid (mul_no1 (g := ys) hok)
    have Hok := Lib.hid hok
    clear hok
    go_enter Tryz.func61, Tryz.ntmps61
    go_wp2_with fail
    refine (is (specPolyOk_any _ _ _ xs _ hx Hn.out hb) Hok.out).mono ?_
    rintro e w1 ⟨rfl, hb1⟩
    go_wp2
    go_ret2
    exact ⟨_, _, _, _, rfl, by rw [H0.out.1]; exact TO.nil, H0.out.2.symm, hb1⟩
  have Hok := Lib.hid hok
  cases hv : polyOk ys
  · have H0 := Lib.hid (mul_no2 (f := xs) hv)
    have Hv := Lib.hid hv
    clear hok hv
    go_enter Tryz.func61, Tryz.ntmps61
    go_wp2_with fail
    refine (is (specPolyOk_any _ _ _ xs _ hx Hn.out hb) Hok.out).mono ?_
    rintro e w1 ⟨rfl, hb1⟩
    have hy1 := hy.below hb1
    go_wp2_with fail
    refine (is (specPolyOk_any _ _ _ ys _ hy1 Hm.out hb') Hv.out).mono ?_
    rintro e w2 ⟨rfl, hb2⟩
    have hB2 := hb1.trans (hb2.mono hb1.size)
    go_wp2
    go_ret2
    exact ⟨_, _, _, _, rfl, by rw [H0.out.1]; exact TO.nil, H0.out.2.symm, hB2⟩
  have H0 := Lib.hid (mul_yes hok hv)
  have Hv := Lib.hid hv
  have HBd := Lib.hid (polyOk_mons hok)
  have HBe := Lib.hid (polyOk_mons hv)
  have hn600 : n ≤ 600 := by rw [← Hn.out]; exact polyOk_len hok
  have hm600 : m ≤ 600 := by rw [← Hm.out]; exact polyOk_len hv
  have Hnm := Lib.hid (Nat.le_trans (Nat.mul_le_mul hn600 hm600) (by omega) : n * m ≤ 1048576)
  clear hok hv
  go_enter Tryz.func61, Tryz.ntmps61
  go_wp2_with fail
  refine (is (specPolyOk_any _ _ _ xs _ hx Hn.out hb) Hok.out).mono ?_
  rintro e w1 ⟨rfl, hb1⟩
  have hy1 := hy.below hb1
  go_wp2_with fail
  refine (is (specPolyOk_any _ _ _ ys _ hy1 Hm.out hb') Hv.out).mono ?_
  rintro e w2 ⟨rfl, hb2⟩
  have hB2 := hb1.trans (hb2.mono hb1.size)
  have hx2 := hx.below hB2
  have hy2 := hy.below hB2
  go_wp2_with fail
  refine (l2Open_any _ _ _ xs _ hx2 Hn.out Hok.out).mono ?_
  rintro e w3 ⟨a3, c3, rfl, ho3, hb3⟩
  have hB3 := hB2.trans (hb3.mono hB2.size)
  have hy3 := hy2.below hb3
  have Ho3 := Lib.hid ho3
  clear ho3
  go_wp2_with fail
  refine (l2Open_any _ _ _ ys _ hy3 Hm.out Hv.out).mono ?_
  rintro e w4 ⟨a4, c4, rfl, ho4, hb4⟩
  have hB4 := hB3.trans (hb4.mono hB3.size)
  have Ho4 := Lib.hid ho4
  have Hx4 := Lib.hid (Ho3.out.below hb4)
  clear ho4
  go_wp2_with fail
  refine (l2Times_any _ _ _ _ _ _ (monsOf xs) (monsOf ys) _ Hx4.out.rd Ho4.out.rd Ho3.out.len Ho4.out.len Hnm.out hb hb' (fun p hp => (HBd.out p hp).1) (fun p hp => (HBe.out p hp).1)).mono ?_
  rintro e w5 ⟨a5, n5, c5, rfl, ho5, hb5⟩
  have hB5 := hB4.trans (hb5.mono hB4.size)
  have Ho5 := Lib.hid ho5
  clear ho5
  go_wp2_with fail
  refine (l2Shut_any _ _ _ (timesM (monsOf xs) (monsOf ys)) _ Ho5.out.rd Ho5.out.len (fun p hp => ((HBd.out.times HBe.out (by omega)).canon p hp).1)).mono ?_
  rintro e w9 ⟨a9, n9, c9, r9, rfl, ho9, hh9, hb9⟩
  have hB9 := hB5.trans (hb9.mono hB5.size)
  have Ho9 := Lib.hid (ho9.mono (B' := w.heap.size) (S' := w9.heap.size) hB5.size (Nat.le_refl _))
  clear ho9
  go_wp2
  go_ret2
  exact ⟨_, _, _, _, rfl, by rw [H0.out.1]; exact Ho9.out, by rw [H0.out.2]; exact hh9, hB9⟩
end Go.Proofs.YtomejjbkakpoiaaGreat
