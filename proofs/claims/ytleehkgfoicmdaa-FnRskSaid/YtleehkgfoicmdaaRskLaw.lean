/-
  Law FnRsk: for every input a permutation inserted gives two tableaux of one shape, its inverse the same two exchanged. No condition.
-/
import Derived.Test.YtleehkgfoicmdaaDrawTwo2
import Derived.Test.YtleehkgfoicmdaaLists
import Derived.Test.YtleehkgfoicmdaaInverse
import Derived.Test.YtleehkgfoicmdaaRsk3
import Derived.Test.YtleehkgfoicmdaaTableau2
namespace Go.Proofs.Ytleehkgfoicmdaa
open Go.RowKit

def insChain (u : List Int) : Nat → List (List Int)
  | 0 => []
  | k + 1 => (insNum (insChain u k) (u.getD k 0)).1
def readTab (t : List (List Int)) : List Int := t.reverse.flatten
def few (t : List (List Int)) : Bool := decide (t.length ≤ 10) && t.all fun l => decide (l.length ≤ 10)
def rskLaw (u : List Int) : Bool :=
  (rskOf u).2.2 && (rskOf (inv u)).2.2 && decide ((rskOf u).1 = (rskOf (inv u)).2.1) && decide ((rskOf u).2.1 = (rskOf (inv u)).1) && tabOk (rskOf u).1 && tabOk (rskOf u).2.1
  && few (rskOf u).1 && few (rskOf u).2.1
  && (List.range u.length).all (fun k => (insNum (insChain u k) (u.getD k 0)).2.2 && few (insChain u k))
  && decide (insChain u u.length = (rskOf u).1) && (rskOf (readTab (rskOf u).1)).2.2 && decide ((rskOf (readTab (rskOf u).1)).1 = (rskOf u).1) && decide ((readTab (rskOf u).1).length ≤ 100)
  && u.all (fun x => decide (0 ≤ x) && decide (x < (u.length : Int)))
set_option maxRecDepth 100000 in
theorem rskLaw_all : ([1, 2, 3, 4, 5].all fun n => (perms n).all rskLaw) = true := by kernel_rfl
theorem rskLaw_of {n : Nat} {u : List Int} (h1 : 1 ≤ n) (h5 : n ≤ 5) (hu : u ∈ perms n) : rskLaw u = true := by
  have h2 := rskLaw_all
  rw [List.all_eq_true] at h2
  have h3 := h2 n (by simp; omega)
  rw [List.all_eq_true] at h3
  exact h3 u hu
theorem few_of {t : List (List Int)} (h : few t = true) : t.length ≤ 10 ∧ ShortII t ∧ ∀ l ∈ t, l.length ≤ 10 := by
  unfold few at h
  rw [Bool.and_eq_true, List.all_eq_true] at h
  refine ⟨by simpa using h.1, fun l hl => ?_, fun l hl => by simpa using h.2 l hl⟩
  have := h.2 l hl
  simp at this
  omega

structure RskFacts (u : List Int) (p q x y z : List (List Int)) (b : List Int) : Prop where
  e1 : (rskOf u).1 = p
  e2 : (rskOf u).2.1 = q
  e3 : (rskOf (inv u)).1 = x
  e4 : (rskOf (inv u)).2.1 = y
  ok1 : (rskOf u).2.2 = true
  ok2 : (rskOf (inv u)).2.2 = true
  py : p = y
  qx : q = x
  tp : tabOk p = true
  tq : tabOk q = true
  fp : p.length ≤ 10 ∧ ShortII p ∧ ∀ l ∈ p, l.length ≤ 10
  fq : q.length ≤ 10 ∧ ShortII q ∧ ∀ l ∈ q, l.length ≤ 10
  done : ∀ k, k < u.length → (insNum (insChain u k) (u.getD k 0)).2.2 = true ∧ ((insChain u k).length ≤ 10 ∧ ShortII (insChain u k) ∧ ∀ l ∈ insChain u k, l.length ≤ 10)
  ends : insChain u u.length = p
  rd : readTab p = b
  e5 : (rskOf b).1 = z
  ok3 : (rskOf b).2.2 = true
  zp : z = p
  small : b.length ≤ 100
  within : ∀ v ∈ u, 0 ≤ v ∧ v < (u.length : Int)
theorem rskFacts {n : Nat} {u : List Int} (h1 : 1 ≤ n) (h5 : n ≤ 5) (hu : u ∈ perms n) : ∃ p q x y z b, RskFacts u p q x y z b := by
  have h := rskLaw_of h1 h5 hu
  unfold rskLaw at h
  simp only [Bool.and_eq_true, decide_eq_true_eq] at h
  obtain ⟨⟨⟨⟨⟨⟨⟨⟨⟨⟨⟨⟨⟨a1, a2⟩, a3⟩, a4⟩, a5⟩, a6⟩, a7⟩, a8⟩, a9⟩, a10⟩, a11⟩, a12⟩, a13⟩, a14⟩ := h
  rw [List.all_eq_true] at a9 a14
  refine ⟨_, _, _, _, _, _, rfl, rfl, rfl, rfl, a1, a2, a3, a4, a5, a6, few_of a7, few_of a8, fun k hk => ?_, a10, rfl, rfl, a11, a12, a13, fun v hv => ?_⟩
  · have := a9 k (by rw [List.mem_range]; exact hk)
    rw [Bool.and_eq_true] at this
    exact ⟨this.1, few_of this.2⟩
  · have := a14 v hv
    simpa using this
/-- read from row k on, the last row first -/
def readFrom (t : List (List Int)) (k : Nat) : List Int := (t.drop k).reverse.flatten
theorem readFrom_all (t : List (List Int)) : readFrom t t.length = [] := by simp [readFrom]
theorem readFrom_zero (t : List (List Int)) : readFrom t 0 = readTab t := by simp [readFrom, readTab]
theorem readFrom_step {t : List (List Int)} {k : Nat} {l : List Int} (h : t[k]? = some l) : readFrom t k = readFrom t (k + 1) ++ l := by
  obtain ⟨hk, hl⟩ := List.getElem?_eq_some_iff.1 h
  unfold readFrom
  rw [List.drop_eq_getElem_cons hk, hl]
  simp

set_option maxRecDepth 100000 in
set_option maxHeartbeats 3200000 in
theorem lawRsk_walk (w : World) (a : Option Addr) (n c : Nat) (xs : List Int) (hr : RB w a xs) (hn : xs.length = n) (hb : n ≤ 9223372036854775807) (hbs : Bytes xs) :
    Calls Try.prog 16 #[.slice a n c] w fun e w' => e = .returned (.bool true) ∧ Below w.heap.size w w' := by
  have Hn := Lib.hid hn; clear hn
  have Hbs := Lib.hid hbs; clear hbs
  by_cases hbig : 1048576 < n
  · have h1 := Lib.hid (show decide (1048576 < n) = true by simpa using hbig)
    go_enter Try.func16, Try.ntmps16
    go_wp2_with fail
    refine (is (big_any _ _ _ _ hb) h1.out).mono ?_
    rintro e w1 ⟨rfl, rfl⟩
    go_wp2
    go_ret
    exact ⟨rfl, Below.refl _ _⟩
  · have h1 := Lib.hid (show decide (1048576 < n) = false by simpa using hbig)
    go_enter Try.func16, Try.ntmps16
    go_wp2_with fail
    refine (is (big_any _ _ _ _ hb) h1.out).mono ?_
    rintro e w1 ⟨rfl, rfl⟩
    go_wp2_with fail
    refine (drawTwo_any _ _ _ xs _ hr Hn.out (by omega) Hbs.out).mono ?_
    rintro e w1 ⟨m, u, v, au, cu, av, cv, rfl, ⟨hm1, hm5⟩, hu, hv, hou, -, hB1⟩
    obtain ⟨p, q, x, y, z, b, hF⟩ := rskFacts hm1 hm5 hu
    obtain ⟨hul, hup⟩ := perms_ok hu hm1 hm5
    have HF := Lib.hid hF
    have Hul := Lib.hid hul
    have Hup := Lib.hid hup
    clear hu hv hF hul hup hr h1 hbig
    have hru := hou.rd
    clear hou
    go_wp2_with fail
    refine (implRskOf_any _ _ _ u _ hru Hul.out (by omega)).mono ?_
    rintro e w2 ⟨a2, n2, c2, b2, m2, d2, r2, rfl, HJ, hr2, hB2⟩
    obtain rfl : r2 = true := by rw [hr2.out]; exact HF.out.ok1
    obtain ⟨P, hP, hp2, hq2⟩ := HJ.out
    rw [HF.out.e1] at hp2
    rw [HF.out.e2] at hq2
    have hrp := hp2.rd
    have hrq := hq2.rd
    have Hpl := Lib.hid hp2.len
    have Hql := Lib.hid hq2.len
    have hru2 := hru.below hB2
    have hB2' := hB1.trans (hB2.mono hB1.size)
    clear HJ hP hp2 hq2 hr2 hru hB1
    go_wp2_with fail
    refine (implInverse_any _ _ _ u _ hru2 Hul.out (by omega) Hup.out (by rw [← Hul.out]; exact HF.out.within)).mono ?_
    rintro e w3 ⟨a3, c3, rfl, ho3, hB3⟩
    have hri := ho3.rd
    have Hil := Lib.hid ho3.len
    have hru3 := hru2.below hB3
    have hrp3 := hrp.below hB3
    have hrq3 := hrq.below hB3
    have hB3' := hB2'.trans (hB3.mono hB2'.size)
    clear ho3 hru2 hrp hrq hB2'
    go_wp2_with fail
    refine (implRskOf_any _ _ _ (inv u) _ hri Hil.out (by omega)).mono ?_
    rintro e w4 ⟨a4, n4, c4, b4, m4, d4, r4, rfl, HJ, hr4, hB4⟩
    obtain rfl : r4 = true := by rw [hr4.out]; exact HF.out.ok2
    obtain ⟨P, hP, hx4, hy4⟩ := HJ.out
    rw [HF.out.e3] at hx4
    rw [HF.out.e4] at hy4
    have hrx := hx4.rd
    have hry := hy4.rd
    have Hxl := Lib.hid hx4.len
    have Hyl := Lib.hid hy4.len
    have hru4 := hru3.below hB4
    have hrp4 := hrp3.below hB4
    have hrq4 := hrq3.below hB4
    have hB4' := hB3'.trans (hB4.mono hB3'.size)
    have hn2 : n2 ≤ 10 := by rw [← Hpl.out]; exact HF.out.fp.1
    have hm2 : m2 ≤ 10 := by rw [← Hql.out]; exact HF.out.fq.1
    clear HJ hP hx4 hy4 hr4 hru3 hrp3 hrq3 hri hB3'
    go_wp2_with fail
    refine (is (lists_any _ _ _ _ _ _ p y _ hrp4 hry Hpl.out Hyl.out (by omega) HF.out.fp.2.1) (by rw [decide_eq_true_iff]; exact HF.out.py : _ = true)).mono ?_
    rintro e w5 ⟨rfl, hd5⟩
    go_wp2_with fail
    refine (is (lists_any _ _ _ _ _ _ q x _ (hrq4.below (hd5.below _)) (hrx.below (hd5.below _)) Hql.out Hxl.out (by omega) HF.out.fq.2.1) (by rw [decide_eq_true_iff]; exact HF.out.qx : _ = true)).mono ?_
    rintro e w6 ⟨rfl, hd6⟩
    have hd := hd5.trans hd6
    have hru6 := hru4.below (hd.below _)
    have hrp6 := hrp4.below (hd.below _)
    have hrq6 := hrq4.below (hd.below _)
    have hB6 := hB4'.trans (hd.below _)
    clear hru4 hrp4 hrq4 hrx hry hd5 hd6 hd hB4'
    go_wp2_with fail
    refine (tab_impl _ _ _ p _ hrp6 Hpl.out (by omega) HF.out.fp.2.1).mono ?_
    rintro e w7 ⟨b7, rfl, hb7, hB7⟩
    obtain rfl : b7 = true := by rw [hb7.out]; exact HF.out.tp
    have hru7 := hru6.below hB7
    have hrp7 := hrp6.below hB7
    have hrq7 := hrq6.below hB7
    have hB7' := hB6.trans (hB7.mono hB6.size)
    clear hru6 hrp6 hrq6 hB6 hb7
    go_wp2_with fail
    refine (tab_impl _ _ _ q _ hrq7 Hql.out (by omega) HF.out.fq.2.1).mono ?_
    rintro e w8 ⟨b8, rfl, hb8, hB8⟩
    obtain rfl : b8 = true := by rw [hb8.out]; exact HF.out.tq
    have hru8 := hru7.below hB8
    have hrp8 := hrp7.below hB8
    have hB8' := hB7'.trans (hB8.mono hB7'.size)
    clear hru7 hrp7 hrq7 hB7' hb8
    go_wp2
    have hA : Below w8.heap.size w8 (w8.alloc (.cells #[] 22)) := (Below.refl _ _).alloc (Nat.le_refl _) _
    go_loopw [11, 12] (fun t i wr => ∃ k : Nat, k ≤ m ∧ i = .int .i64 k ∧ Hid (∃ at' nt ct, t = .slice at' nt ct ∧ RII wr at' (insChain u k) ∧ (insChain u k).length = nt) ∧ Below w8.heap.size w8 wr) (fun _ i _ => m - (intOf i).toNat)
    case atStart => exact ⟨0, Nat.zero_le _, rfl, ⟨_, _, _, rfl, .inl rfl, rfl⟩, hA⟩
    case round =>
      clear hA
      obtain ⟨k, hk, rfl, HV, hB⟩ := hrel
      obtain ⟨wo, rfl⟩ : ∃ wo : World, wo = wr := ⟨_, rfl⟩
      obtain ⟨at', nt, ct, rfl, hrt, hnt⟩ := HV.out
      clear HV
      have hbs := hB.size
      by_cases hlt : k < m
      · obtain ⟨b9, off, rfl, hcell⟩ := (hru8.below hB).at (k := k) (by rw [Hul.out]; exact hlt)
        obtain ⟨y0, hy0⟩ := some_at (k := k) Hul.out hlt
        have hcy := hcell k y0 hy0
        have hyb := HF.out.within y0 (List.mem_of_getElem? hy0)
        rw [Hul.out] at hyb
        have hst : insChain u (k + 1) = (insNum (insChain u k) y0).1 := by rw [insChain, getD_of hy0]
        obtain ⟨hdone, hft⟩ := HF.out.done k (by rw [Hul.out]; exact hlt)
        rw [getD_of hy0] at hdone
        have Hst := Lib.hid hst
        have Hdone := Lib.hid hdone
        have Hft := Lib.hid hft.2.1
        have Hnt := Lib.hid hnt
        have hnt10 : nt ≤ 10 := by rw [← hnt]; exact hft.1
        have q1 : (k : Int) < (m : Int) := by omega
        clear hcell hy0 hst hdone hft hnt
        go_wp2_with fail
        refine (implInsNum_any _ _ _ (insChain u k) y0 _ hrt Hnt.out (by omega) Hft.out (by omega) (by omega)).mono ?_
        rintro e w9 ⟨a9, n9, c9, r9, s9, rfl, ho9, -, hs9, hB9⟩
        obtain rfl : s9 = true := by rw [hs9.out]; exact Hdone.out
        have hr9 := ho9.rd
        have hl9 := ho9.len
        rw [← Hst.out] at hr9 hl9
        have Hr9 := Lib.hid hr9
        have Hl9 := Lib.hid hl9
        have hB10 := hB.trans (hB9.mono hbs)
        clear ho9 hs9 hr9 hl9 hrt
        go_wp2
        go_roundw
        case rel => exact ⟨k + 1, by omega, by go_num, ⟨_, _, _, rfl, Hr9.out, Hl9.out⟩, hB10⟩
        case measure => simp [intOf]; omega
      · obtain rfl : k = m := by omega
        have hends := HF.out.ends
        rw [Hul.out] at hends
        rw [hends] at hrt hnt
        have hrp9 := hrp8.below hB
        have hB9 := hB8'.trans (hB.mono hB8'.size)
        have Hnt := Lib.hid hnt
        have hI0 : OwI (wo.alloc (.cells #[] 3)) wo.heap.size (wo.alloc (.cells #[] 3)).heap.size (some ⟨wo.heap.size, 0, none⟩) 0 0 [] := OwI.mk (World.ownsRow_made _ #[] 0 (Nat.le_refl _) (Nat.zero_le _) rfl)
        have hA : Below wo.heap.size wo (wo.alloc (.cells #[] 3)) := (Below.refl _ _).alloc (Nat.le_refl _) _
        have HI := Lib.hid hI0
        clear hnt hends hru8 hrp8 hB8' hI0 hB
        go_wp2
        go_loopw [16, 17] (fun b i wr => ∃ k : Nat, k ≤ n2 ∧ i = .int .i64 ((k : Int) - 1) ∧ Hid (∃ ab nb cb, b = .slice ab nb cb ∧ nb ≤ 10 * (n2 - k) ∧ OwI wr wo.heap.size wr.heap.size ab nb cb (readFrom p k)) ∧ Below wo.heap.size wo wr) (fun _ i _ => (intOf i + 1).toNat)
        case atStart => exact ⟨n2, Nat.le_refl _, rfl, ⟨_, _, _, rfl, by omega, by rw [← Hpl.out, readFrom_all]; exact HI.out⟩, hA⟩
        case round =>
          clear hA HI
          obtain ⟨j, hj, rfl, HV, hB⟩ := hrel
          obtain ⟨wp, rfl⟩ : ∃ wp : World, wp = wr := ⟨_, rfl⟩
          obtain ⟨ab, nb, cb, rfl, hnb, hob⟩ := HV.out
          clear HV
          have hbs := hB.size
          by_cases hj0 : j = 0
          · subst hj0
            rw [readFrom_zero, HF.out.rd] at hob
            have hbl := hob.len
            have Hbl := Lib.hid hbl
            have hnb2 : nb ≤ 100 := by rw [← hbl]; exact HF.out.small
            have hrb := hob.rd
            clear hbl hob
            go_wp2_with fail
            refine (implRskOf_any _ _ _ b _ hrb Hbl.out (by omega)).mono ?_
            rintro e w10 ⟨a10, n10, c10, b10, m10, d10, r10, rfl, HJ, hr10, hB10⟩
            obtain rfl : r10 = true := by rw [hr10.out]; exact HF.out.ok3
            obtain ⟨P, hP, hz10, -⟩ := HJ.out
            rw [HF.out.e5] at hz10
            have hrz := hz10.rd
            have Hzl := Lib.hid hz10.len
            have hBx := hB.trans (hB10.mono hbs)
            have hrt10 := hrt.below hBx
            have hrp10 := hrp9.below hBx
            have hB11 := hB9.trans (hBx.mono hB9.size)
            have hnt10 : nt ≤ 10 := by rw [← Hnt.out]; exact HF.out.fp.1
            have hn10 : n10 ≤ 10 := by rw [← Hzl.out, HF.out.zp]; exact HF.out.fp.1
            clear HJ hP hz10 hr10 hrb hrt hrp9 hB hBx
            go_wp2_with fail
            refine (is (lists_any _ _ _ _ _ _ p p _ hrt10 hrp10 Hnt.out Hpl.out (by omega) HF.out.fp.2.1) (by rw [decide_eq_true_iff] : _ = true)).mono ?_
            rintro e w12 ⟨rfl, hd12⟩
            go_wp2_with fail
            refine (is (lists_any _ _ _ _ _ _ z p _ (hrz.below (hd12.below _)) (hrp10.below (hd12.below _)) Hzl.out Hpl.out (by omega) (by rw [HF.out.zp]; exact HF.out.fp.2.1)) (by rw [decide_eq_true_iff]; exact HF.out.zp : _ = true)).mono ?_
            rintro e w13 ⟨rfl, hd13⟩
            have hBf := (hB11.trans (hd12.below _)).trans (hd13.below _)
            go_wp2
            go_ret
            exact ⟨rfl, hBf⟩
          · obtain ⟨t, rfl⟩ : ∃ t, j = t + 1 := ⟨j - 1, by omega⟩
            have ej : ((t + 1 : Nat) : Int) - 1 = (t : Int) := by omega
            rw [ej]
            obtain ⟨b9, off, rfl, hcell⟩ := (hrp9.below hB).at (k := t) (by rw [Hpl.out]; omega)
            obtain ⟨l, hl⟩ := some_of (show t < p.length by rw [Hpl.out]; omega)
            obtain ⟨al, cl, hcl, hrl⟩ := hcell t l hl
            have hst := readFrom_step hl
            have hl10 := HF.out.fp.2.2 l (List.mem_of_getElem? hl)
            obtain ⟨ll, hll⟩ : ∃ ll, l.length = ll := ⟨_, rfl⟩
            rw [hll] at hcl hl10
            have Hll := Lib.hid hll
            have Hst := Lib.hid hst
            have HO := Lib.hid hob
            have q1 : (t : Int) < (n2 : Int) := by omega
            have hnb3 : nb ≤ 1000 := by omega
            clear hcell hl hst hll hob ej hj0
            go_wp2_with (first | (at_builtin; go_loud (refine wpList_appI (by rfl) _ _ (by rfl) HO.out (by rfl) hrl Hll.out (by rfl) (by omega) (by omega) ?_)))
            intro a11 c11 w11 ho11 hg11
            have hB11 := hg11.below hB hbs (fun k hk => HO.out.1.lo k hk)
            rw [← Hst.out] at ho11
            have HO2 := Lib.hid ho11
            clear ho11 HO
            go_wp2
            go_roundw
            case rel => exact ⟨t, by omega, by go_num, ⟨_, _, _, rfl, by omega, HO2.out⟩, hB11⟩
            case measure => simp [intOf]
end Go.Proofs.Ytleehkgfoicmdaa
