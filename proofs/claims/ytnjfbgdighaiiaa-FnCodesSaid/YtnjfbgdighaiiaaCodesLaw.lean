/-
  Law FnCodes: for every input a permutation is found from its code, the code adds up to its length, rows and columns of its diagram are the codes of it and of its inverse. No condition.
-/
import Derived.Test.YtnjfbgdighaiiaaDrawTwo2
import Derived.Test.YtnjfbgdighaiiaaLawInts
import Derived.Test.YtnjfbgdighaiiaaSumLaws
import Derived.Test.YtnjfbgdighaiiaaDiagram
import Derived.Test.YtnjfbgdighaiiaaPermOfCode
import Derived.Test.YtnjfbgdighaiiaaLength
namespace Go.Proofs.Ytnjfbgdighaiiaa
open Go.RowKit

/-- how often each number stands among the first k -/
def tal (n : Nat) (l : List Int) : Nat → List Int
  | 0 => List.replicate n 0
  | k + 1 => (tal n l k).set (l.getD k 0).toNat ((tal n l k).getD (l.getD k 0).toNat 0 + 1)
theorem tal_length (n : Nat) (l : List Int) (k : Nat) : (tal n l k).length = n := by
  induction k with
  | zero => simp [tal]
  | succ k ih => simp [tal, ih]
def lefts (l : List (Int × Int)) : List Int := l.map fun p => p.1
def rights (l : List (Int × Int)) : List Int := l.map fun p => p.2
def within (n : Nat) (l : List Int) : Bool := l.all fun x => decide (0 ≤ x) && decide (x < (n : Int))
def lows (l : List Int) : Bool := l.all fun x => decide (0 ≤ x) && decide (x ≤ 1000)
def codesLaw (n : Nat) (u : List Int) : Bool :=
  decide ((poc n (code u) n).2 = u) && ((List.range n).all fun k => decide (0 ≤ (code u).getD k 0) && decide ((code u).getD k 0 < (n : Int) - k))
  && decide (((diagram u).length : Int) = sumI (code u)) && decide ((diagram u).length ≤ 100)
  && within n (lefts (diagram u)) && within n (rights (diagram u)) && within n u && within n (inv u)
  && ((List.range ((diagram u).length + 1)).all fun k => lows (tal n (lefts (diagram u)) k) && lows (tal n (rights (diagram u)) k))
  && decide (tal n (lefts (diagram u)) (diagram u).length = code u) && decide (tal n (rights (diagram u)) (diagram u).length = code (inv u))
  && isPerm (inv u) && decide ((inv u).length = n) && decide ((code u).length = n) && decide ((code (inv u)).length = n)
set_option maxRecDepth 100000 in
theorem codesLaw_all : ([1, 2, 3, 4, 5].all fun n => (perms n).all (codesLaw n)) = true := by kernel_rfl
theorem codesLaw_of {n : Nat} {u : List Int} (h1 : 1 ≤ n) (h5 : n ≤ 5) (hu : u ∈ perms n) : codesLaw n u = true := by
  have h2 := codesLaw_all
  rw [List.all_eq_true] at h2
  have h3 := h2 n (by simp; omega)
  rw [List.all_eq_true] at h3
  exact h3 u hu
theorem within_of {n : Nat} {l : List Int} (h : within n l = true) : ∀ x ∈ l, 0 ≤ x ∧ x < (n : Int) := by
  intro x hx
  unfold within at h
  rw [List.all_eq_true] at h
  simpa using h x hx
theorem lows_of {l : List Int} (h : lows l = true) : ∀ x ∈ l, 0 ≤ x ∧ x ≤ 1000 := by
  intro x hx
  unfold lows at h
  rw [List.all_eq_true] at h
  simpa using h x hx
structure CodesFacts (n : Nat) (u c iv ci : List Int) (ds : List (Int × Int)) (d : Nat) : Prop where
  e1 : code u = c
  e2 : diagram u = ds
  e3 : inv u = iv
  e4 : code iv = ci
  ed : ds.length = d
  dec : (poc n c n).2 = u
  rng : ∀ (k : Nat) (x : Int), c[k]? = some x → 0 ≤ x ∧ x < (n : Int) - k
  sum : sumI c = (d : Int)
  small : d ≤ 100
  lefts : ∀ x ∈ lefts ds, 0 ≤ x ∧ x < (n : Int)
  rights : ∀ x ∈ rights ds, 0 ≤ x ∧ x < (n : Int)
  inu : ∀ x ∈ u, 0 ≤ x ∧ x < (n : Int)
  inv : ∀ x ∈ iv, 0 ≤ x ∧ x < (n : Int)
  low1 : ∀ k, k ≤ d → ∀ x ∈ tal n (Go.Proofs.Ytnjfbgdighaiiaa.lefts ds) k, 0 ≤ x ∧ x ≤ 1000
  low2 : ∀ k, k ≤ d → ∀ x ∈ tal n (Go.Proofs.Ytnjfbgdighaiiaa.rights ds) k, 0 ≤ x ∧ x ≤ 1000
  rows : tal n (Go.Proofs.Ytnjfbgdighaiiaa.lefts ds) d = c
  cols : tal n (Go.Proofs.Ytnjfbgdighaiiaa.rights ds) d = ci
  ivp : isPerm iv = true
  ivl : iv.length = n
  cl : c.length = n
  cil : ci.length = n
theorem codesFacts {n : Nat} {u : List Int} (h1 : 1 ≤ n) (h5 : n ≤ 5) (hu : u ∈ perms n) : ∃ c iv ci ds d, CodesFacts n u c iv ci ds d := by
  have h := codesLaw_of h1 h5 hu
  unfold codesLaw at h
  simp only [Bool.and_eq_true, decide_eq_true_eq] at h
  obtain ⟨⟨⟨⟨⟨⟨⟨⟨⟨⟨⟨⟨⟨⟨a1, a2⟩, a3⟩, a4⟩, a5⟩, a6⟩, a7⟩, a8⟩, a9⟩, a10⟩, a11⟩, a12⟩, a13⟩, a14⟩, a15⟩ := h
  rw [List.all_eq_true] at a2 a9
  have h9 : ∀ k, k ≤ (diagram u).length → lows (tal n (Go.Proofs.Ytnjfbgdighaiiaa.lefts (diagram u)) k) = true ∧ lows (tal n (Go.Proofs.Ytnjfbgdighaiiaa.rights (diagram u)) k) = true := by
    intro k hk
    have := a9 k (by rw [List.mem_range]; omega)
    rw [Bool.and_eq_true] at this
    exact this
  refine ⟨_, _, _, _, _, rfl, rfl, rfl, rfl, rfl, a1, fun k x hk => ?_, a3.symm, a4, within_of a5, within_of a6, within_of a7, within_of a8, fun k hk => lows_of (h9 k hk).1, fun k hk => lows_of (h9 k hk).2, a10, a11, a12, a13, a14, a15⟩
  have hkn : k < n := by have := (List.getElem?_eq_some_iff.1 hk).1; omega
  have := a2 k (by rw [List.mem_range]; exact hkn)
  simp only [Bool.and_eq_true, decide_eq_true_eq] at this
  rw [getD_of hk] at this
  exact this
theorem lefts_at {ds : List (Int × Int)} {k : Nat} {p : Int × Int} (h : ds[k]? = some p) : (lefts ds)[k]? = some p.1 := by simp [lefts, h]
theorem rights_at {ds : List (Int × Int)} {k : Nat} {p : Int × Int} (h : ds[k]? = some p) : (rights ds)[k]? = some p.2 := by simp [rights, h]
theorem tal_step {n : Nat} {l : List Int} {k t : Nat} {v : Int} (h : l[k]? = some (t : Int)) (hv : (tal n l k)[t]? = some v) : (tal n l k).set t (v + 1) = tal n l (k + 1) := by
  rw [tal, getD_of h, Int.toNat_natCast, getD_of hv]

set_option maxRecDepth 100000 in
set_option maxHeartbeats 3200000 in
theorem lawCodes_walk (w : World) (a : Option Addr) (n c : Nat) (xs : List Int) (hr : RB w a xs) (hn : xs.length = n) (hb : n ≤ 9223372036854775807) (hbs : Bytes xs) :
    Calls Try.prog 5 #[.slice a n c] w fun e w' => e = .returned (.bool true) ∧ Below w.heap.size w w' := by
  have Hn := Lib.hid hn; clear hn
  have Hbs := Lib.hid hbs; clear hbs
  by_cases hbig : 1048576 < n
  · have h1 := Lib.hid (show decide (1048576 < n) = true by simpa using hbig)
    go_enter Try.func5, Try.ntmps5
    go_wp2_with fail
    refine (is (big_any _ _ _ _ hb) h1.out).mono ?_
    rintro e w1 ⟨rfl, rfl⟩
    go_wp2
    go_ret
    exact ⟨rfl, Below.refl _ _⟩
  · have h1 := Lib.hid (show decide (1048576 < n) = false by simpa using hbig)
    obtain ⟨i0, hi, hz0, hz1, hz2⟩ := info_parts Try.info3
    go_enter Try.func5, Try.ntmps5
    go_wp2_with fail
    refine (is (big_any _ _ _ _ hb) h1.out).mono ?_
    rintro e w1 ⟨rfl, rfl⟩
    go_wp2_with fail
    refine (drawTwo_any _ _ _ xs _ hr Hn.out (by omega) Hbs.out).mono ?_
    rintro e w1 ⟨m, u, v, au, cu, av, cv, rfl, ⟨hm1, hm5⟩, hu, hv, hou, -, hB1⟩
    obtain ⟨cs, iv, ci, ds, d, hF⟩ := codesFacts hm1 hm5 hu
    obtain ⟨hul, hup⟩ := perms_ok hu hm1 hm5
    have HF := Lib.hid hF
    have Hul := Lib.hid hul
    have Hup := Lib.hid hup
    clear hu hv hF hul hup hr h1 hbig
    have hru := hou.rd
    have huc := hou.1.lt
    clear hou
    go_wp2_with fail
    refine (codeOf_any _ _ _ u _ hru Hul.out (by omega) huc).mono ?_
    rintro e w2 ⟨a2, n2, c2, rfl, ho2, hB2⟩
    rw [codeOf_ok Hup.out, HF.out.e1] at ho2
    obtain rfl : n2 = m := by rw [← ho2.len]; exact HF.out.cl
    have hrc := ho2.rd
    have hru2 := hru.below hB2
    have hB2' := hB1.trans (hB2.mono hB1.size)
    clear ho2 hru hB1 hB2
    go_wp2_with fail
    refine (implDiagram_any _ _ _ u _ hru2 Hul.out (by omega) Hup.out HF.out.inu).mono ?_
    rintro e w3 ⟨a3, n3, c3, rfl, ho3, hB3⟩
    rw [HF.out.e2] at ho3
    obtain rfl : n3 = d := by rw [← ho3.len]; exact HF.out.ed
    have hd100 := HF.out.small
    have hrd := ho3.rd
    have hrc3 := hrc.below hB3
    have hru3 := hru2.below hB3
    have hB3' := hB2'.trans (hB3.mono hB2'.size)
    clear ho3 hrc hru2 hB2' hB3
    go_wp2_with fail
    refine (permOfCode_any _ _ _ cs _ hrc3 HF.out.cl ⟨hm1, by omega⟩ HF.out.rng).mono ?_
    rintro e w4 ⟨a4, c4, rfl, ho4, hB4⟩
    rw [HF.out.dec] at ho4
    have hrp := ho4.rd
    have hrd4 := hrd.below hB4
    have hrc4 := hrc3.below hB4
    have hru4 := hru3.below hB4
    have hB4' := hB3'.trans (hB4.mono hB3'.size)
    clear ho4 hrd hrc3 hru3 hB3' hB4
    go_wp2_with fail
    refine (is (ints_any _ _ _ _ _ _ u u _ hrp hru4 Hul.out Hul.out (by omega)) (by simp : _ = true)).mono ?_
    rintro e w5 ⟨rfl, hd5⟩
    have hrd5 := hrd4.below (hd5.below _)
    have hrc5 := hrc4.below (hd5.below _)
    have hru5 := hru4.below (hd5.below _)
    have hB5 := hB4'.trans (hd5.below _)
    have hsm : Small cs := by rw [← HF.out.e1]; exact small_code (by rw [Hul.out]; omega)
    have HS := Lib.hid hsm
    clear hrp hrd4 hrc4 hru4 hB4' hsm hd5
    go_wp2_with fail
    refine (isInt (sumLaws_any _ _ _ cs _ hrc5 HF.out.cl (by omega) HS.out) HF.out.sum).mono ?_
    rintro e w6 ⟨rfl, rfl⟩
    go_wp2_with fail
    refine (isInt (lengthOf_any _ _ _ u _ hru5 Hul.out (by omega) huc Hup.out) (show sumI (code u) = (n3 : Int) by rw [HF.out.e1]; exact HF.out.sum)).mono ?_
    rintro e w7 ⟨rfl, hB7⟩
    have hrd7 := hrd5.below hB7
    have hrc7 := hrc5.below hB7
    have hru7 := hru5.below hB7
    have hB7' := hB5.trans (hB7.mono hB5.size)
    have e1 : ((n3 : Int) != (n3 : Int)) = false := by simp
    clear hrd5 hrc5 hru5 hB5 hB7
    go_wp2_with fail
    refine (isInt (sumLaws_any _ _ _ cs _ hrc7 HF.out.cl (by omega) HS.out) HF.out.sum).mono ?_
    rintro e w8 ⟨rfl, rfl⟩
    go_wp2_with (first | (at_make; refine wpList_make_full _ rfl _ _ 22 rfl w7.heap.size 3 i0 (.int .i64 0) 1 Try.underlying22 hi hz0 hz1 .i64 .i64 _ _ n2 rfl rfl ?m1 ?m2 ?m3 ?m4 ?m5 ?_))
    case m1 => rfl
    case m2 => rfl
    case m3 => rw [hz2]; omega
    case m4 => unfold maxLen; omega
    case m5 => exact Nat.le_refl _
    intro w9 hown9 hg9
    have hB9 : Below w7.heap.size w7 w9 := (Below.refl _ _).grown hg9 (Nat.le_refl _) (by simp)
    have hrow9 : OwI w9 w7.heap.size w9.heap.size (some ⟨w7.heap.size, 0, none⟩) n2 n2 (tal n2 (lefts ds) 0) := by
      have e := toList_madeCells_one (.int .i64 0) n2
      exact OwI.mk (by simpa [ints, Value.cells, e, tal] using hown9)
    have hz9 := hB9.size
    clear hown9 hg9
    go_wp2_with (first | (at_make; refine wpList_make_full _ rfl _ _ 22 rfl w9.heap.size 3 i0 (.int .i64 0) 1 Try.underlying22 hi hz0 hz1 .i64 .i64 _ _ n2 rfl rfl ?m1 ?m2 ?m3 ?m4 ?m5 ?_))
    case m1 => rfl
    case m2 => rfl
    case m3 => rw [hz2]; omega
    case m4 => unfold maxLen; omega
    case m5 => exact Nat.le_refl _
    intro wA hownA hgA
    have hBA : Below w9.heap.size w9 wA := (Below.refl _ _).grown hgA (Nat.le_refl _) (by simp)
    have hrowA : OwI wA w9.heap.size wA.heap.size (some ⟨w9.heap.size, 0, none⟩) n2 n2 (tal n2 (rights ds) 0) := by
      have e := toList_madeCells_one (.int .i64 0) n2
      exact OwI.mk (by simpa [ints, Value.cells, e, tal] using hownA)
    have hzA := hBA.size
    have hrow9A := hrow9.below hBA
    have hB79 := hB9.trans (hBA.mono hz9)
    have H9 := Lib.hid hrow9A
    have HA := Lib.hid hrowA
    obtain ⟨S9, hS9⟩ : ∃ S, w9.heap.size = S := ⟨_, rfl⟩
    obtain ⟨SA, hSA⟩ : ∃ S, wA.heap.size = S := ⟨_, rfl⟩
    rw [hS9] at H9 HA hzA ⊢
    rw [hSA] at HA hzA
    rw [hS9] at hz9
    have HSA := Lib.hid hSA
    clear hownA hgA hrow9 hrow9A hrowA hBA hB9 hS9 hSA
    go_wp2
    go_loopw [9] (fun i wr => Hid (∃ k : Nat, k ≤ n3 ∧ i = .int .i64 k ∧ OwI wr w7.heap.size S9 (some ⟨w7.heap.size, 0, none⟩) n2 n2 (tal n2 (lefts ds) k) ∧ OwI wr S9 SA (some ⟨S9, 0, none⟩) n2 n2 (tal n2 (rights ds) k)) ∧ Below w7.heap.size w7 wr) (fun i _ => n3 - (intOf i).toNat)
    case atStart => exact ⟨⟨0, Nat.zero_le _, rfl, H9.out, HA.out⟩, hB79⟩
    case round =>
      clear H9 HA hB79 HSA
      obtain ⟨HV, hB⟩ := hrel
      obtain ⟨wo, rfl⟩ : ∃ wo : World, wo = wr := ⟨_, rfl⟩
      obtain ⟨k, hk, rfl, hr1, hr2⟩ := HV.out
      clear HV
      have hbs := hB.size
      by_cases hlt : k < n3
      · obtain ⟨b, off, rfl, hcell⟩ := (hrd7.below hB).at (k := k) (by rw [HF.out.ed]; exact hlt)
        obtain ⟨p0, q0, hx⟩ := pair_at HF.out.ed hlt
        obtain ⟨hcp, hcq⟩ := hcell k _ hx
        obtain ⟨b', off', eb, hcell7⟩ := hrd7.at (k := k) (by rw [HF.out.ed]; exact hlt)
        have hblt : b' < w7.heap.size := World.block_lt_of_cell? w7 _ (hcell7 k _ hx).1
        simp only [Option.some.injEq, Addr.mk.injEq, and_true] at eb
        have eb1 := eb.1
        have hbne : b ≠ w7.heap.size := by omega
        have hbne2 : w7.heap.size ≠ b := by omega
        clear eb eb1 hblt hcell7
        have hp := HF.out.lefts p0 (List.mem_of_getElem? (lefts_at hx))
        have hq := HF.out.rights q0 (List.mem_of_getElem? (rights_at hx))
        obtain ⟨p, rfl⟩ : ∃ p : Nat, p0 = p := ⟨p0.toNat, by omega⟩
        obtain ⟨q, rfl⟩ : ∃ q : Nat, q0 = q := ⟨q0.toNat, by omega⟩
        simp only at hcp hcq
        have hpn : p < n2 := by omega
        have hqn : q < n2 := by omega
        obtain ⟨g1, e1', _, ⟨x1, hx1, hc1⟩, hf1⟩ := OI.cons hr1.1 hpn
        obtain rfl : w7.heap.size = g1 := by simpa using e1'
        obtain ⟨g2, e2', _, ⟨x2, hx2, hc2⟩, hf2⟩ := OI.cons hr2.1 hqn
        obtain rfl : S9 = g2 := by simpa using e2'
        have hb1 := HF.out.low1 k hk x1 (List.mem_of_getElem? hx1)
        have hb2 := HF.out.low2 k hk x2 (List.mem_of_getElem? hx2)
        have hst1 := tal_step (lefts_at hx) hx1
        have hst2 := tal_step (rights_at hx) hx2
        have s1 := hr1.1.store p (x1 + 1)
        rw [hst1] at s1
        have hO1 : Only w7.heap.size S9 wo _ := Only.of_grown (v := .slice (some ⟨w7.heap.size, 0, none⟩) n2 n2) s1.2 hr1.1.lo hr1.2
        have hr2' := hr2.only hO1 (.inr (Nat.le_refl _))
        have s2 := hr2'.1.store q (x2 + 1)
        rw [hst2] at s2
        have hO2 : Only S9 SA _ _ := Only.of_grown (v := .slice (some ⟨S9, 0, none⟩) n2 n2) s2.2 hr2'.1.lo hr2'.2
        have hr1' : OwI _ w7.heap.size S9 (some ⟨w7.heap.size, 0, none⟩) n2 n2 (tal n2 (lefts ds) (k + 1)) := ⟨s1.1, hr1.2⟩
        have hr1'' := hr1'.only hO2 (.inl (Nat.le_refl _))
        have hr2'' : OwI _ S9 SA (some ⟨S9, 0, none⟩) n2 n2 (tal n2 (rights ds) (k + 1)) := ⟨s2.1, hr2'.2⟩
        have hBf := hO2.below (hO1.below hB (Nat.le_refl _) hbs) hz9 (by have := hO1.size; omega)
        have HR1 := Lib.hid hr1''
        have HR2 := Lib.hid hr2''
        have HB := Lib.hid hBf
        have hpI : (p : Int) < (n2 : Int) := by omega
        have hqI : (q : Int) < (n2 : Int) := by omega
        have hkI : (k : Int) < (n3 : Int) := by omega
        have hne : w7.heap.size ≠ S9 := by
          have := hr1.2 w7.heap.size rfl
          omega
        clear hcell hx hst1 hst2 s1 s2 hO1 hO2 hr1' hr1'' hr2' hr2'' hBf hx1 hx2 e1' e2' hp hq hr1 hr2
        go_wp2
        go_roundw
        case rel => exact ⟨⟨k + 1, by omega, by go_num, HR1.out, HR2.out⟩, HB.out⟩
        case measure => simp [intOf]; omega
      · obtain rfl : k = n3 := by omega
        rw [HF.out.rows] at hr1
        rw [HF.out.cols] at hr2
        have hrc9 := hrc7.below hB
        have hru9 := hru7.below hB
        have hBx := hB7'.trans (hB.mono hB7'.size)
        have hra := hr1.rd
        have hrb := hr2.rd
        clear hr1 hr2 hrc7 hru7 hrd7 hB7' hB
        go_wp2_with fail
        refine (is (ints_any _ _ _ _ _ _ cs cs _ hra hrc9 HF.out.cl HF.out.cl (by omega)) (by simp : _ = true)).mono ?_
        rintro e wb ⟨rfl, hdb⟩
        have hrb2 := hrb.below (hdb.below _)
        have hru10 := hru9.below (hdb.below _)
        have hBy := hBx.trans (hdb.below _)
        clear hra hrb hrc9 hru9 hBx hdb
        go_wp2_with fail
        refine (implInverse_any _ _ _ u _ hru10 Hul.out (by omega) Hup.out HF.out.inu).mono ?_
        rintro e wc ⟨ac, cc, rfl, hoc, hBc⟩
        rw [HF.out.e3] at hoc
        have hrb3 := hrb2.below hBc
        have hBz := hBy.trans (hBc.mono hBy.size)
        clear hrb2 hru10 hBy hBc
        go_wp2_with fail
        refine (codeOf_any _ _ _ iv _ hoc.rd HF.out.ivl (by omega) hoc.1.lt).mono ?_
        rintro e wd ⟨ad, nd, cd, rfl, hod, hBd⟩
        rw [codeOf_ok HF.out.ivp, HF.out.e4] at hod
        obtain rfl : nd = n2 := by rw [← hod.len]; exact HF.out.cil
        have hrb4 := hrb3.below hBd
        have hBw := hBz.trans (hBd.mono hBz.size)
        have hrd' := hod.rd
        clear hoc hod hrb3 hBz hBd
        go_wp2_with fail
        refine (is (ints_any _ _ _ _ _ _ ci ci _ hrb4 hrd' HF.out.cil HF.out.cil (by omega)) (by simp : _ = true)).mono ?_
        rintro e we ⟨rfl, hde⟩
        have hBv := hBw.trans (hde.below _)
        go_wp2
        go_ret
        exact ⟨rfl, hBv⟩
end Go.Proofs.Ytnjfbgdighaiiaa
