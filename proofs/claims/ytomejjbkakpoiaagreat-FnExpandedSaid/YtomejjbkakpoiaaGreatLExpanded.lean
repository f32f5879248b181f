/-
  Law FnExpanded: for every input sums of classes are found again from their polynomials; products commute, and their numbers are never below 0. No condition.
-/
import Derived.Test.YtomejjbkakpoiaaGreatExpMul
import Derived.Test.YtomejjbkakpoiaaGreatDrawCls
import Derived.Test.YtomejjbkakpoiaaGreatBuE32
import Derived.Test.YtomejjbkakpoiaaGreatLawCls
namespace Go.Proofs.YtomejjbkakpoiaaGreat
open Go.RowKit

/-! the classes drawn -/
def smallPermG (n : Nat) (u : List Int) : Bool := backOk (u.take (trimLen u n)) && decide ((SMg (u.take (trimLen u n))).length ≤ 20) && decide (nrm (SMg (u.take (trimLen u n))) ≤ 100)
theorem smallPermG_all : ([1, 2, 3, 4].all fun n => (perms n).all (smallPermG n)) = true := by kernel_rfl
theorem drawnK_facts {p : List Int × Int} (h : DrawnK 9 p) : backOk p.1 = true ∧ GoodM 20 100 (SM p.1) := by
  obtain ⟨⟨n, u, h1, h4, hu, e⟩, _⟩ := h
  have h2 := List.all_eq_true.1 (List.all_eq_true.1 smallPermG_all n (by
    have hc : n = 1 ∨ n = 2 ∨ n = 3 ∨ n = 4 := by omega
    rcases hc with rfl | rfl | rfl | rfl <;> decide)) u hu
  unfold smallPermG at h2
  rw [← e] at h2
  simp only [Bool.and_eq_true, decide_eq_true_eq] at h2
  have hl : p.1.length ≤ 7 := by
    have := (perms_ok hu h1 (by omega)).1
    rw [e, List.length_take]
    omega
  exact ⟨h2.1.1, GoodM.of_list (SMg_same p.1).symm ((SM_bd hl).mono (by decide)) h2.1.2 h2.2⟩
theorem schOf_SM (p : List Int) : schOf p = SM p := rfl
theorem cls_good {L : List (List Int × Int)} (h : ∀ p ∈ L, DrawnK 9 p) : ∀ k, k ≤ L.length → GoodM (20 * k) (900 * k) (clsTo L k)
  | 0, _ => GoodM.nil
  | k + 1, hk => by
    have h1 := cls_good h k (by omega)
    have hp : partOf L k ∈ L := by
      have : L[k]? = some (partOf L k) := by rw [partOf, List.getD_eq_getElem?_getD, List.getElem?_eq_getElem (by omega)]; rfl
      exact List.mem_of_getElem? this
    have h2 := h _ hp
    have h3 := (drawnK_facts h2).2
    have h4 := h1.plus h3 (c := (partOf L k).2) (E := 9) (by have := h2.2; omega)
    rw [clsTo, schOf_SM]
    exact h4.mono (by omega) (by omega)
theorem cls_okp {L : List (List Int × Int)} (h : ∀ p ∈ L, DrawnK 9 p) (hl : L.length ≤ 3) : OKp (clsM L) :=
  (cls_good h L.length (Nat.le_refl _)).okp (by omega) (by omega)
structure ClsFacts (L : List (List Int × Int)) : Prop where
  t : clsT L = termsM (clsM L)
  ok : clsOk L = true
  e : expT (termsM (clsM L)) = L
  eok : expOk (termsM (clsM L)) = true
theorem clsFacts {L : List (List Int × Int)} (h : ∀ p ∈ L, DrawnK 9 p) (hl : L.length ≤ 3) (hc : classesOk L = true) : ClsFacts L := by
  have ho := cls_okp h hl
  obtain ⟨c1, c2⟩ := cls_yes hc
  obtain ⟨e1, e2⟩ := exp_back hc (fun p hp => (drawnK_facts (h p hp)).1) (Eqv.refl _) ho
  exact ⟨by rw [c1]; exact closedT_ok ho.ok, by rw [c2]; exact ho.ok, e1, e2⟩

theorem permG_low {n : Nat} {u : List Int} (h2 : 2 ≤ n) (h4 : n ≤ 4) (hu : u ∈ perms n) : 0 ≤ sumI (code u) ∧ sumI (code u) ≤ 100 := by
  have h := permG_of h2 h4 hu
  unfold permG at h
  simp only [Bool.and_eq_true, decide_eq_true_eq] at h
  exact ⟨h.2.1, h.2.2⟩
theorem terms_low (L : List (List Int × Int)) : Short_P (termsM (clsM L)) := fun p hp => by
  obtain ⟨k, hk⟩ := List.getElem?_of_mem hp
  obtain ⟨q, _, rfl⟩ := termsM_at hk
  show (digs q.1).length ≤ _
  simp [digs]
set_option maxRecDepth 100000 in
set_option maxHeartbeats 12800000 in
theorem lawExpanded_walk (w : World) (a : Option Addr) (n c : Nat) (xs : List Int) (hr : RB w a xs) (hn : xs.length = n) (hb : n ≤ 9223372036854775807) (hbs : Bytes xs) :
    Calls Tryz.prog 4 #[.slice a n c] w fun e w' => e = .returned (.bool true) ∧ Below w.heap.size w w' := by
  have Hn := Lib.hid hn; clear hn
  have Hbs := Lib.hid hbs; clear hbs
  by_cases hbig : 1048576 < n
  · have h1 := Lib.hid (show decide (1048576 < n) = true by simpa using hbig)
    go_enter Tryz.func4, Tryz.ntmps4
    go_wp2_with fail
    refine (is (big_any _ _ _ _ hb) h1.out).mono ?_
    rintro e w1 ⟨rfl, rfl⟩
    go_wp2
    go_ret
    exact ⟨rfl, Below.refl _ _⟩
  have h1 := Lib.hid (show decide (1048576 < n) = false by simpa using hbig)
  go_enter Tryz.func4, Tryz.ntmps4
  go_wp2_with fail
  refine (is (big_any _ _ _ _ hb) h1.out).mono ?_
  rintro e w1 ⟨rfl, rfl⟩
  go_wp2_with fail
  refine (drawCls_any _ _ _ xs _ hr Hn.out (by omega) Hbs.out).mono ?_
  rintro e w1 ⟨L, al, nl, cl, rfl, hol, hL, hB1⟩
  have HL := Lib.hid hL.out
  have hr1 := hr.below hB1
  have hnl : nl ≤ 3 := by rw [← hol.len]; exact HL.out.1
  have Hll := Lib.hid hol.len
  have hrl := hol.rd
  clear hol hL hr
  go_wp2_with fail
  refine (drawSmall_any _ _ _ xs _ hr1 Hn.out (by omega) Hbs.out).mono ?_
  rintro e w2 ⟨m, u, v, z0, au, cu, av, cv, az, cz, rfl, ⟨hm2, hm4⟩, hu, hv, hz, hou, hov, -, hB2⟩
  have hB12 := hB1.trans (hB2.mono hB1.size)
  have hrl2 := hrl.below hB2
  obtain ⟨hul, hup⟩ := perms_ok hu (by omega) (by omega)
  obtain ⟨hvl, hvp⟩ := perms_ok hv (by omega) (by omega)
  have HF := Lib.hid (mulFacts hm2 hm4 hu hv)
  have HG := Lib.hid (mulFacts hm2 hm4 hv hu)
  have Hcom := Lib.hid (mulComm hm2 hm4 hv hu)
  have Hgu := Lib.hid (permG_low hm2 hm4 hu)
  have Hgv := Lib.hid (permG_low hm2 hm4 hv)
  have Hul := Lib.hid hul
  have Hup := Lib.hid hup
  have Hvl := Lib.hid hvl
  have Hvp := Lib.hid hvp
  have hru2 := hou.rd
  have hrv2 := hov.rd
  have huc := hou.1.lt
  have hvc := hov.1.lt
  have hsh := Lib.hid (show Short_P L from fun p hp => by have := (HL.out.2 p hp).short; omega)
  clear hou hov hu hv hz hul hup hvl hvp hrl hB2 hr1 h1 hbig hB1
  go_wp2_with fail
  refine (implClsPoly_any _ _ _ L _ hrl2 Hll.out (by omega) hsh.out).mono ?_
  rintro e w3 ⟨a3, n3, c3, r3, rfl, ho3, hr3, hB3⟩
  have hB13 := hB12.trans (hB3.mono hB12.size)
  have hrl3 := hrl2.below hB3
  have hru3 := hru2.below hB3
  have hrv3 := hrv2.below hB3
  clear hrl2 hru2 hrv2 hB12 hB3
  cases hcl : classesOk L
  · have Hcl := Lib.hid hcl
    obtain rfl : r3 = false := by rw [hr3.out]; exact (cls_no hcl).2
    clear hcl hr3 ho3
    go_wp2_with fail
    refine (is (specClassesOk_any _ _ _ L _ hrl3 Hll.out (by omega) hsh.out) Hcl.out).mono ?_
    rintro e w4 ⟨rfl, hB4⟩
    have hBt := hB13.trans (hB4.mono hB13.size)
    have hrut := hru3.below hB4
    have hrvt := hrv3.below hB4
    clear hru3 hrv3 hB13 hB4 hrl3
    go_wp2_with fail
    refine (implMulPerms_any _ _ _ _ _ _ u v _ hrut hrvt Hul.out Hvl.out (by omega) (by omega) huc hvc).mono ?_
    rintro e wA ⟨aA, nA, cA, rA, rfl, hoA, hrA, hBA⟩
    obtain rfl : rA = true := by rw [hrA.out]; exact HF.out.ok
    rw [HF.out.eq] at hoA
    have hBtA := hBt.trans (hBA.mono hBt.size)
    have hruA := hrut.below hBA
    have hrvA := hrvt.below hBA
    have HoA := Lib.hid hoA.kn.rd
    have HlA := Lib.hid hoA.len
    clear hoA hrA hBt hrut hrvt hBA
    go_wp2_with fail
    refine (implMulPerms_any _ _ _ _ _ _ v u _ hrvA hruA Hvl.out Hul.out (by omega) (by omega) hvc huc).mono ?_
    rintro e wB ⟨aB, nB, cB, rB, rfl, hoB, hrB, hBB⟩
    obtain rfl : rB = true := by rw [hrB.out]; exact HG.out.ok
    rw [Hcom.out, HF.out.eq] at hoB
    have hBtB := hBtA.trans (hBB.mono hBtA.size)
    have hruB := hruA.below hBB
    have hrvB := hrvA.below hBB
    have HoA2 := Lib.hid (HoA.out.below hBB)
    have HoB := Lib.hid hoB.kn.rd
    have HlB := Lib.hid hoB.len
    clear hoB hrB hBtA hruA hrvA hBB HoA
    go_wp2_with fail
    refine (specMulPerms_any _ _ _ _ _ _ u v _ hruB hrvB Hul.out Hvl.out (by omega) (by omega) huc hvc).mono ?_
    rintro e wC ⟨aC, nC, cC, rC, rfl, hoC, hrC, hBC⟩
    obtain rfl : rC = true := by rw [hrC.out]; exact HF.out.ok
    have hBtC := hBtB.trans (hBC.mono hBtB.size)
    have hruC := hruB.below hBC
    have hrvC := hrvB.below hBC
    have HoA3 := Lib.hid (HoA2.out.below hBC)
    have HoB3 := Lib.hid (HoB.out.below hBC)
    have hEsh := Lib.hid (show ∀ p ∈ expL u v, p.1.length ≤ 1048576 from fun p hp => by have := ((isPerm_iff _).1 (HF.out.each p hp).2.1).2.1; omega)
    have hnA : nA ≤ 1048576 := by have h1 := HlA.out; rw [← HF.out.eq] at h1; rw [← h1]; exact mpT_len u v
    clear hoC hrC hBtB hruB hrvB hBC HoA2 HoB
    go_wp2_with fail
    refine (is (lawClasses_any _ _ _ _ _ _ (expL u v) (expL u v) _ HoA3.out HoB3.out HlA.out HlB.out hnA hEsh.out) (show decide (expL u v = expL u v) = true by simp)).mono ?_
    rintro e wD ⟨rfl, hdD⟩
    have hBD := hBtC.trans (hdD.below _)
    have hruD := hruC.below (hdD.below wC.heap.size)
    have hrvD := hrvC.below (hdD.below wC.heap.size)
    have HoD := Lib.hid (HoA3.out.below (hdD.below wC.heap.size))
    clear hdD hBtC hruC hrvC HoA3 HoB3
    go_wp2
    go_loopw [17] (fun iv wr => Hid (∃ i : Nat, iv = .int .i64 i ∧ i ≤ nA) ∧ Below wD.heap.size wD wr) (fun iv _ => nA - (intOf iv).toNat)
    case atStart => exact ⟨⟨0, rfl, Nat.zero_le _⟩, Below.refl _ _⟩
    case round =>
      obtain ⟨HV, hBr⟩ := hrel
      obtain ⟨wo, rfl⟩ : ∃ wo : World, wo = wr := ⟨_, rfl⟩
      obtain ⟨i, rfl, hi⟩ := HV.out
      clear HV
      by_cases hlt : i < nA
      · obtain ⟨s, y, hx1⟩ := part_at HlA.out hlt
        obtain ⟨bb, off, rfl, hcell⟩ := (HoD.out.below hBr).at (k := i) (by rw [HlA.out]; exact hlt)
        obtain ⟨a2, c2, p1, p2, hri, hcap⟩ := hcell i _ hx1
        obtain ⟨hy1, hsp, hsc⟩ := HF.out.each _ (List.mem_of_getElem? hx1)
        simp only at p1 p2 hri hcap hy1 hsp hsc
        obtain ⟨sl, hl⟩ : ∃ sl, s.length = sl := ⟨_, rfl⟩
        have hs7 := ((isPerm_iff _).1 hsp).2.1
        rw [hl] at p1 hcap hs7
        have Hl := Lib.hid hl
        have Hsp := Lib.hid hsp
        obtain ⟨lu, hlu⟩ : ∃ lu, sumI (code u) = lu := ⟨_, rfl⟩
        obtain ⟨lv, hlv⟩ : ∃ lv, sumI (code v) = lv := ⟨_, rfl⟩
        rw [hlu, hlv] at hsc
        have Hlu := Lib.hid hlu
        have Hlv := Lib.hid hlv
        have Hsc := Lib.hid hsc
        have hgu := Hgu.out
        have hgv := Hgv.out
        rw [hlu] at hgu
        rw [hlv] at hgv
        have q1 : (i : Int) < (nA : Int) := by omega
        have q2 : ¬ y < 1 := by omega
        have q3 : IntKind.i64.wrap (lu + lv) = lu + lv := IntWalk.i64_in _ (by omega)
        have hruo := hruD.below hBr
        have hrvo := hrvD.below hBr
        clear hcell hx1 hl hsp hlu hlv hsc
        go_wp2_with fail
        refine (isInt (lengthOf_any _ _ _ s _ hri Hl.out (by omega) hcap Hsp.out) Hsc.out).mono ?_
        rintro e wE ⟨rfl, hBE⟩
        have hruE := hruo.below hBE
        have hrvE := hrvo.below hBE
        have hBrE := hBr.trans (hBE.mono hBr.size)
        clear hruo hrvo hBE p1 p2 hri
        go_wp2_with fail
        refine (isInt (lengthOf_any _ _ _ u _ hruE Hul.out (by omega) huc Hup.out) Hlu.out).mono ?_
        rintro e wF ⟨rfl, hBF⟩
        have hrvF := hrvE.below hBF
        have hBrF := hBrE.trans (hBF.mono hBrE.size)
        clear hruE hrvE hBF hBrE
        go_wp2_with fail
        refine (isInt (lengthOf_any _ _ _ v _ hrvF Hvl.out (by omega) hvc Hvp.out) Hlv.out).mono ?_
        rintro e wG ⟨rfl, hBG⟩
        have hBrG := hBrF.trans (hBG.mono hBrF.size)
        clear hrvF hBG hBrF
        go_wp2
        go_roundw
        case rel => exact ⟨⟨i + 1, by go_num, by omega⟩, hBrG⟩
        case measure => simp [intOf]; omega
      · obtain rfl : i = nA := by omega
        have hBf := hBD.trans (hBr.mono hBD.size)
        go_wp2
        go_ret
        exact ⟨rfl, hBf⟩
  · have Hcl := Lib.hid hcl
    have HC := Lib.hid (clsFacts HL.out.2 HL.out.1 hcl)
    obtain rfl : r3 = true := by rw [hr3.out]; exact HC.out.ok
    rw [HC.out.t] at ho3
    have Ho3 := Lib.hid ho3
    have hn3 : n3 ≤ 600 := by rw [← ho3.len]; exact (cls_okp HL.out.2 HL.out.1).len
    clear hcl hr3 ho3
    go_wp2_with fail
    refine (is (specClassesOk_any _ _ _ L _ hrl3 Hll.out (by omega) hsh.out) Hcl.out).mono ?_
    rintro e w4 ⟨rfl, hB4⟩
    have hB14 := hB13.trans (hB4.mono hB13.size)
    have hru4 := hru3.below hB4
    have hrv4 := hrv3.below hB4
    have hrl4 := hrl3.below hB4
    have Ho4 := Lib.hid (Ho3.out.below hB4)
    clear hru3 hrv3 hB13 hB4 hrl3 Ho3
    go_wp2_with fail
    refine (implExp_any _ _ _ (termsM (clsM L)) _ Ho4.out.rd Ho4.out.len (by omega) (terms_low L)).mono ?_
    rintro e w5 ⟨a5, n5, c5, r5, rfl, ho5, hr5, hB5⟩
    obtain rfl : r5 = true := by rw [hr5.out]; exact HC.out.eok
    rw [HC.out.e] at ho5
    have hB15 := hB14.trans (hB5.mono hB14.size)
    have hru5 := hru4.below hB5
    have hrv5 := hrv4.below hB5
    have hrl5 := hrl4.below hB5
    have Ho5 := Lib.hid ho5.kn.rd
    have Hl5 := Lib.hid ho5.len
    have hn5 : n5 ≤ 3 := by rw [← ho5.len]; exact HL.out.1
    clear hru4 hrv4 hB14 hB5 hrl4 Ho4 ho5 hr5
    go_wp2_with fail
    refine (is (lawClasses_any _ _ _ _ _ _ L L _ Ho5.out hrl5 Hl5.out Hll.out (by omega) hsh.out) (show decide (L = L) = true by simp)).mono ?_
    rintro e w6 ⟨rfl, hd6⟩
    have hBt := hB15.trans (hd6.below _)
    have hrut := hru5.below (hd6.below w5.heap.size)
    have hrvt := hrv5.below (hd6.below w5.heap.size)
    clear hru5 hrv5 hB15 hd6 hrl5 Ho5
    go_wp2_with fail
    refine (implMulPerms_any _ _ _ _ _ _ u v _ hrut hrvt Hul.out Hvl.out (by omega) (by omega) huc hvc).mono ?_
    rintro e wA ⟨aA, nA, cA, rA, rfl, hoA, hrA, hBA⟩
    obtain rfl : rA = true := by rw [hrA.out]; exact HF.out.ok
    rw [HF.out.eq] at hoA
    have hBtA := hBt.trans (hBA.mono hBt.size)
    have hruA := hrut.below hBA
    have hrvA := hrvt.below hBA
    have HoA := Lib.hid hoA.kn.rd
    have HlA := Lib.hid hoA.len
    clear hoA hrA hBt hrut hrvt hBA
    go_wp2_with fail
    refine (implMulPerms_any _ _ _ _ _ _ v u _ hrvA hruA Hvl.out Hul.out (by omega) (by omega) hvc huc).mono ?_
    rintro e wB ⟨aB, nB, cB, rB, rfl, hoB, hrB, hBB⟩
    obtain rfl : rB = true := by rw [hrB.out]; exact HG.out.ok
    rw [Hcom.out, HF.out.eq] at hoB
    have hBtB := hBtA.trans (hBB.mono hBtA.size)
    have hruB := hruA.below hBB
    have hrvB := hrvA.below hBB
    have HoA2 := Lib.hid (HoA.out.below hBB)
    have HoB := Lib.hid hoB.kn.rd
    have HlB := Lib.hid hoB.len
    clear hoB hrB hBtA hruA hrvA hBB HoA
    go_wp2_with fail
    refine (specMulPerms_any _ _ _ _ _ _ u v _ hruB hrvB Hul.out Hvl.out (by omega) (by omega) huc hvc).mono ?_
    rintro e wC ⟨aC, nC, cC, rC, rfl, hoC, hrC, hBC⟩
    obtain rfl : rC = true := by rw [hrC.out]; exact HF.out.ok
    have hBtC := hBtB.trans (hBC.mono hBtB.size)
    have hruC := hruB.below hBC
    have hrvC := hrvB.below hBC
    have HoA3 := Lib.hid (HoA2.out.below hBC)
    have HoB3 := Lib.hid (HoB.out.below hBC)
    have hEsh := Lib.hid (show ∀ p ∈ expL u v, p.1.length ≤ 1048576 from fun p hp => by have := ((isPerm_iff _).1 (HF.out.each p hp).2.1).2.1; omega)
    have hnA : nA ≤ 1048576 := by have h1 := HlA.out; rw [← HF.out.eq] at h1; rw [← h1]; exact mpT_len u v
    clear hoC hrC hBtB hruB hrvB hBC HoA2 HoB
    go_wp2_with fail
    refine (is (lawClasses_any _ _ _ _ _ _ (expL u v) (expL u v) _ HoA3.out HoB3.out HlA.out HlB.out hnA hEsh.out) (show decide (expL u v = expL u v) = true by simp)).mono ?_
    rintro e wD ⟨rfl, hdD⟩
    have hBD := hBtC.trans (hdD.below _)
    have hruD := hruC.below (hdD.below wC.heap.size)
    have hrvD := hrvC.below (hdD.below wC.heap.size)
    have HoD := Lib.hid (HoA3.out.below (hdD.below wC.heap.size))
    clear hdD hBtC hruC hrvC HoA3 HoB3
    go_wp2
    go_loopw [17] (fun iv wr => Hid (∃ i : Nat, iv = .int .i64 i ∧ i ≤ nA) ∧ Below wD.heap.size wD wr) (fun iv _ => nA - (intOf iv).toNat)
    case atStart => exact ⟨⟨0, rfl, Nat.zero_le _⟩, Below.refl _ _⟩
    case round =>
      obtain ⟨HV, hBr⟩ := hrel
      obtain ⟨wo, rfl⟩ : ∃ wo : World, wo = wr := ⟨_, rfl⟩
      obtain ⟨i, rfl, hi⟩ := HV.out
      clear HV
      by_cases hlt : i < nA
      · obtain ⟨s, y, hx1⟩ := part_at HlA.out hlt
        obtain ⟨bb, off, rfl, hcell⟩ := (HoD.out.below hBr).at (k := i) (by rw [HlA.out]; exact hlt)
        obtain ⟨a2, c2, p1, p2, hri, hcap⟩ := hcell i _ hx1
        obtain ⟨hy1, hsp, hsc⟩ := HF.out.each _ (List.mem_of_getElem? hx1)
        simp only at p1 p2 hri hcap hy1 hsp hsc
        obtain ⟨sl, hl⟩ : ∃ sl, s.length = sl := ⟨_, rfl⟩
        have hs7 := ((isPerm_iff _).1 hsp).2.1
        rw [hl] at p1 hcap hs7
        have Hl := Lib.hid hl
        have Hsp := Lib.hid hsp
        obtain ⟨lu, hlu⟩ : ∃ lu, sumI (code u) = lu := ⟨_, rfl⟩
        obtain ⟨lv, hlv⟩ : ∃ lv, sumI (code v) = lv := ⟨_, rfl⟩
        rw [hlu, hlv] at hsc
        have Hlu := Lib.hid hlu
        have Hlv := Lib.hid hlv
        have Hsc := Lib.hid hsc
        have hgu := Hgu.out
        have hgv := Hgv.out
        rw [hlu] at hgu
        rw [hlv] at hgv
        have q1 : (i : Int) < (nA : Int) := by omega
        have q2 : ¬ y < 1 := by omega
        have q3 : IntKind.i64.wrap (lu + lv) = lu + lv := IntWalk.i64_in _ (by omega)
        have hruo := hruD.below hBr
        have hrvo := hrvD.below hBr
        clear hcell hx1 hl hsp hlu hlv hsc
        go_wp2_with fail
        refine (isInt (lengthOf_any _ _ _ s _ hri Hl.out (by omega) hcap Hsp.out) Hsc.out).mono ?_
        rintro e wE ⟨rfl, hBE⟩
        have hruE := hruo.below hBE
        have hrvE := hrvo.below hBE
        have hBrE := hBr.trans (hBE.mono hBr.size)
        clear hruo hrvo hBE p1 p2 hri
        go_wp2_with fail
        refine (isInt (lengthOf_any _ _ _ u _ hruE Hul.out (by omega) huc Hup.out) Hlu.out).mono ?_
        rintro e wF ⟨rfl, hBF⟩
        have hrvF := hrvE.below hBF
        have hBrF := hBrE.trans (hBF.mono hBrE.size)
        clear hruE hrvE hBF hBrE
        go_wp2_with fail
        refine (isInt (lengthOf_any _ _ _ v _ hrvF Hvl.out (by omega) hvc Hvp.out) Hlv.out).mono ?_
        rintro e wG ⟨rfl, hBG⟩
        have hBrG := hBrF.trans (hBG.mono hBrF.size)
        clear hrvF hBG hBrF
        go_wp2
        go_roundw
        case rel => exact ⟨⟨i + 1, by go_num, by omega⟩, hBrG⟩
        case measure => simp [intOf]; omega
      · obtain rfl : i = nA := by omega
        have hBf := hBD.trans (hBr.mono hBD.size)
        go_wp2
        go_ret
        exact ⟨rfl, hBf⟩
end Go.Proofs.YtomejjbkakpoiaaGreat
