/-
  ExpandPoly of the reference.
-/
import Derived.Test.YtocgcgmlemoekaaExpImpl
import Derived.Test.YtocgcgmlemoekaaL3Add
import Derived.Deep.RegionHeld3
namespace Go.Proofs.Ytocgcgmlemoekaa
open Go.RowKit

theorem polyOk_desc {xs : List (List Int × Int)} (h : polyOk xs = true) : ∀ (d i : Nat), i + d + 1 < xs.length → keyL (termOf xs (i + d + 1)).1 < keyL (termOf xs i).1 := by
  have step : ∀ i, i + 1 < xs.length → keyL (termOf xs (i + 1)).1 < keyL (termOf xs i).1 := by
    intro i hi
    unfold polyOk at h
    simp only [Bool.and_eq_true, decide_eq_true_eq, List.all_eq_true, List.mem_range] at h
    have := h.2 (i + 1) hi
    unfold termAt at this
    simp only [Bool.and_eq_true, Bool.or_eq_true, decide_eq_true_eq, Nat.add_sub_cancel] at this
    rcases this.2 with h2 | h2
    · simp at h2
    · exact h2
  intro d
  induction d with
  | zero => intro i hi; exact step i hi
  | succ d ih =>
    intro i hi
    have h1 := ih i (by omega)
    have h2 := step (i + d + 1) (by omega)
    have e : i + (d + 1) + 1 = i + d + 1 + 1 := by omega
    rw [e]
    omega
theorem canon_monsOf {xs : List (List Int × Int)} (h : polyOk xs = true) : canon (monsOf xs) = monsOf xs := by
  refine (canon_unique ?_ ?_ (Eqv.refl _)).symm
  · unfold monsOf
    rw [List.pairwise_map, List.pairwise_iff_getElem]
    intro i j hi hj hij
    have := polyOk_desc h (j - i - 1) i (by omega)
    have e : i + (j - i - 1) + 1 = j := by omega
    rw [e, termOf_at (List.getElem?_eq_getElem hi), termOf_at (List.getElem?_eq_getElem hj)] at this
    exact this
  · intro p hp
    obtain ⟨q, hq, rfl⟩ := List.mem_map.1 hp
    obtain ⟨k, hk⟩ := List.getElem?_of_mem hq
    obtain ⟨s, c⟩ := q
    have := polyOk_each h hk
    simp only
    omega
def exS (F : Mons) : List (List Int × Int) := match exTo 101 F [] with | some L => sortK L | none => []
def exB (F : Mons) : Bool := match exTo 101 F [] with | some L => classesOk (sortK L) | none => false
theorem exS_some {F : Mons} {L : List (List Int × Int)} (h : exTo 101 F [] = some L) : exS F = sortK L ∧ exB F = classesOk (sortK L) := by unfold exS exB; rw [h]; exact ⟨rfl, rfl⟩
theorem exS_none {F : Mons} (h : exTo 101 F [] = none) : exS F = [] ∧ exB F = false := by unfold exS exB; rw [h]; exact ⟨rfl, rfl⟩
theorem exS_exp {xs : List (List Int × Int)} (h : polyOk xs = true) : (exB (monsOf xs) = true → expT xs = exS (monsOf xs) ∧ expOk xs = true) ∧ (exB (monsOf xs) = false → expT xs = [] ∧ expOk xs = false) := by
  have e : exM (monsOf xs) = exTo 101 (monsOf xs) [] := by unfold exM; rw [canon_monsOf h]
  cases ho : exTo 101 (monsOf xs) [] with
  | none =>
    have h1 := exS_none ho
    have h2 := exp_none (xs := xs) (e.trans ho)
    rw [h1.1, h1.2]
    exact ⟨fun h => (by cases h), fun _ => h2⟩
  | some L =>
    have h1 := exS_some ho
    have h2 := exp_some h (e.trans ho)
    rw [h1.1, h1.2]
    exact h2
/-- classes readable in the call's blocks, and whether they are fine -/
def PostN (w : World) (T : List (List Int × Int)) (ok : Bool) (e : Ending) (w' : World) : Prop :=
  ∃ a' n' c' r, e = .returned (.tuple #[.slice a' n' c', .bool r]) ∧ KN w' w.heap.size w'.heap.size a' n' c' T ∧ Hid (r = ok) ∧ Below w.heap.size w w'
theorem exNext_len (F : Mons) (k c : Int) (hs : stOk k = true) : (exNext F k c).length ≤ F.length + 5040 := by
  have hb7 : B7 (schM (tOf k) (tOf k).length) := sch_b7 _ (tOf_bound hs).2 rfl
  have h1 : exNext F k c = canon (plusM F (-c) (canon (schM (tOf k) (tOf k).length))) := canon_eqv (plusM_eqv (Eqv.refl F) (canon_self _).symm)
  rw [h1]
  refine Nat.le_trans (canon_le _) ?_
  unfold plusM scaleM
  rw [List.length_append, List.length_map]
  have := hb7.count
  omega
theorem exNext_canon {F : Mons} {k c c' : Int} {p : List Int} {m : Nat} (hc : c' = wrap64 (-c)) (hp : p = pOf k) (hm : m = 7) (hs : stOk k = true) : canon (plusM F c' (canon (schM (p.take (trimLen p m)) (trimLen p m)))) = exNext F k c := by
  subst hc hp hm
  have e : schM ((pOf k).take (trimLen (pOf k) 7)) (trimLen (pOf k) 7) = schM (tOf k) (tOf k).length := by rw [tOf_length hs]; rfl
  rw [e]
  exact canon_eqv ((plusM_eqv (Eqv.refl F) (canon_self _)).trans (plus_wrap F (-c) _))
theorem stOk_of {k : Int} (h : ∀ j : Nat, j < 7 → dig k j ≤ 6 - (j : Int)) : stOk k = true := by
  unfold stOk
  rw [List.all_eq_true]
  intro j hj
  have := h j (List.mem_range.1 hj)
  simpa using this
theorem stOk_bad {k : Int} {j : Nat} (hj : j < 7) (h : ¬ dig k j ≤ 6 - (j : Int)) : stOk k = false := by
  unfold stOk
  rw [List.all_eq_false]
  exact ⟨j, List.mem_range.2 hj, by simpa using h⟩

set_option maxRecDepth 100000 in
set_option maxHeartbeats 6400000 in
theorem l3Expand_post (B0 S0 : Nat) (a : Option Addr) (n c : Nat) (F0 : Mons) (w : World) (hM : MO w B0 S0 a n c F0) (hn : n ≤ 600) (hI0 : ExInv F0 []) :
    Calls Try.prog 98 #[.slice a n c] w (PostN w (exS F0) (exB F0)) := by
  have hBa : Below w.heap.size w (w.alloc (.cells #[] 101)) := (Below.refl _ _).alloc (Nat.le_refl _) _
  have HM0 := Lib.hid (hM.below hBa)
  have HK0 := Lib.hid (KN.made w)
  have HI0 := Lib.hid hI0
  have Hl0 := Lib.hid hM.len
  clear hM hI0
  go_enter Try.func98, Try.ntmps98
  go_wp2
  go_loopw [0, 4] (fun fv ov wr => Hid (∃ (F : Mons) (CL : List (List Int × Int)) (A1 S1 : Nat) (a0 : Option Addr) (n0 c0 : Nat) (a1 : Option Addr) (m c1 : Nat), fv = .slice a0 n0 c0 ∧ ov = .slice a1 m c1 ∧ m ≤ 100 ∧ n0 ≤ 600 + m * 5040 ∧ MO wr A1 S1 a0 n0 c0 F ∧ KN wr w.heap.size wr.heap.size a1 m c1 (sortK CL) ∧ CL.length = m ∧ ExInv F CL ∧ exTo 101 F0 [] = exTo (101 - m) F CL) ∧ Below w.heap.size w wr) (fun _ ov _ => 101 - lenOf ov)
  case atStart => exact ⟨⟨F0, [], _, _, _, _, _, _, 0, _, rfl, rfl, by omega, by omega, HM0.out, HK0.out, rfl, HI0.out, rfl⟩, hBa⟩
  case round =>
    clear HM0 HK0 hBa HI0
    obtain ⟨HV, hB⟩ := hrel
    obtain ⟨wo, rfl⟩ : ∃ wo : World, wo = wr := ⟨_, rfl⟩
    obtain ⟨F, CL, A1, S1, a0, n0, c0, a1, m, c1, rfl, rfl, hm, hn0, hM, hK, hcl, hI, hex⟩ := HV.out
    clear HV
    obtain ⟨f, hf⟩ : ∃ f, 101 - m = f + 1 := ⟨100 - m, by omega⟩
    have HI := Lib.hid hI
    have Hex := Lib.hid hex
    rw [hf] at Hex
    have Hcl := Lib.hid hcl
    have Hln := Lib.hid hM.len
    have hcb : m ≤ 1048576 := by omega
    have HSh := Lib.hid (show Short_P (sortK CL) from fun p hp => hI.apart.each p ((sortK_perm CL).mem_iff.1 hp))
    have Hsl := Lib.hid hK.len
    cases F with
    | nil =>
      have hn00 : n0 = 0 := by have := Hln.out; simpa using this.symm
      subst hn00
      have HS := Lib.hid (exS_some (Hex.out.trans (exTo_nil f CL)))
      have HK := Lib.hid hK
      clear hM hK hcl hI hex
      obtain ⟨R, hR⟩ : ∃ R, classesOk (sortK CL) = R := ⟨_, rfl⟩
      have HR := Lib.hid hR
      clear hR
      go_wp2_with fail
      refine (is (specClassesOk_any _ _ _ (sortK CL) _ HK.out.rd Hsl.out hcb HSh.out) HR.out).mono ?_
      rintro e w6 ⟨rfl, hb6⟩
      have hB6 := hB.trans (hb6.mono hB.size)
      have HK6 := Lib.hid ((HK.out.below hb6).mono (B' := w.heap.size) (S' := w6.heap.size) (Nat.le_refl _) hb6.size)
      go_wp2
      go_ret2
      exact ⟨_, _, _, _, rfl, by rw [HS.out.1]; exact HK6.out, HR.out.symm.trans HS.out.2.symm, hB6⟩
    | cons p F =>
      obtain ⟨k, cc⟩ := p
      obtain ⟨hk, hc64, hc0, hcf, hle⟩ := hI.head
      have hn1 : 0 < n0 := by have := Hln.out; simp at this; omega
      obtain ⟨b, off, rfl, hcell⟩ := hM.rd.at (k := 0) (by simp)
      obtain ⟨p1, p2⟩ := hcell 0 (k, cc) rfl
      simp only [Nat.zero_mul, Nat.add_zero] at p1 p2
      have HM := Lib.hid (fun w2 (h : Below wo.heap.size wo w2) => hM.below h)
      have HK := Lib.hid (fun w2 (h : Below wo.heap.size wo w2) => hK.below h)
      have Hk := Lib.hid hk
      have H64 := Lib.hid (show ∀ p ∈ (k, cc) :: F, in64 p.2 from by
        have := canon_64 ((k, cc) :: F)
        rw [hI.canon] at this
        exact this)
      have hbz : b < wo.heap.size := World.block_lt_of_cell? _ _ p1
      have S_of : ∀ w2, Below wo.heap.size wo w2 → w2.cell? ⟨b, off + 1, none⟩ = some (.int .i64 cc) := by
        intro w2 hb2
        rw [hb2.cell (p := ⟨b, off + 1, none⟩) hbz]; exact p2
      have q1 : (0 : Int) < (n0 : Int) := by omega
      clear hM hK hcl hI hex hcell hk hc64 hcf hle
      go_wp2_with fail
      refine (l2Exp_any k _ Hk.out).mono ?_
      rintro e w3 ⟨a3, c3, rfl, ho3, hb3⟩
      have hz3 := hb3.size
      have Ho3 := Lib.hid ho3
      have HS3 := Lib.hid (S_of w3 hb3)
      have hB3 := hB.trans (hb3.mono hB.size)
      obtain ⟨g3, rfl, _⟩ := OI.cons ho3.1 (j := 0) (by omega)
      clear ho3
      clear p1 p2
      go_wp2
      go_loop [6] (fun iv => ∃ i : Nat, iv = .int .i64 i ∧ i ≤ 7 ∧ Hid (∀ j : Nat, j < i → dig k j ≤ 6 - (j : Int))) (fun iv => 7 - (intOf iv).toNat)
      case atStart => exact ⟨0, rfl, by omega, fun j hj => by omega⟩
      case round =>
        obtain ⟨i, rfl, hi, Hgood⟩ := hrel
        by_cases hlt : i < 7
        · obtain ⟨g', e0, _, ⟨y, hy, hcy⟩, _⟩ := OI.cons Ho3.out.1 (j := i) hlt
          obtain rfl : g3 = g' := by simpa using e0
          have hyd : y = dig k i := by rw [digs_at hlt] at hy; exact (Option.some.inj hy).symm
          have hd := dig_range k i
          rw [← hyd] at hd
          have Hyd := Lib.hid hyd
          have q2 : (i : Int) < 7 := by omega
          have q3 : (i : Int) < ((7 : Nat) : Int) := by omega
          clear hy e0 hyd
          by_cases hyi : 6 - (i : Int) < y
          · have hbad : stOk k = false := stOk_bad hlt (by rw [← Hyd.out]; omega)
            have HR := Lib.hid (exS_none (Hex.out.trans (exTo_bad (.inl hbad))))
            go_wp2
            go_ret2
            exact ⟨_, _, _, _, rfl, by rw [HR.out.1]; exact KN.nil, HR.out.2.symm, hB3⟩
          · have Hg2 := Lib.hid (show ∀ j : Nat, j < i + 1 → dig k j ≤ 6 - (j : Int) from fun j hj => by
              rcases Nat.lt_or_ge j i with h | h
              · exact Hgood.out j h
              · obtain rfl : j = i := by omega
                rw [← Hyd.out]; omega)
            go_wp2
            go_round
            case rel => exact ⟨i + 1, by go_num, by omega, Hg2.out⟩
            case measure => simp [intOf]; omega
        · obtain rfl : i = 7 := by omega
          have Hs := Lib.hid (stOk_of Hgood.out)
          have Hdec := Lib.hid (pOf_decode Hs.out)
          have q2 : ¬ ((7 : Nat) : Int) < ((7 : Nat) : Int) := by omega
          have Hdg := Lib.hid (show ∀ x ∈ digs k, 0 ≤ x ∧ x ≤ 1000 from fun x hx => by have := digs_Digs k x hx; unfold isD at this; omega)
          have Hfresh := Lib.hid (show ∀ q ∈ sortK CL, q.1 ≠ tOf k from fun q hq => HI.out.fresh Hs.out q ((sortK_perm CL).mem_iff.1 hq))
          go_wp2_with fail
          refine (l1Decode_any _ 7 _ (digs k) _ Ho3.out.rd (digs_length k) (by omega) Hdg.out).mono ?_
          rintro e w4 ⟨a4, n4, c4, rfl, ho4, hb4⟩
          rw [Hdec.out] at ho4
          have hn4 : n4 = 7 := by rw [← ho4.len]; exact pOf_length Hs.out
          subst hn4
          have hbw4 := hb3.trans (hb4.mono hz3)
          have hB4 := hB.trans (hbw4.mono hB.size)
          have Ho4 := Lib.hid ho4
          have y4 := S_of w4 hbw4
          have hz4 := hbw4.size
          have HKr := Lib.hid ((HK.out w4 hbw4).rd)
          clear ho4 hb4
          go_wp2_with fail
          refine (l3Add_any _ _ _ (sortK CL) _ 7 _ (pOf k) cc _ HKr.out Hsl.out (by omega) HSh.out Ho4.out.rd Ho4.out.len (by omega) Ho4.out.1.lt hc0 (v := tOf k) rfl Hfresh.out).mono ?_
          rintro e w5 ⟨a5, c5, rfl, ho5, hb5⟩
          have hbw5 := hbw4.trans (hb5.mono hz4)
          have hB5 := hB.trans (hbw5.mono hB.size)
          have hz5 := hbw5.size
          have HInx := Lib.hid (HI.out.next Hs.out)
          have HSort := Lib.hid (show insK (tOf k) cc (sortK CL) = sortK (CL ++ [(tOf k, cc)]) from sortK_snoc (p := (tOf k, cc)) HInx.out.apart.dst)
          rw [HSort.out] at ho5
          have Ho5 := Lib.hid (ho5.mono (B' := w.heap.size) (S' := w5.heap.size) hB4.size (Nat.le_refl _))
          have Ho45 := Lib.hid (Ho4.out.below hb5)
          clear ho5 hb5 y4
          by_cases h100 : m < 100
          · have q4 : ¬ (100 : Int) < (m : Int) + 1 := by omega
            have Hexn := Lib.hid (Hex.out.trans (exTo_step Hs.out (by rw [Hcl.out]; exact h100)))
            have hn4 : IntKind.i64.wrap (-cc) = wrap64 (-cc) := IntWalk.i64_left _
            obtain ⟨cn, hcn⟩ : ∃ cn, wrap64 (-cc) = cn := ⟨_, rfl⟩
            rw [hcn] at hn4
            have hn5 : IntKind.i64.wrap (0 - cc) = cn := by rw [Int.zero_sub]; exact hn4
            have HcS := Lib.hid (show (canon (schM ((pOf k).take (trimLen (pOf k) 7)) (trimLen (pOf k) 7))).length ≤ 5040 by
              have h1 := (schOf_b7 (p := pOf k) (by rw [pOf_length Hs.out]; omega)).count
              unfold schOf at h1
              rw [pOf_length Hs.out] at h1
              exact h1)
            have Hcan := Lib.hid (exNext_canon (F := (k, cc) :: F) (c := cc) (p := pOf k) (m := 7) hcn.symm rfl rfl Hs.out)
            have Hnl := Lib.hid (exNext_len ((k, cc) :: F) k cc Hs.out)
            have d0 := hbw5
            have d1 : Below wo.heap.size wo w5.drew := hbw5.trans (Drew.below ⟨1, rfl⟩ _)
            have e5 : Below w5.heap.size w5 w5.drew := Drew.below ⟨1, rfl⟩ _
            have y5 := S_of w5 hbw5
            have Ho45d := Lib.hid (Ho45.out.rd.below e5)
            have hz7 : ((7 : Nat) : Int) = 7 := rfl
            clear hcn
            go_wp2
            go_region_held3 (fun w' => w'.cell? ⟨b, off + 1, none⟩ = some (.int .i64 cc)) ((first | exact S_of _ d0 | exact S_of _ d1 | exact S_of _ ‹_›))
              ((first | (go_at_call 68; refine (l3Schubert_any _ 7 _ (pOf k) _ (by first | exact Ho45d.out | exact Ho45.out.rd) (pOf_length Hs.out) (by omega) Ho4.out.1.lt).mono ?_; rintro e w6 ⟨a6, n6, c6, rfl, ho6, hb6⟩; have d2 := Below.trans d1 (hb6.mono (Below.size d1))) | (go_at_call 91; refine (l2Plus_any _ _ _ _ _ _ _ _ _ _ _ _ (HM.out _ d2) ho6.rd ho6.len (by have h1 := HcS.out; rw [ho6.len] at h1; omega) H64.out).mono ?_; rintro e w7 ⟨a7, n7, c7, rfl, ho7, hb7⟩; have d3 := d2.trans (hb7.mono d2.size))))
            rw [Hcan.out] at ho7
            have hB7 := hB.trans (d3.mono hB.size)
            have hn7 : n7 ≤ 600 + (m + 1) * 5040 := by
              have h1 := Hnl.out
              rw [ho7.len, Hln.out] at h1
              omega
            have HO7 := Lib.hid ho7
            have hb57 : Below w5.heap.size w5 w7 := e5.trans ((hb6.mono e5.size).trans (hb7.mono (Nat.le_trans e5.size hb6.size)))
            have HK7 := Lib.hid ((Ho5.out.below hb57).mono (B' := w.heap.size) (S' := w7.heap.size) (Nat.le_refl _) hb57.size)
            have HE := Lib.hid (show exTo 101 F0 [] = exTo (101 - (m + 1)) (exNext ((k, cc) :: F) k cc) (CL ++ [(tOf k, cc)]) by rw [show 101 - (m + 1) = f by omega]; exact Hexn.out)
            have Hcl2 := Lib.hid (show (CL ++ [(tOf k, cc)]).length = m + 1 by rw [List.length_append, Hcl.out]; rfl)
            clear ho7 ho6 S_of d0 d1 d2 d3 hb6 hb7 HM HK e5 y5 hb57
            go_wp2
            go_roundw
            case rel => exact ⟨⟨_, CL ++ [(tOf k, cc)], _, _, _, _, _, _, m + 1, _, rfl, rfl, by omega, hn7, HO7.out, HK7.out, Hcl2.out, HInx.out, HE.out⟩, hB7⟩
            case measure => simp only [lenOf]; omega
          · have hm100 : m = 100 := by omega
            subst hm100
            have HR := Lib.hid (exS_none (Hex.out.trans (exTo_bad (.inr (by rw [Hcl.out]; omega)))))
            go_wp2
            go_ret2
            exact ⟨_, _, _, _, rfl, by rw [HR.out.1]; exact KN.nil, HR.out.2.symm, hB5⟩

set_option maxRecDepth 100000 in
set_option maxHeartbeats 1600000 in
theorem specExp_post (a : Option Addr) (n c : Nat) (xs : List (List Int × Int)) (w : World) (hr : RP w a xs) (hn : xs.length = n) (hb : n ≤ 1048576) :
    Calls Try.prog 36 #[.slice a n c] w (PostN w (expT xs) (expOk xs)) := by
  have Hn := Lib.hid hn
  cases hok : polyOk xs
  · have H0 := Lib.hid (exp_no hok)
    have Hok := Lib.hid hok
    clear hok hn
    go_enter Try.func36, Try.ntmps36
    go_wp2_with fail
    refine (is (specPolyOk_any _ _ _ xs _ hr Hn.out hb) Hok.out).mono ?_
    rintro e w1 ⟨rfl, hB1⟩
    go_wp2
    go_ret2
    exact ⟨_, _, _, _, rfl, by rw [H0.out.1]; exact KN.nil, H0.out.2.symm, hB1⟩
  have Hok := Lib.hid hok
  have HBd := Lib.hid (polyOk_mons hok)
  have HI := Lib.hid (show ExInv (monsOf xs) [] by have := ExInv.start (polyOk_mons hok); rw [canon_monsOf hok] at this; exact this)
  have HX := Lib.hid (exS_exp hok)
  have hn6 : n ≤ 600 := by rw [← hn]; exact polyOk_len hok
  clear hok hn
  go_enter Try.func36, Try.ntmps36
  go_wp2_with fail
  refine (is (specPolyOk_any _ _ _ xs _ hr Hn.out hb) Hok.out).mono ?_
  rintro e w1 ⟨rfl, hB1⟩
  have hr1 := hr.below hB1
  go_wp2_with fail
  refine (l2Open_any _ _ _ xs _ hr1 Hn.out Hok.out).mono ?_
  rintro e w2 ⟨a2, c2, rfl, ho2, hb2⟩
  have hB2 := hB1.trans (hb2.mono hB1.size)
  have Ho2 := Lib.hid ho2
  clear ho2
  go_wp2_with fail
  refine (l3Expand_post _ _ _ _ _ (monsOf xs) _ Ho2.out hn6 HI.out).mono ?_
  intro e w3 hp
  obtain ⟨a3, n3, c3, r3, rfl, ho3, hh3, hb3⟩ := hp
  have hB3 := hB2.trans (hb3.mono hB2.size)
  have Ho3 := Lib.hid (ho3.mono (B' := w.heap.size) (S' := w3.heap.size) hB2.size (Nat.le_refl _))
  have hrb := hh3.out
  cases hx : exB (monsOf xs)
  · rw [hx] at hrb
    have HR := Lib.hid (HX.out.2 hx)
    subst hrb
    clear ho3 hx
    go_wp2
    go_ret2
    exact ⟨_, _, _, _, rfl, by rw [HR.out.1]; exact KN.nil, HR.out.2.symm, hB3⟩
  · rw [hx] at hrb
    have HR := Lib.hid (HX.out.1 hx)
    subst hrb
    clear ho3 hx
    go_wp2
    go_ret2
    exact ⟨_, _, _, _, rfl, by rw [HR.out.1]; exact Ho3.out, HR.out.2.symm, hB3⟩
theorem specExp_any (a : Option Addr) (n c : Nat) (xs : List (List Int × Int)) (w : World) (hr : RP w a xs) (hn : xs.length = n) (hb : n ≤ 1048576) (_hsh : Short_P xs) :
    Calls Try.prog 36 #[.slice a n c] w fun e w' => ∃ a' n' c' r, e = .returned (.tuple #[.slice a' n' c', .bool r]) ∧ KN w' w.heap.size w'.heap.size a' n' c' (expT xs) ∧ Hid (r = expOk xs) ∧ Below w.heap.size w w' :=
  (specExp_post a n c xs w hr hn hb).mono fun _ _ h => h
theorem implExp_any (a : Option Addr) (n c : Nat) (xs : List (List Int × Int)) (w : World) (hr : RP w a xs) (hn : xs.length = n) (hb : n ≤ 1048576) (_hsh : Short_P xs) :
    Calls Try.prog 38 #[.slice a n c] w fun e w' => ∃ a' n' c' r, e = .returned (.tuple #[.slice a' n' c', .bool r]) ∧ KO w' w.heap.size w'.heap.size a' n' c' (expT xs) ∧ Hid (r = expOk xs) ∧ Below w.heap.size w w' :=
  (implExp_post a n c xs w hr hn hb).mono fun _ _ h => h
end Go.Proofs.Ytocgcgmlemoekaa
