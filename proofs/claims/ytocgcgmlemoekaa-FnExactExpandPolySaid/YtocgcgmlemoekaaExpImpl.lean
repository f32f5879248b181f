/-
  ExpandPoly of the program.
-/
import Derived.Test.YtocgcgmlemoekaaExpLaw
import Derived.Test.YtocgcgmlemoekaaFirst
import Derived.Test.YtocgcgmlemoekaaPocNo
namespace Go.Proofs.Ytocgcgmlemoekaa
open Go.RowKit Go.MapKept Go.ChangeMaps

/-- classes of the call's own, and whether they are fine -/
def PostK (w : World) (T : List (List Int × Int)) (ok : Bool) (e : Ending) (w' : World) : Prop :=
  ∃ a' n' c' r, e = .returned (.tuple #[.slice a' n' c', .bool r]) ∧ KO w' w.heap.size w'.heap.size a' n' c' T ∧ Hid (r = ok) ∧ Below w.heap.size w w'
theorem PF.besideK {w w' : World} {b B S n c : Nat} {F : Mons} {a : Option Addr} {xs : List (List Int × Int)} (h : PF w b F) (ho : KO w B S a n c xs) (hg : w.grownBy w' (Value.slice a n c).ownBlock) : PF w' b F := by
  refine h.kept hg fun e => ?_
  obtain ⟨vs, h1, _⟩ := ho
  obtain ⟨l, ⟨es, clock, hb, _⟩, _⟩ := h
  rcases row2_shape h1 with ⟨_, rfl, _⟩ | ⟨g, rfl, _, _, _, _, cur, hcur⟩
  · simp [Value.ownBlock] at e
  · simp only [Value.ownBlock, Option.some.injEq] at e
    subst e
    rw [hcur] at hb
    simp at hb
theorem digs_at_lt {k : Int} {j : Nat} {x : Int} (h : (digs k)[j]? = some x) : j < 7 ∧ x = dig k j := by
  have hj := lt_of_some h
  rw [digs_length] at hj
  rw [digs_at hj] at h
  exact ⟨hj, (Option.some.inj h).symm⟩
theorem exNext_pf {w : World} {r : Nat} {F : Mons} {k c c' : Int} {m : Nat} {p : List Int} (h : PF w r (plusM F c' (schM (p.take (trimLen p m)) (trimLen p m)))) (hc : c' = wrap64 (-c)) (hp : p = tOf k) (hm : m = p.length) (hs : stOk k = true) : PF w r (exNext F k c) := by
  subst hc hm hp
  rw [tOf_trim hs, List.take_length] at h
  exact h.eqv ((plus_wrap F (-c) _).trans (canon_self _).symm)
set_option maxRecDepth 100000 in
set_option maxHeartbeats 6400000 in
theorem implExp_post (a : Option Addr) (n c : Nat) (xs : List (List Int × Int)) (w : World) (hr : RP w a xs) (hn : xs.length = n) (hb : n ≤ 1048576) :
    Calls Try.prog 38 #[.slice a n c] w (PostK w (expT xs) (expOk xs)) := by
  have Hn := Lib.hid hn
  cases hok : polyOk xs
  · have H0 := Lib.hid (exp_no hok)
    have Hok := Lib.hid hok
    clear hok hn
    go_enter Try.func38, Try.ntmps38
    go_wp2_with fail
    refine (is (implPolyOk_any _ _ _ xs _ hr Hn.out hb) Hok.out).mono ?_
    rintro e w1 ⟨rfl, hB1⟩
    go_wp2
    go_ret2
    exact ⟨_, _, _, _, rfl, by rw [H0.out.1]; exact KO.nil, H0.out.2.symm, hB1⟩
  have Hok := Lib.hid hok
  have HBd := Lib.hid (polyOk_mons hok)
  have q22 : ∀ (w : World) (a : Option Addr) (n c n' c' : Nat), (binOp .eql 22 (.slice a n c) (.slice none n' c')).run Try.prog w = .ok (.bool a.isNone) w := fun w a n c n' c' => Lib.run_eql_slice_nil w _ _ a n c n' c' Try.underlying22
  clear hok hn
  go_enter Try.func38, Try.ntmps38
  go_wp2_with fail
  refine (is (implPolyOk_any _ _ _ xs _ hr Hn.out hb) Hok.out).mono ?_
  rintro e w1 ⟨rfl, hB1⟩
  have hr1 := hr.below hB1
  go_wp2_with fail
  refine (open_any _ _ _ xs _ hr1 Hn.out Hok.out).mono ?_
  rintro e w2 ⟨r2, rfl, _, hF2, hb2⟩
  have hB2 := hB1.trans (hb2.mono hB1.size)
  have hBa : Below w2.heap.size w2 (w2.alloc (.cells #[] 101)) := (Below.refl _ _).alloc (Nat.le_refl _) _
  have HF0 := Lib.hid ((hF2.eqv (canon_self (monsOf xs)).symm).below hBa)
  have HK0 := Lib.hid ((KO.made w2).mono (B' := w.heap.size) (S' := (w2.alloc (.cells #[] 101)).heap.size) hB2.size (Nat.le_refl _))
  have hB3 := hB2.trans (hBa.mono hB2.size)
  clear hF2 hb2 hBa hB1 hB2 hr1
  go_wp2
  go_loopw [4, 5] (fun rv ov wr => Hid (∃ (r : Nat) (F L : Mons) (CL : List (List Int × Int)) (a1 : Option Addr) (m c1 : Nat), rv = .map (some r) ∧ ov = .slice a1 m c1 ∧ m ≤ 100 ∧ L = [] ∧ PF wr r F ∧ KO wr w.heap.size wr.heap.size a1 m c1 CL ∧ ExInv F CL ∧ exM (monsOf xs) = exTo (101 - m) F CL) ∧ Below w.heap.size w wr) (fun _ ov _ => 101 - lenOf ov)
  case atStart => exact ⟨⟨r2, _, [], [], _, 0, _, rfl, rfl, by omega, rfl, HF0.out, HK0.out, ExInv.start HBd.out, rfl⟩, hB3⟩
  case round =>
    clear HF0 HK0 hB3
    obtain ⟨HV, hB⟩ := hrel
    obtain ⟨wo, rfl⟩ : ∃ wo : World, wo = wr := ⟨_, rfl⟩
    obtain ⟨r, F, _, CL, a1, m, c1, rfl, rfl, hm, _, hF, hK, hI, hex⟩ := HV.out
    clear HV
    have hlenF := fun ty => hF.length ty
    rw [hI.canon] at hlenF
    obtain ⟨f, hf⟩ : ∃ f, 101 - m = f + 1 := ⟨100 - m, by omega⟩
    have Hcl := Lib.hid hK.len
    have HI := Lib.hid hI
    have Hex := Lib.hid hex
    rw [hf] at Hex
    cases F with
    | nil =>
      have HS := Lib.hid (exp_some Hok.out (Hex.out.trans (exTo_nil f CL)))
      have HG := Lib.hid hI.apart
      have HK := Lib.hid hK
      have hcb : m ≤ 1048576 := by omega
      have hDst := hI.apart.dst
      clear hF hK hI hex q22
      go_wp2_with fail
      refine (sortCls_any _ _ _ _ _ CL _ HK.out HG.out hcb).mono ?_
      rintro e w5 ⟨rfl, ys, hperm, hasc, hK5, hO5⟩
      have hys : ys = sortK CL := asc_unique hasc (sortK_asc hDst) (hperm.trans (sortK_perm CL).symm)
      subst hys
      have hB5 := hO5.below hB (Nat.le_refl _) hB.size
      have hz5 := hO5.size
      have HK5 := Lib.hid (hK5.mono (B' := w.heap.size) (S' := w5.heap.size) (Nat.le_refl _) hz5)
      have HShs := Lib.hid (show Short_P (sortK CL) from fun p hp => HG.out.each p ((sortK_perm CL).mem_iff.1 hp))
      have Hsl := Lib.hid hK5.len
      clear hK5 hperm hasc hDst hO5
      cases hc : classesOk (sortK CL)
      · have Hc := Lib.hid hc
        have HR := Lib.hid (HS.out.2 hc)
        clear hc
        go_wp2_with fail
        refine (is (implClassesOk_any _ _ _ (sortK CL) _ HK5.out.rd Hsl.out hcb HShs.out) Hc.out).mono ?_
        rintro e w6 ⟨rfl, hb6⟩
        have hB6 := hB5.trans (hb6.mono hB5.size)
        go_wp2
        go_ret2
        exact ⟨_, _, _, _, rfl, by rw [HR.out.1]; exact KO.nil, HR.out.2.symm, hB6⟩
      · have Hc := Lib.hid hc
        have HR := Lib.hid (HS.out.1 hc)
        clear hc
        go_wp2_with fail
        refine (is (implClassesOk_any _ _ _ (sortK CL) _ HK5.out.rd Hsl.out hcb HShs.out) Hc.out).mono ?_
        rintro e w6 ⟨rfl, hb6⟩
        have hB6 := hB5.trans (hb6.mono hB5.size)
        have HK6 := Lib.hid ((HK5.out.below hb6).mono (B' := w.heap.size) (S' := w6.heap.size) (Nat.le_refl _) hb6.size)
        go_wp2
        go_ret2
        exact ⟨_, _, _, _, rfl, by rw [HR.out.1]; exact HK6.out, HR.out.2.symm, hB6⟩
    | cons p F =>
      obtain ⟨k, cc⟩ := p
      obtain ⟨hk, hc64, hc0, hcf, hle⟩ := hI.head
      have Hfirst := Lib.hid (first_any r ((k, cc) :: F) wo hF hI.canon)
      have HF := Lib.hid (fun w2 (h : Below wo.heap.size wo w2) => hF.below h)
      have HK := Lib.hid (fun w2 (h : Below wo.heap.size wo w2) => hK.below h)
      have Hcf := Lib.hid hcf
      have q1 : (0 : Int) < ((((k, cc) :: F).length : Nat) : Int) := by simp only [List.length_cons]; omega
      clear hF hK hI hex hle hcf
      go_wp2_with fail
      refine Hfirst.out.mono ?_
      rintro e w3 ⟨rfl, hb3⟩
      have hz3 := hb3.size
      unfold kV
      obtain ⟨W1, hW1⟩ : ∃ W1, w3.alloc (.cells (cells7 k) 112) = W1 := ⟨_, rfl⟩
      have g0 : W1.heap[w3.heap.size]? = some (.cells (cells7 k) 112) := by rw [← hW1]; exact heap_alloc_new w3 _
      have hBW1 : Below w3.heap.size w3 W1 := by rw [← hW1]; exact (Below.refl _ _).alloc (Nat.le_refl _) _
      have hbW := hb3.trans (hBW1.mono hz3)
      have hri := cells7_ri g0
      have hzW : w3.heap.size < W1.heap.size := (Array.getElem?_eq_some_iff.1 g0).1
      unfold cells7 at hW1
      cases hs : stOk k
      · have HR := Lib.hid (exp_none (xs := xs) (Hex.out.trans (exTo_bad (.inl hs))))
        obtain ⟨i0, hi7, hbad, hgood⟩ := stOk_no hs
        have Hg := Lib.hid (show ∀ (j : Nat) (x : Int), j < i0 → (digs k)[j]? = some x → 0 ≤ x ∧ x < ((7 : Nat) : Int) - j from fun j x hj hx => by
          obtain ⟨_, rfl⟩ := digs_at_lt hx
          have := hgood j hj
          have := (dig_range k j).1
          omega)
        have Hat := Lib.hid (digs_at (k := k) hi7)
        have hbad' : ((7 : Nat) : Int) - i0 ≤ dig k i0 := by omega
        have hBW := hB.trans (hbW.mono hB.size)
        have Hri := Lib.hid hri
        clear hgood hs g0 hri
        go_wp2_with fail
        refine (permOfCode_no _ 7 _ (digs k) _ Hri.out (digs_length k) (by omega) i0 _ hi7 Hat.out hbad' Hg.out).mono ?_
        rintro e w4 ⟨rfl, hb4⟩
        have hB4 := hBW.trans (hb4.mono hBW.size)
        go_wp2_with fail
        refine (implTrim_none _).mono ?_
        rintro e w5 ⟨rfl, hb5⟩
        have hB5 := hB4.trans (hb5.mono hB4.size)
        go_wp2
        go_ret2
        exact ⟨_, _, _, _, rfl, by rw [HR.out.1]; exact KO.nil, HR.out.2.symm, hB5⟩
      · have Hs := Lib.hid hs
        have Hg := Lib.hid (show ∀ (j : Nat) (x : Int), (digs k)[j]? = some x → 0 ≤ x ∧ x < ((7 : Nat) : Int) - j from fun j x hx => by
          obtain ⟨hj, rfl⟩ := digs_at_lt hx
          have := stOk_at hs hj
          have := (dig_range k j).1
          omega)
        have Hri := Lib.hid hri
        have Htb := Lib.hid (tOf_bound hs)
        clear hs hri
        go_wp2_with fail
        refine (permOfCode_any _ 7 _ (digs k) _ Hri.out (digs_length k) (by omega) Hg.out).mono ?_
        rintro e w4 ⟨a4, c4, rfl, ho4, hb4⟩
        rw [pOf_poc] at ho4
        have hbw4 := hbW.trans (hb4.mono hbW.size)
        have Ho4 := Lib.hid ho4
        clear ho4
        go_wp2_with fail
        refine (implTrim_any _ 7 _ (pOf k) _ Ho4.out.rd Ho4.out.len (by omega) Ho4.out.1.lt (pOf_isPerm Hs.out)).mono ?_
        rintro e w5 ⟨a5, c5, rfl, ho5, hb5⟩
        have hbw5 := hbw4.trans (hb5.mono hbw4.size)
        have hz5 := hbw5.size
        have Hl5 := Lib.hid (tOf_length Hs.out)
        obtain ⟨l, hl⟩ : ∃ l, trimLen (pOf k) 7 = l := ⟨_, rfl⟩
        have ho5' : OwI w5 w4.heap.size w5.heap.size a5 l c5 (tOf k) := by unfold tOf; rw [hl] at ho5 ⊢; exact ho5
        rw [hl] at Hl5 ⊢
        have hl1 : 1 ≤ l := by have := Htb.out.1; rw [Hl5.out] at this; exact this
        have hl7 : l ≤ 7 := by have := Htb.out.2; rw [Hl5.out] at this; exact this
        obtain ⟨g5, rfl, _⟩ := OI.cons ho5'.1 (j := 0) (by omega)
        have Ho5 := Lib.hid (ho5'.mono (B' := wo.heap.size) (S' := w5.heap.size) hbw4.size (Nat.le_refl _))
        have g5c : w5.heap[w3.heap.size]? = some (.cells (cells7 k) 112) := by
          rw [hb5.block _ (Nat.lt_of_lt_of_le hzW hb4.size), hb4.block _ hzW]
          exact g0
        obtain ⟨x0, x1, x2, x3, x4, x5, x6⟩ := cells7_at g5c
        have hlook := (HF.out w5 hbw5).look hk
        unfold kV at hlook
        rw [Hcf.out] at hlook
        have hB5 := hB.trans (hbw5.mono hB.size)
        have HF5 := Lib.hid (fun w2 (h : Below w5.heap.size w5 w2) => HF.out w2 (hbw5.trans (h.mono hz5)))
        have HK5 := Lib.hid (HK.out w5 hbw5)
        clear ho5 ho5' hl g0 g5c hb5 hb4 HF HK hb3 hBW1 hbW hbw4
        by_cases h100 : m < 100
        · have hne : ((m : Int) == 100) = false := by simp; omega
          have hbs := hB.size
          have Hexn := Lib.hid (Hex.out.trans (exTo_step Hs.out (by rw [Hcl.out]; exact h100)))
          have HIn := Lib.hid (HI.out.next Hs.out)
          have hm1 : m + 1 ≤ 1048576 := by omega
          go_wp2_with (first | (at_builtin; go_loud (refine wpList_pushTK (by rfl) (by rfl) _ _ (by rfl) HK5.out (by rfl) Ho5.out hbs (by rfl) (by rfl) hm1 (by omega) hz5 (Nat.le_refl _) ?_)))
          intro a6 c6 w6 ho6 hg6
          have hB6 := below_grown (v := .slice a1 m c1) hB5 hg6 (Nat.le_trans hbs hz5) HK5.out.lo
          have HF6 := Lib.hid ((HF5.out w5 (Below.refl _ _)).besideK HK5.out hg6)
          have Ho6 := Lib.hid (KN.keep HK5.out.kn Ho5.out hg6)
          have HO6 := Lib.hid ho6
          have hneg : IntKind.i64.wrap (-cc) = wrap64 (-cc) := IntWalk.i64_left _
          obtain ⟨cn, hcn⟩ : ∃ cn, wrap64 (-cc) = cn := ⟨_, rfl⟩
          rw [hcn] at hneg
          have Hcn := Lib.hid hcn
          clear ho6 hg6 hB5 HK5 HF5 Ho5 hcn
          go_wp2_with fail
          refine (implSchub_any _ _ _ (tOf k) _ Ho6.out.rd Hl5.out hl7 Ho6.out.1.lt (tOf_isPerm Hs.out)).mono ?_
          rintro e w7 ⟨r7, rfl, hF7, hb7⟩
          have hB7 := hB6.trans (hb7.mono hB6.size)
          have HF7 := Lib.hid hF7
          have HF67 := Lib.hid (HF6.out.below hb7)
          have HO7 := Lib.hid (HO6.out.below hb7)
          have hz7 := hb7.size
          clear hF7 hb7 HF6 Ho6 HO6 hB6
          go_wp2_with fail
          refine (plus_any r r7 cn _ _ _ HF67.out HF7.out).mono ?_
          rintro e w8 ⟨r8, rfl, _, hF8, hb8⟩
          have hB8 := hB7.trans (hb8.mono hB7.size)
          have HF8 := Lib.hid (exNext_pf (c := cc) hF8 Hcn.out.symm rfl Hl5.out.symm Hs.out)
          have HO8 := Lib.hid ((HO7.out.below hb8).mono (B' := w.heap.size) (S' := w8.heap.size) (Nat.le_refl _) (Nat.le_trans hz7 hb8.size))
          have Hf := Lib.hid (show f = 101 - (m + 1) by omega)
          have HE := Lib.hid (show exM (monsOf xs) = exTo (101 - (m + 1)) (exNext ((k, cc) :: F) k cc) (CL ++ [(tOf k, cc)]) by rw [← Hf.out]; exact Hexn.out)
          clear hF8 hb8 HF67 HF7 HO7 hneg
          go_wp2
          go_roundw
          case rel => exact ⟨⟨r8, _, [], _, _, m + 1, _, rfl, rfl, by omega, rfl, HF8.out, HO8.out, HIn.out, HE.out⟩, hB8⟩
          case measure => simp only [lenOf]; omega
        · have hm100 : m = 100 := by omega
          subst hm100
          have HR := Lib.hid (exp_none (xs := xs) (Hex.out.trans (exTo_bad (.inr (by rw [Hcl.out]; omega)))))
          go_wp2
          go_ret2
          exact ⟨_, _, _, _, rfl, by rw [HR.out.1]; exact KO.nil, HR.out.2.symm, hB5⟩
end Go.Proofs.Ytocgcgmlemoekaa
