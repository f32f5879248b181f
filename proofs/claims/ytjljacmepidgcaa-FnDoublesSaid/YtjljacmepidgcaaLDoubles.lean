/-
  Law FnDoubles: for every input double Schubert polynomials with zeros are Schubert polynomials, and inverses exchange both kinds of variables, up to signs. No condition.
-/
import Derived.Test.YtjljacmepidgcaaDblLaw
import Derived.Test.YtjljacmepidgcaaDoubleP
import Derived.Test.YtjljacmepidgcaaApart
import Derived.Test.YtjljacmepidgcaaFilled
import Derived.Test.YtjljacmepidgcaaLawSch
import Derived.Test.YtjljacmepidgcaaSInv
namespace Go.Proofs.Ytjljacmepidgcaa
open Go.RowKit

theorem dbl_bd {w ys : List Int} (h : w.length ≤ 7) : Bd 24 (dblM w ys) := by
  have h1 := sb_low (n := w.length) h (Bv.dblTop (ys := ys) h) (ups w) (fun k hk => ups_lt w k hk)
  exact fun p hp => ⟨(h1 p hp).1, fun j hj => by have := (h1 p hp).2 j hj; unfold sb at this; omega⟩
theorem dbl_okp {w ys : List Int} (h : w.length ≤ 7) (hok : polyOk (termsM (dblM w ys)) = true) : OKp (dblM w ys) := ⟨dbl_bd h, hok⟩
theorem dbl_in {w ys : List Int} {n : Nat} (hp : isPerm w = true) (hw : w.length = n) (hy : ys.length = n) (h4 : n ≤ 4) (h9 : ∀ y ∈ ys, -9 ≤ y ∧ y ≤ 9) :
    dblT w ys = closedT (dblM w ys) ∧ dblOk w ys = polyOk (termsM (dblM w ys)) := dbl_yes (dblIok_true hp (by omega) (by omega) h9)
theorem neg_low {ys : List Int} (h : ∀ y ∈ ys, -9 ≤ y ∧ y ≤ 9) : ∀ y ∈ ys.map (fun y => 0 - y), -9 ≤ y ∧ y ≤ 9 := fun y hy => by
  obtain ⟨z, hz, rfl⟩ := List.mem_map.1 hy
  have := h z hz
  omega
theorem fillTo7_eq (ys : List Int) : fillTo7 ys 7 = fill7 ys := rfl
set_option maxRecDepth 100000 in
set_option maxHeartbeats 1600000 in
theorem specInvPerm_any (a : Option Addr) (n c : Nat) (xs : List Int) (w : World) (hr : RI w a xs) (hn : xs.length = n) (hb : n ≤ 1000) (hcap : n ≤ c) (hp : isPerm xs = true) (hin : ∀ x ∈ xs, 0 ≤ x ∧ x < (n : Int)) :
    Calls Try.prog 11 #[.slice a n c] w fun e w' => ∃ a' c', e = .returned (.slice a' n c') ∧ OwI w' w.heap.size w'.heap.size a' n c' (inv xs) ∧ Below w.heap.size w w' := by
  have Hn := Lib.hid hn
  have Hp := Lib.hid hp
  have Hin := Lib.hid hin
  clear hn hp hin
  go_enter Try.func11, Try.ntmps11
  go_wp2_with fail
  refine (is (specIsPerm_any _ _ _ xs _ hr Hn.out (by omega) hcap) Hp.out).mono ?_
  rintro e w1 ⟨rfl, hd⟩
  have hb1 := hd.below w.heap.size
  have hr1 := hr.below hb1
  go_wp2_with fail
  refine (specInverse_any _ _ _ xs _ hr1 Hn.out hb Hin.out).mono ?_
  rintro e w2 ⟨a2, c2, rfl, ho, hb2⟩
  have Ho := Lib.hid (ho.mono (B' := w.heap.size) (S' := w2.heap.size) hb1.size (Nat.le_refl _))
  have hB := hb1.trans (hb2.mono hb1.size)
  clear ho hb2
  go_wp2
  go_ret
  exact ⟨_, _, rfl, Ho.out, hB⟩
def negT (zs : List Int) (i : Nat) : List Int := (zs.take i).map fun y => 0 - y
set_option maxRecDepth 100000 in
set_option maxHeartbeats 12800000 in
theorem lawDoubles_walk (w : World) (a : Option Addr) (n c : Nat) (xs : List Int) (hr : RB w a xs) (hn : xs.length = n) (hb : n ≤ 9223372036854775807) (hbs : Bytes xs) :
    Calls Try.prog 3 #[.slice a n c] w fun e w' => e = .returned (.bool true) ∧ Below w.heap.size w w' := by
  have Hn := Lib.hid hn; clear hn
  have Hbs := Lib.hid hbs; clear hbs
  by_cases hbig : 1048576 < n
  · have h1 := Lib.hid (show decide (1048576 < n) = true by simpa using hbig)
    go_enter Try.func3, Try.ntmps3
    go_wp2_with fail
    refine (is (big_any _ _ _ _ hb) h1.out).mono ?_
    rintro e w1 ⟨rfl, rfl⟩
    go_wp2
    go_ret
    exact ⟨rfl, Below.refl _ _⟩
  have h1 := Lib.hid (show decide (1048576 < n) = false by simpa using hbig)
  obtain ⟨i0, hi, hz0, hz1, hz2⟩ := info_parts Try.info3
  go_enter Try.func3, Try.ntmps3
  go_wp2_with fail
  refine (is (big_any _ _ _ _ hb) h1.out).mono ?_
  rintro e w1 ⟨rfl, rfl⟩
  go_wp2_with fail
  refine (drawMoved_any _ _ _ xs _ hr Hn.out (by omega) Hbs.out).mono ?_
  rintro e w1 ⟨m, u, ys, zs, au, cu, ay, cy, az, cz, rfl, ⟨hm1, hm4⟩, hu, hys, hzs, hou, hoy, hoz, hB1⟩
  obtain ⟨hul, hup⟩ := perms_ok hu (by omega) (by omega)
  have HF := Lib.hid (dblFacts hm1 hm4 hu)
  have Hul := Lib.hid hul
  have Hup := Lib.hid hup
  have Hys := Lib.hid hys
  have Hzs := Lib.hid hzs
  have Hyl := Lib.hid hoy.len
  have Hzl := Lib.hid hoz.len
  have hin := Lib.hid (show ∀ x ∈ u, 0 ≤ x ∧ x < (m : Int) from fun x hx => by have := ((isPerm_iff u).1 hup).2.2.1 x hx; omega)
  have hru := hou.rd
  have hry := hoy.rd
  have hrz := hoz.rd
  have huc := hou.1.lt
  have hyc := hoy.1.lt
  clear hou hoy hoz hu hul hup hys hzs hr h1 hbig
  go_wp2_with (first | (at_make; refine wpList_make_full _ rfl _ _ 24 rfl w1.heap.size 3 i0 (.int .i64 0) 1 Try.underlying24 hi hz0 hz1 .i64 .i64 _ _ m rfl rfl ?m1 ?m2 ?m3 ?m4 ?m5 ?_))
  case m1 => rfl
  case m2 => rfl
  case m3 => rw [hz2]; omega
  case m4 => unfold maxLen; omega
  case m5 => exact Nat.le_refl _
  intro w2 hown hg
  have hB2 : Below w1.heap.size w1 w2 := (Below.refl _ _).grown hg (Nat.le_refl _) (by simp)
  have hrow : OS w2 w1.heap.size (some ⟨w1.heap.size, 0, none⟩) m m (zerosL m) := by
    refine OS.of ?_
    have e := toList_madeCells_one (.int .i64 0) m
    simpa [ints, Value.cells, e, zerosL] using hown
  have hr0 := hrow.ri
  have Hr0 := Lib.hid hr0
  have hB12 := hB1.trans (hB2.mono hB1.size)
  have hru2 := hru.below hB2
  have hry2 := hry.below hB2
  have hrz2 := hrz.below hB2
  clear hown hg hrow hr0 hB2 hB1 hru hry hrz
  have Hd0 := Lib.hid (dbl_in (n := m) (ys := zerosL m) Hup.out Hul.out (by simp [zerosL]) hm4 (fun y hy => by unfold zerosL at hy; obtain rfl := (List.mem_replicate.1 hy).2; omega))
  have He0 := Lib.hid (termsM_eqv HF.out.zero.eqv)
  go_wp2_with fail
  refine (implDbl_any _ _ _ u _ _ _ (zerosL m) _ hru2 Hul.out (by omega) huc Hr0.out (by simp [zerosL]) (by omega) (Nat.le_refl _)).mono ?_
  rintro e w3 ⟨a3, n3, c3, r3, rfl, ho3, hr3, hB3⟩
  obtain rfl : r3 = true := by rw [hr3.out, Hd0.out.2, He0.out]; exact HF.out.ok.ok
  have e3 : dblT u (zerosL m) = termsM (SM u) := by
    rw [Hd0.out.1, closedT_ok (by rw [He0.out]; exact HF.out.ok.ok), He0.out]
  rw [e3] at ho3
  have hp3 := PT.of ho3 HF.out.ok
  have hB13 := hB12.trans (hB3.mono hB12.size)
  have hru3 := hru2.below hB3
  have hry3 := hry2.below hB3
  have hrz3 := hrz2.below hB3
  clear ho3 hr3 e3 hB12 hB3 hru2 hry2 hrz2 Hr0
  go_wp2_with fail
  refine (schubert_law _ _ _ u _ hru3 Hul.out huc Hup.out HF.out.ok).mono ?_
  rintro e w4 ⟨a4, n4, c4, rfl, hp4, hB4⟩
  have hp34 := hp3.below hB4
  have hB14 := hB13.trans (hB4.mono hB13.size)
  have hru4 := hru3.below hB4
  have hry4 := hry3.below hB4
  have hrz4 := hrz3.below hB4
  clear hp3 hB13 hB4 hru3 hry3 hrz3
  go_wp2_with fail
  refine (terms_law _ _ _ _ _ _ (SM u) (SM u) _ hp34 hp4 (Eqv.refl _)).mono ?_
  rintro e w5 ⟨rfl, hd5⟩
  have hB15 := hB14.trans (hd5.below _)
  have hru5 := hru4.below (hd5.below w4.heap.size)
  have hry5 := hry4.below (hd5.below w4.heap.size)
  have hrz5 := hrz4.below (hd5.below w4.heap.size)
  clear hp34 hp4 hB14 hd5 hru4 hry4 hrz4
  obtain ⟨W, hW⟩ : ∃ W, w5.alloc (.cells #[] 3) = W := ⟨_, rfl⟩
  obtain ⟨X, hX⟩ : ∃ X, W.alloc (.cells #[] 3) = X := ⟨_, rfl⟩
  have hzW : W.heap.size = w5.heap.size + 1 := by rw [← hW]; simp
  have hBW : Below w5.heap.size w5 W := by rw [← hW]; exact (Below.refl _ _).alloc (Nat.le_refl _) _
  have hBX : Below W.heap.size W X := by rw [← hX]; exact (Below.refl _ _).alloc (Nat.le_refl _) _
  have hBx : Below w5.heap.size w5 X := hBW.trans (hBX.mono (by omega))
  have iA : OwI W w5.heap.size W.heap.size (some ⟨w5.heap.size, 0, none⟩) 0 0 [] := by rw [← hW]; exact OwI.mk (World.ownsRow_made _ #[] 0 (Nat.le_refl _) (Nat.zero_le _) rfl)
  have iB : OwI X W.heap.size X.heap.size (some ⟨W.heap.size, 0, none⟩) 0 0 [] := by rw [← hX]; exact OwI.mk (World.ownsRow_made _ #[] 0 (Nat.le_refl _) (Nat.zero_le _) rfl)
  obtain ⟨A0, hA0⟩ : ∃ A0, W.heap.size = A0 := ⟨_, rfl⟩
  have hzA : A0 = w5.heap.size + 1 := by omega
  rw [hA0] at iB
  have HA := Lib.hid ((iA.below (by rw [hA0] at hBX; rw [hA0]; exact hBX)).mono (B' := w5.heap.size) (S' := X.heap.size) (Nat.le_refl _) hBX.size)
  have HB := Lib.hid (iB.mono (B' := w5.heap.size) (S' := X.heap.size) (by omega) (Nat.le_refl _))
  have Hap := Lib.hid (show ∀ k, (Value.slice (some ⟨w5.heap.size, 0, none⟩) 0 0).ownBlock = some k → (Value.slice (some ⟨A0, 0, none⟩) 0 0).ownBlock ≠ some k from fun k hk e => by simp [Value.ownBlock] at hk e; omega)
  have HzA := Lib.hid hzA
  have HzW := Lib.hid hzW
  clear iA iB hBW hBX hzA hzW
  go_wp2
  clear hW hX hA0
  go_loopw [9, 10, 11] (fun av bv iv wr => Hid (∃ (i : Nat) (aa ab : Option Addr) (ca cb : Nat), iv = .int .i64 i ∧ i ≤ m ∧ av = .slice aa i ca ∧ bv = .slice ab i cb ∧ OwI wr w5.heap.size wr.heap.size aa i ca (negT zs i) ∧ OwI wr w5.heap.size wr.heap.size ab i cb (negT ys i) ∧ ∀ k, (Value.slice aa i ca).ownBlock = some k → (Value.slice ab i cb).ownBlock ≠ some k) ∧ Below w5.heap.size w5 wr) (fun _ _ iv _ => m - (intOf iv).toNat)
  case atStart => exact ⟨⟨0, _, _, _, _, rfl, Nat.zero_le _, rfl, rfl, HA.out, HB.out, Hap.out⟩, hBx⟩
  case round =>
    clear HA HB Hap hBx HzA HzW
    obtain ⟨HV, hBr⟩ := hrel
    obtain ⟨wo, rfl⟩ : ∃ wo : World, wo = wr := ⟨_, rfl⟩
    obtain ⟨i, aa, ab, ca, cb, rfl, him, rfl, rfl, hoa, hob, hap⟩ := HV.out
    clear HV
    have hbs := hBr.size
    have HA := Lib.hid hoa
    have HB := Lib.hid hob
    have Hap := Lib.hid hap
    clear hoa hob hap
    by_cases hlt : i < m
    · obtain ⟨bz, oz, rfl, hcz⟩ := (hrz5.below hBr).at (k := i) (by rw [Hzl.out]; exact hlt)
      obtain ⟨z, hz⟩ := some_at Hzl.out hlt
      have hcz1 := hcz i z hz
      obtain ⟨y, hy⟩ := some_at Hyl.out hlt
      have hzb := Hzs.out z (List.mem_of_getElem? hz)
      have hyb := Hys.out y (List.mem_of_getElem? hy)
      have q0 : (i : Int) < (m : Int) := by omega
      have q1 : IntKind.i64.wrap (0 - z) = 0 - z := IntWalk.i64_in _ (by omega)
      have q2 : IntKind.i64.wrap (0 - y) = 0 - y := IntWalk.i64_in _ (by omega)
      have Hz := Lib.hid (show negT zs i ++ [0 - z] = negT zs (i + 1) by unfold negT; rw [List.take_add_one, hz, List.map_append]; rfl)
      have Hy := Lib.hid (show negT ys i ++ [0 - y] = negT ys (i + 1) by unfold negT; rw [List.take_add_one, hy, List.map_append]; rfl)
      have Hyi := Lib.hid hy
      obtain ⟨z', hz'⟩ : ∃ z', 0 - z = z' := ⟨_, rfl⟩
      obtain ⟨y', hy'⟩ : ∃ y', 0 - y = y' := ⟨_, rfl⟩
      rw [hz'] at q1
      rw [hy'] at q2
      have Hz' := Lib.hid hz'
      have Hy' := Lib.hid hy'
      clear hcz hz hy
      go_wp2_with (first | (at_builtin; go_loud (refine wpList_pushI (x0 := z') (by rfl) (by rfl) _ _ (by rfl) HA.out (by rfl) (by rfl) (by omega) hbs ?_)))
      intro a6 c6 w6 ho6 hg6
      rw [← Hz'.out, Hz.out] at ho6
      have hB6 := hg6.below hBr hbs (fun q hq => HA.out.1.lo q hq)
      have hs6 := hg6.grown.size
      have HB6 := Lib.hid ((OwI.mono (show OwI w6 w5.heap.size wo.heap.size ab i cb _ from ⟨HB.out.1.kept hg6.grown (fun q hq e => Hap.out q e hq), HB.out.2⟩) (Nat.le_refl _) hs6))
      have Hap6 := Lib.hid (show ∀ k, (Value.slice a6 (i + 1) c6).ownBlock = some k → (Value.slice ab i cb).ownBlock ≠ some k from fun k hk e => by
        rcases hg6.home with h | h
        · exact Hap.out k (h ▸ hk) e
        · have h1 := h k hk
          have h2 := HB.out.2 k e
          omega)
      have H6 := Lib.hid ho6
      obtain ⟨by2, oy, rfl, hcy⟩ := (hry5.below hB6).at (k := i) (by rw [Hyl.out]; exact hlt)
      have hcy1 := hcy i y Hyi.out
      have hbs6 := hB6.size
      clear ho6 hg6 hcy hcz1
      go_wp2_with (first | (at_builtin; go_loud (refine wpList_pushI (x0 := y') (by rfl) (by rfl) _ _ (by rfl) HB6.out (by rfl) (by rfl) (by omega) hbs6 ?_)))
      intro a7 c7 w7 ho7 hg7
      rw [← Hy'.out, Hy.out] at ho7
      have hB7 := hg7.below hB6 hbs6 (fun q hq => HB6.out.1.lo q hq)
      have hs7 := hg7.grown.size
      have HA7 := Lib.hid ((OwI.mono (show OwI w7 w5.heap.size w6.heap.size a6 (i + 1) c6 _ from ⟨H6.out.1.kept hg7.grown (fun q hq e => Hap6.out q hq e), H6.out.2⟩) (Nat.le_refl _) hs7))
      have Hap7 := Lib.hid (show ∀ k, (Value.slice a6 (i + 1) c6).ownBlock = some k → (Value.slice a7 (i + 1) c7).ownBlock ≠ some k from fun k hk e => by
        rcases hg7.home with h | h
        · exact Hap6.out k hk (h ▸ e)
        · have h1 := h k e
          have h2 := H6.out.2 k hk
          omega)
      have H7 := Lib.hid ho7
      clear ho7 hg7 hcy1
      go_wp2
      go_roundw
      case rel => exact ⟨⟨i + 1, _, _, _, _, by go_num, by omega, rfl, rfl, HA7.out, H7.out, Hap7.out⟩, hB7⟩
      case measure => simp [intOf]; omega
    · obtain rfl : i = m := by omega
      have hru6 := hru5.below hBr
      have hry6 := hry5.below hBr
      have hrz6 := hrz5.below hBr
      have hB16 := hB15.trans (hBr.mono hB15.size)
      have Hra := Lib.hid (show RI wo aa (zs.map fun y => 0 - y) by have h := HA.out.rd; unfold negT at h; rw [List.take_of_length_le (by rw [Hzl.out]; exact Nat.le_refl _)] at h; exact h)
      have Hrb := Lib.hid (show RI wo ab (ys.map fun y => 0 - y) by have h := HB.out.rd; unfold negT at h; rw [List.take_of_length_le (by rw [Hyl.out]; exact Nat.le_refl _)] at h; exact h)
      have hac := HA.out.1.lt
      have hbc := HB.out.1.lt
      have Hal := Lib.hid (show (zs.map fun y => 0 - y).length = i by rw [List.length_map, Hzl.out])
      have Hbl := Lib.hid (show (ys.map fun y => 0 - y).length = i by rw [List.length_map, Hyl.out])
      have Hd1 := Lib.hid (dbl_in (n := i) (ys := ys) Hup.out Hul.out Hyl.out hm4 Hys.out)
      have Hd2 := Lib.hid (dbl_in (n := i) (w := inv u) (ys := zs.map fun y => 0 - y) HF.out.perm HF.out.len Hal.out hm4 (neg_low Hzs.out))
      obtain ⟨one, hone⟩ : ∃ one, dblOk u ys = one := ⟨_, rfl⟩
      obtain ⟨two, htwo⟩ : ∃ two, dblOk (inv u) (zs.map fun y => 0 - y) = two := ⟨_, rfl⟩
      have Hone := Lib.hid hone
      have Htwo := Lib.hid htwo
      clear HA HB Hap hone htwo hru5 hry5 hrz5 hB15 hBr
      go_wp2_with fail
      refine (implDbl_any _ _ _ u _ _ _ ys _ hru6 Hul.out (by omega) huc hry6 Hyl.out (by omega) hyc).mono ?_
      rintro e w7 ⟨a7, n7, c7, r7, rfl, ho7, hr7, hB7⟩
      obtain rfl : r7 = one := by rw [hr7.out]; exact Hone.out
      have hB17 := hB16.trans (hB7.mono hB16.size)
      have hru7 := hru6.below hB7
      have hry7 := hry6.below hB7
      have hrz7 := hrz6.below hB7
      have Hra7 := Lib.hid (Hra.out.below hB7)
      have Hrb7 := Lib.hid (Hrb.out.below hB7)
      have Ho7 := Lib.hid ho7
      clear ho7 hr7 hB16 hB7 hru6 hry6 hrz6 Hra Hrb
      go_wp2_with fail
      refine (implInverse_any _ _ _ u _ hru7 Hul.out (by omega) Hup.out hin.out).mono ?_
      rintro e w8 ⟨a8, c8, rfl, ho8, hB8⟩
      have hB18 := hB17.trans (hB8.mono hB17.size)
      have hru8 := hru7.below hB8
      have hry8 := hry7.below hB8
      have hrz8 := hrz7.below hB8
      have Hra8 := Lib.hid (Hra7.out.below hB8)
      have Hrb8 := Lib.hid (Hrb7.out.below hB8)
      have Ho78 := Lib.hid (Ho7.out.below hB8)
      have hri8 := ho8.rd
      have hic := ho8.1.lt
      clear ho8 hB17 hB8 hru7 hry7 hrz7 Hra7 Hrb7 Ho7
      go_wp2_with fail
      refine (implDbl_any _ _ _ (inv u) _ _ _ (zs.map fun y => 0 - y) _ hri8 HF.out.len (by omega) hic Hra8.out Hal.out (by omega) hac).mono ?_
      rintro e w9 ⟨a9, n9, c9, r9, rfl, ho9, hr9, hB9⟩
      obtain rfl : r9 = two := by rw [hr9.out]; exact Htwo.out
      have hB19 := hB18.trans (hB9.mono hB18.size)
      have hru9 := hru8.below hB9
      have hry9 := hry8.below hB9
      have hrz9 := hrz8.below hB9
      have Hra9 := Lib.hid (Hra8.out.below hB9)
      have Hrb9 := Lib.hid (Hrb8.out.below hB9)
      have Ho79 := Lib.hid (Ho78.out.below hB9)
      have Ho9 := Lib.hid ho9
      clear ho9 hr9 hB18 hB9 hru8 hry8 hrz8 Hra8 Hrb8 Ho78 hri8
      by_cases hboth : (r7 && r9) = true
      · rw [Bool.and_eq_true] at hboth
        obtain ⟨rfl, rfl⟩ := hboth
        have p1 : polyOk (termsM (dblM u ys)) = true := by rw [← Hd1.out.2]; exact Hone.out
        have p2 : polyOk (termsM (dblM (inv u) (zs.map fun y => 0 - y))) = true := by rw [← Hd2.out.2]; exact Htwo.out
        have k1 := dbl_okp (w := u) (ys := ys) (by rw [Hul.out]; omega) p1
        have k2 := dbl_okp (w := inv u) (ys := zs.map fun y => 0 - y) (by rw [HF.out.len]; omega) p2
        have P1 := Lib.hid (show PT w9 a7 n7 (dblM u ys) from PT.of (by have h := Ho79.out; rw [Hd1.out.1, closedT_ok p1] at h; exact h) k1)
        have P2 := Lib.hid (show PT w9 a9 n9 (dblM (inv u) (zs.map fun y => 0 - y)) from PT.of (by have h := Ho9.out; rw [Hd2.out.1, closedT_ok p2] at h; exact h) k2)
        have K1 := Lib.hid k1
        have K2 := Lib.hid k2
        clear p1 p2 k1 k2 Ho79 Ho9
        go_wp2_with fail
        refine (filled_any _ _ _ zs _ hrz9 Hzl.out (by omega)).mono ?_
        rintro e wA ⟨aA, cA, rfl, hoA, hBA⟩
        have hB1A := hB19.trans (hBA.mono hB19.size)
        have PA := Lib.hid (P1.out.below hBA)
        have QA := Lib.hid (P2.out.below hBA)
        have HrbA := Lib.hid (Hrb9.out.below hBA)
        have hrA := hoA.rd
        have hlA : (fillTo7 zs 7).length = 7 := fill7_length (by rw [Hzl.out]; omega)
        clear hoA hBA hB19 P1 P2 Hrb9 Hra9 hru9 hry9 hrz9
        obtain ⟨V, hV⟩ : ∃ V, vP (fill7 zs) (dblM u ys) % 32003 = V := ⟨_, rfl⟩
        have e1 : evTo (termsM (dblM u ys)) (fillTo7 zs 7) n7 % 32003 = V := by
          rw [fillTo7_eq, evTo_big (HF.out.low ys Hyl.out Hys.out).1 _ PA.out.len]
          exact hV
        have e2 : evTo (termsM (dblM (inv u) (zs.map fun y => 0 - y))) (fillTo7 (ys.map fun y => 0 - y) 7) n9 % 32003 = V := by
          rw [fillTo7_eq, evTo_big (HF.out.low _ Hal.out (neg_low Hzs.out)).2 _ QA.out.len, ← HF.out.val zs ys Hzl.out Hyl.out]
          exact hV
        have E1 := Lib.hid e1
        have E2 := Lib.hid e2
        clear e1 e2 hV
        go_wp2_with fail
        refine (isInt (implEval_any _ _ _ _ _ (dblM u ys) (fillTo7 zs 7) _ PA.out K1.out hrA hlA) E1.out).mono ?_
        rintro e wB ⟨rfl, hBB⟩
        have hB1B := hB1A.trans (hBB.mono hB1A.size)
        have QB := Lib.hid (QA.out.below hBB)
        have HrbB := Lib.hid (HrbA.out.below hBB)
        clear hBB hB1A QA PA HrbA hrA
        go_wp2_with fail
        refine (filled_any _ _ _ (ys.map fun y => 0 - y) _ HrbB.out Hbl.out (by omega)).mono ?_
        rintro e wC ⟨aC, cC, rfl, hoC, hBC⟩
        have hB1C := hB1B.trans (hBC.mono hB1B.size)
        have QC := Lib.hid (QB.out.below hBC)
        have hrC := hoC.rd
        have hlC : (fillTo7 (ys.map fun y => 0 - y) 7).length = 7 := fill7_length (by rw [Hbl.out]; omega)
        clear hoC hBC hB1B QB HrbB
        go_wp2_with fail
        refine (isInt (implEval_any _ _ _ _ _ (dblM (inv u) (zs.map fun y => 0 - y)) (fillTo7 (ys.map fun y => 0 - y) 7) _ QC.out K2.out hrC hlC) E2.out).mono ?_
        rintro e wD ⟨rfl, hBD⟩
        have hB1D := hB1C.trans (hBD.mono hB1C.size)
        clear hBD hB1C QC hrC
        go_wp2
        go_ret
        exact ⟨ret_bool (by simp), hB1D⟩
      · have hnb : r7 = false ∨ r9 = false := by
          cases r7
          · exact .inl rfl
          · cases r9
            · exact .inr rfl
            · exact absurd rfl hboth
        have Hnb := Lib.hid hnb
        clear hboth hnb
        cases r7 with
        | false =>
          cases r9 with
          | false =>
            go_wp2_with fail
            refine (specDbl_any _ _ _ u _ _ _ ys _ hru9 Hul.out (by omega) huc hry9 Hyl.out (by omega) hyc).mono ?_
            rintro e wA ⟨aA, nA, cA, rA, rfl, hoA, hrA, hBA⟩
            obtain rfl : rA = false := by rw [hrA.out]; exact Hone.out
            have hB1A := hB19.trans (hBA.mono hB19.size)
            have hruA := hru9.below hBA
            have HraA := Lib.hid (Hra9.out.below hBA)
            clear hoA hrA hBA hB19 hru9 Hra9
            go_wp2_with fail
            refine (specInvPerm_any _ _ _ u _ hruA Hul.out (by omega) huc Hup.out hin.out).mono ?_
            rintro e wB ⟨aB, cB, rfl, hoB, hBB⟩
            have hB1B := hB1A.trans (hBB.mono hB1A.size)
            have HraB := Lib.hid (HraA.out.below hBB)
            have hriB := hoB.rd
            have hicB := hoB.1.lt
            clear hoB hBB hB1A hruA HraA
            go_wp2_with fail
            refine (specDbl_any _ _ _ (inv u) _ _ _ (zs.map fun y => 0 - y) _ hriB HF.out.len (by omega) hicB HraB.out Hal.out (by omega) hac).mono ?_
            rintro e wC ⟨aC, nC, cC, rC, rfl, hoC, hrC, hBC⟩
            obtain rfl : rC = false := by rw [hrC.out]; exact Htwo.out
            have hB1C := hB1B.trans (hBC.mono hB1B.size)
            clear hoC hrC hBC hB1B hriB HraB
            go_wp2
            go_ret
            exact ⟨rfl, hB1C⟩
          | true =>
            go_wp2_with fail
            refine (specDbl_any _ _ _ u _ _ _ ys _ hru9 Hul.out (by omega) huc hry9 Hyl.out (by omega) hyc).mono ?_
            rintro e wA ⟨aA, nA, cA, rA, rfl, hoA, hrA, hBA⟩
            obtain rfl : rA = false := by rw [hrA.out]; exact Hone.out
            have hB1A := hB19.trans (hBA.mono hB19.size)
            have hruA := hru9.below hBA
            have HraA := Lib.hid (Hra9.out.below hBA)
            clear hoA hrA hBA hB19 hru9 Hra9
            go_wp2_with fail
            refine (specInvPerm_any _ _ _ u _ hruA Hul.out (by omega) huc Hup.out hin.out).mono ?_
            rintro e wB ⟨aB, cB, rfl, hoB, hBB⟩
            have hB1B := hB1A.trans (hBB.mono hB1A.size)
            have HraB := Lib.hid (HraA.out.below hBB)
            have hriB := hoB.rd
            have hicB := hoB.1.lt
            clear hoB hBB hB1A hruA HraA
            go_wp2_with fail
            refine (specDbl_any _ _ _ (inv u) _ _ _ (zs.map fun y => 0 - y) _ hriB HF.out.len (by omega) hicB HraB.out Hal.out (by omega) hac).mono ?_
            rintro e wC ⟨aC, nC, cC, rC, rfl, hoC, hrC, hBC⟩
            obtain rfl : rC = true := by rw [hrC.out]; exact Htwo.out
            have hB1C := hB1B.trans (hBC.mono hB1B.size)
            clear hoC hrC hBC hB1B hriB HraB
            go_wp2
            go_ret
            exact ⟨rfl, hB1C⟩
        | true =>
          obtain rfl : r9 = false := by rcases Hnb.out with h | h; · cases h
                                        · exact h
          go_wp2_with fail
          refine (specDbl_any _ _ _ u _ _ _ ys _ hru9 Hul.out (by omega) huc hry9 Hyl.out (by omega) hyc).mono ?_
          rintro e wA ⟨aA, nA, cA, rA, rfl, hoA, hrA, hBA⟩
          obtain rfl : rA = true := by rw [hrA.out]; exact Hone.out
          have hB1A := hB19.trans (hBA.mono hB19.size)
          have hruA := hru9.below hBA
          have HraA := Lib.hid (Hra9.out.below hBA)
          clear hoA hrA hBA hB19 hru9 Hra9
          go_wp2_with fail
          refine (specInvPerm_any _ _ _ u _ hruA Hul.out (by omega) huc Hup.out hin.out).mono ?_
          rintro e wB ⟨aB, cB, rfl, hoB, hBB⟩
          have hB1B := hB1A.trans (hBB.mono hB1A.size)
          have HraB := Lib.hid (HraA.out.below hBB)
          have hriB := hoB.rd
          have hicB := hoB.1.lt
          clear hoB hBB hB1A hruA HraA
          go_wp2_with fail
          refine (specDbl_any _ _ _ (inv u) _ _ _ (zs.map fun y => 0 - y) _ hriB HF.out.len (by omega) hicB HraB.out Hal.out (by omega) hac).mono ?_
          rintro e wC ⟨aC, nC, cC, rC, rfl, hoC, hrC, hBC⟩
          obtain rfl : rC = false := by rw [hrC.out]; exact Htwo.out
          have hB1C := hB1B.trans (hBC.mono hB1B.size)
          clear hoC hrC hBC hB1B hriB HraB
          go_wp2
          go_ret
          exact ⟨rfl, hB1C⟩
end Go.Proofs.Ytjljacmepidgcaa
