/-
  Contracts of FormatClasses, the program's and the reference's.
-/
import Derived.Test.YtnjfbgdighaiiaaFmtPerm
import Derived.Test.YtnjfbgdighaiiaaClassesOk2
import Derived.Lib.QuietBelow
import Derived.Deep.RegionHeld3
namespace Go.Proofs.Ytnjfbgdighaiiaa
open Go.RowKit

def colon : ByteArray := ⟨#[58]⟩
def comma : ByteArray := ⟨#[44, 32]⟩
def naught : ByteArray := ⟨#[48]⟩
def piece (p : List Int × Int) : ByteArray := fmt p.2 ++ colon ++ permText p.1
def classesText (xs : List (List Int × Int)) : ByteArray := if classesOk xs = true then (if xs.length = 0 then naught else glue comma (xs.map piece) xs.length) else ⟨#[]⟩
def Counts (xs : List (List Int × Int)) : Prop := ∀ p ∈ xs, -9223372036854775808 ≤ p.2 ∧ p.2 ≤ 9223372036854775807
theorem counts_of {xs : List (List Int × Int)} (h : Wf_P xs) : Counts xs := fun p hp => by
  have := (h p hp).2
  simp [Lit.wf, IntKind.min, IntKind.max, IntKind.signed, IntKind.bits] at this
  omega
theorem classes_in {xs : List (List Int × Int)} (h : classesOk xs = true) : ∀ p ∈ xs, isPerm p.1 = true := by
  intro p hp
  obtain ⟨k, hk⟩ := List.mem_iff_getElem?.1 hp
  have hk2 := (List.getElem?_eq_some_iff.1 hk).1
  unfold classesOk at h
  rw [Bool.and_eq_true, List.all_eq_true] at h
  have := h.2 k (by simpa using hk2)
  unfold classAt at this
  rw [partOf_at hk] at this
  unfold isClass at this
  simp only [Bool.and_eq_true] at this
  exact this.1.1.1.1
theorem perm_text {s : List Int} (h : isPerm s = true) : (permText s).size ≤ 7 := by
  have := perm_len h; rw [permText_size]; omega
theorem piece_size {p : List Int × Int} (h : isPerm p.1 = true) (hc : -9223372036854775808 ≤ p.2 ∧ p.2 ≤ 9223372036854775807) : (piece p).size ≤ 357 := by
  have h1 := fmt_size hc
  have h2 := perm_text h
  have h3 : colon.size = 1 := rfl
  rw [piece, append_size, append_size]
  omega
theorem text_glue_size {xs : List (List Int × Int)} (h : classesOk xs = true) (hc : Counts xs) (k : Nat) : (glue comma (xs.map piece) k).size ≤ k * 359 :=
  glue_size comma _ 357 (fun s hs => by
    obtain ⟨p, hp, rfl⟩ := List.mem_map.1 hs
    exact piece_size (classes_in h p hp) (hc p hp)) k

set_option maxRecDepth 100000 in
set_option maxHeartbeats 3200000 in
theorem specClasses_any (a : Option Addr) (n c : Nat) (xs : List (List Int × Int)) (w : World) (hr : RP w a xs) (hn : xs.length = n) (hb : n ≤ 1048576) (hsh : Short_P xs) (hct : Counts xs) :
    Calls Try.prog 36 #[.slice a n c] w fun e w' => e = .returned (.string (classesText xs)) ∧ Below w.heap.size w w' := by
  have Hn := Lib.hid hn; clear hn
  have HSh := Lib.hid hsh; clear hsh
  have HC := Lib.hid hct; clear hct
  cases hok : classesOk xs
  · have Hok := Lib.hid hok
    have Hres := Lib.hid (show classesText xs = ⟨#[]⟩ by rw [classesText, if_neg (by rw [hok]; simp)])
    clear hok
    go_enter Try.func36, Try.ntmps36
    go_wp2_with fail
    refine (is (specClassesOk_any _ _ _ xs _ hr Hn.out hb HSh.out) Hok.out).mono ?_
    rintro e w1 ⟨rfl, hd⟩
    go_wp2
    go_ret
    exact ⟨by rw [Hres.out]; rfl, hd⟩
  · have Hok := Lib.hid hok
    by_cases h0 : n = 0
    · have Hres := Lib.hid (show classesText xs = naught by rw [classesText, if_pos hok, if_pos (by rw [Hn.out]; exact h0)])
      have e0 : ((n : Int) == 0) = true := by simp; omega
      clear hok h0
      go_enter Try.func36, Try.ntmps36
      go_wp2_with fail
      refine (is (specClassesOk_any _ _ _ xs _ hr Hn.out hb HSh.out) Hok.out).mono ?_
      rintro e w1 ⟨rfl, hd⟩
      go_wp2
      go_ret
      exact ⟨by rw [Hres.out]; rfl, hd⟩
    · have Hres := Lib.hid (show classesText xs = glue comma (xs.map piece) n by rw [classesText, if_pos hok, if_neg (by rw [Hn.out]; exact h0), Hn.out])
      have e0 : ((n : Int) == 0) = false := by simp; omega
      clear hok h0
      go_enter Try.func36, Try.ntmps36
      go_wp2_with fail
      refine (is (specClassesOk_any _ _ _ xs _ hr Hn.out hb HSh.out) Hok.out).mono ?_
      rintro e w1 ⟨rfl, hB1⟩
      go_wp2
      go_loopw [3, 4] (fun s i wr => Hid (∃ k : Nat, k ≤ n ∧ i = .int .i64 k ∧ s = .string (glue comma (xs.map piece) k)) ∧ Below w.heap.size w wr) (fun _ i _ => n - (intOf i).toNat)
      case atStart => exact ⟨⟨0, Nat.zero_le _, rfl, rfl⟩, hB1⟩
      case round =>
        clear hB1
        obtain ⟨HV, hB⟩ := hrel
        obtain ⟨wo, rfl⟩ : ∃ wo : World, wo = wr := ⟨_, rfl⟩
        obtain ⟨k, hk, rfl, rfl⟩ := HV.out
        clear HV
        have hbs := hB.size
        by_cases hlt : k < n
        · obtain ⟨b, off, rfl, hcell⟩ := (hr.below hB).at (k := k) (by rw [Hn.out]; exact hlt)
          obtain ⟨s, x, hx⟩ := part_at Hn.out hlt
          obtain ⟨a1, c1, hc1, hc2, hri, hlc⟩ := hcell k _ hx
          simp only at hc1 hc2 hri hlc
          have hmem := List.mem_of_getElem? hx
          have hper := classes_in Hok.out _ hmem
          obtain ⟨hx0, hx1⟩ := HC.out _ hmem
          simp only at hper hx0 hx1
          have hpc : (xs.map piece)[k]? = some (fmt x ++ colon ++ permText s) := by rw [List.getElem?_map, hx]; rfl
          have hfs : (fmt x).size ≤ 20 := fmt_size ⟨hx0, hx1⟩
          have hgs2 : (permText s).size ≤ 336 := Nat.le_trans (perm_text hper) (by omega)
          have hgs := text_glue_size Hok.out HC.out k
          have h359 : k * 359 ≤ 376438784 := by omega
          obtain ⟨l, hl⟩ : ∃ l, s.length = l := ⟨_, rfl⟩
          have hl7 := perm_len hper
          rw [hl] at hc1 hl7 hlc
          obtain ⟨f, hf⟩ : ∃ f, fmt x = f := ⟨_, rfl⟩
          obtain ⟨g, hg⟩ : ∃ g, permText s = g := ⟨_, rfl⟩
          obtain ⟨u, hu⟩ : ∃ u, glue comma (xs.map piece) k = u := ⟨_, rfl⟩
          have cI : ∀ (d : Nat) (os : Array Obj), Calls Try.prog 86 #[.int .i64 x] (Go.Sort.grow (redrawn wo d) os) fun e w'' => e = .returned (.string f) ∧ ∃ p : Regrown, w'' = Go.Sort.grow (redrawn wo p.d) p.os := by
            intro d os
            refine Calls.regrown_of ?_
            rw [← hf]
            exact specFmt_any x hx0 hx1 _
          have cS : ∀ (d : Nat) (os : Array Obj), Calls Try.prog 87 #[.slice a1 l c1] (Go.Sort.grow (redrawn wo d) os) fun e w'' => e = .returned (.string g) ∧ ∃ p : Regrown, w'' = Go.Sort.grow (redrawn wo p.d) p.os := by
            intro d os
            refine Calls.regrown_of ?_
            rw [← hg]
            exact specFmtPerm_any a1 l c1 s _ (hri.below (below_regrown wo d os)) hl (by omega) hlc hper
          have k1 := fun d os => cell_regrown hc1 d os
          have k2 := fun d os => cell_regrown hc2 d os
          rw [hf] at hfs hpc
          rw [hg] at hgs2 hpc
          rw [hu] at hgs ⊢
          have HU := Lib.hid hu
          have HP := Lib.hid hpc
          have CI := Lib.hid cI
          have CS := Lib.hid cS
          have q1 : (k : Int) < (n : Int) := by omega
          have hcs : (⟨#[58]⟩ : ByteArray).size = 1 := rfl
          have hms : (⟨#[44, 32]⟩ : ByteArray).size = 2 := rfl
          clear hcell hx hmem hpc hl hf hg hu cI cS hri hper
          by_cases hk0 : k = 0
          · have hst : glue comma (xs.map piece) (k + 1) = u ++ f ++ colon ++ g := by
              subst hk0
              rw [glue_first comma HP.out, ← HU.out, glue_zero, empty_append]
            have Hst := Lib.hid hst
            have g0 : ¬ ((0 : Int) < (k : Int)) := by omega
            have z1 : ¬ 9223372036854775807 < u.size + f.size := by omega
            have z2 : ¬ 9223372036854775807 < (u ++ f).size + (⟨#[58]⟩ : ByteArray).size := by rw [append_size]; omega
            have z3 : ¬ 9223372036854775807 < (u ++ f ++ (⟨#[58]⟩ : ByteArray)).size + g.size := by rw [append_size, append_size]; omega
            have y1 : ¬ 9223372036854775807 < u.size + f.size + 1 := by omega
            have y2 : ¬ 9223372036854775807 < u.size + f.size + 1 + g.size := by omega
            clear hst hk0 hcs hms
            go_wp2
            refine wp_region_quiet_below (by kernel_rfl) (by kernel_rfl) ?_
            repeat (quiet_step (first | (go_at_call 86; exact CI.out _ _) | (go_at_call 87; exact CS.out _ _)))
            refine wpQuiet_nil ?_
            intro _ hw'
            obtain ⟨⟨dq, osq⟩, hw''⟩ := hw'
            subst hw''
            have hB2 := hB.trans ((below_regrown wo dq osq).mono hbs)
            go_wp2
            go_roundw
            case rel => exact ⟨⟨k + 1, by omega, by go_num, by rw [Hst.out]; rfl⟩, hB2⟩
            case measure => simp [intOf]; omega
          · have hst : glue comma (xs.map piece) (k + 1) = u ++ comma ++ f ++ colon ++ g := by
              rw [glue_next comma hk0 HP.out, ← HU.out]
              simp only [append_assoc]
            have Hst := Lib.hid hst
            have g0 : (0 : Int) < (k : Int) := by omega
            have z0 : ¬ 9223372036854775807 < u.size + (⟨#[44, 32]⟩ : ByteArray).size := by omega
            have z1 : ¬ 9223372036854775807 < (u ++ (⟨#[44, 32]⟩ : ByteArray)).size + f.size := by rw [append_size]; omega
            have z2 : ¬ 9223372036854775807 < (u ++ (⟨#[44, 32]⟩ : ByteArray) ++ f).size + (⟨#[58]⟩ : ByteArray).size := by rw [append_size, append_size]; omega
            have z3 : ¬ 9223372036854775807 < (u ++ (⟨#[44, 32]⟩ : ByteArray) ++ f ++ (⟨#[58]⟩ : ByteArray)).size + g.size := by rw [append_size, append_size, append_size]; omega
            have y0 : ¬ 9223372036854775807 < u.size + 2 + f.size := by omega
            have y1 : ¬ 9223372036854775807 < u.size + 2 + f.size + 1 := by omega
            have y2 : ¬ 9223372036854775807 < u.size + 2 + f.size + 1 + g.size := by omega
            clear hst hk0 hcs hms
            go_wp2
            refine wp_region_quiet_below (by kernel_rfl) (by kernel_rfl) ?_
            repeat (quiet_step (first | (go_at_call 86; exact CI.out _ _) | (go_at_call 87; exact CS.out _ _)))
            refine wpQuiet_nil ?_
            intro _ hw'
            obtain ⟨⟨dq, osq⟩, hw''⟩ := hw'
            subst hw''
            have hB2 := hB.trans ((below_regrown wo dq osq).mono hbs)
            go_wp2
            go_roundw
            case rel => exact ⟨⟨k + 1, by omega, by go_num, by rw [Hst.out]; rfl⟩, hB2⟩
            case measure => simp [intOf]; omega
        · obtain rfl : k = n := by omega
          go_wp2
          go_ret
          exact ⟨by rw [Hres.out]; rfl, hB⟩
end Go.Proofs.Ytnjfbgdighaiiaa
