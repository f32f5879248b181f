/-
  Contracts of DreamPerm, the program's and the reference's.
-/
import Derived.Test.YtnjfbgdighaiiaaDreamWord
import Derived.Test.YtnjfbgdighaiiaaLen
namespace Go.Proofs.Ytnjfbgdighaiiaa
open Go.RowKit

theorem wordOf_length (xs : List (Int × Int)) : (wordOf xs).length = xs.length := by
  rw [wordOf, List.length_map, (wordCells_perm xs).length_eq]
theorem dream_len {N : Int} {xs : List (Int × Int)} (hd : isDream N xs = true) : xs.length ≤ 15 := dream_short (dream_all hd).1.2 (dream_all hd).2
theorem dream_isWord {N : Int} {xs : List (Int × Int)} (hd : isDream N xs = true) : isWord N (wordOf xs) = true := by
  have hn := (dream_all hd).1
  have hl := dream_len hd
  rw [isWord_ok]
  · rw [wordOf_length]
    simp
    omega
  · intro j z _ hz
    have hm := List.mem_of_getElem? hz
    unfold wordOf at hm
    rw [List.mem_map] at hm
    obtain ⟨p, hp, rfl⟩ := hm
    rw [(wordCells_perm xs).mem_iff] at hp
    obtain ⟨k, hk⟩ := List.getElem?_of_mem hp
    have h := dream_in hd (List.getElem?_eq_some_iff.1 hk).1
    rw [cellOf_at hk] at h
    unfold inStair at h
    simp only [Bool.and_eq_true, decide_eq_true_eq] at h
    apply letter_yes
    unfold csum
    omega
def dreamFlag (N : Int) (xs : List (Int × Int)) : Bool := isDream N xs && reduced N (wordOf xs)
def dreamPerm (N : Int) (xs : List (Int × Int)) : List Int := if dreamFlag N xs = true then play N.toNat (wordOf xs) xs.length else []
theorem dreamFlag_no {N : Int} {xs : List (Int × Int)} (h : isDream N xs = false) : dreamFlag N xs = false := by rw [dreamFlag, h]; rfl
theorem dreamFlag_ok {p : Nat} {xs : List (Int × Int)} (h : isDream (p : Int) xs = true) : dreamFlag (p : Int) xs = decide (sumI (code (play p (wordOf xs) xs.length)) = (xs.length : Int)) := by
  rw [dreamFlag, h, reduced, dream_isWord h, wordOf_length]; rfl
theorem dreamPerm_no {N : Int} {xs : List (Int × Int)} (h : dreamFlag N xs = false) : dreamPerm N xs = [] := by rw [dreamPerm, if_neg (by rw [h]; simp)]
theorem dreamPerm_ok {p : Nat} {xs : List (Int × Int)} (h : dreamFlag (p : Int) xs = true) : dreamPerm (p : Int) xs = play p (wordOf xs) xs.length := by rw [dreamPerm, if_pos h]; rfl
theorem dreamPerm_length (N : Int) (xs : List (Int × Int)) : (dreamPerm N xs).length ≤ 15 := by
  cases h : dreamFlag N xs
  · rw [dreamPerm_no h]; simp
  · have hd : isDream N xs = true := by
      cases hd : isDream N xs
      · rw [dreamFlag_no hd] at h; cases h
      · rfl
    have hn := (dream_all hd).1
    obtain ⟨p, rfl⟩ : ∃ p : Nat, N = (p : Int) := ⟨N.toNat, by omega⟩
    rw [dreamPerm_ok h, play_length]
    omega

set_option maxRecDepth 100000 in
set_option maxHeartbeats 1600000 in
theorem specDP_any (N : Int) (a : Option Addr) (n c : Nat) (xs : List (Int × Int)) (w : World) (hl : -9223372036854775808 ≤ N) (hu : N ≤ 9223372036854775807) (hr : RC w a xs) (hn : xs.length = n) (hb : n ≤ 1048576) (_hs : Short_C xs) :
    Calls Try.prog 48 #[.int .i64 N, .slice a n c] w fun e w' => ∃ a' n' c' r, e = .returned (.tuple #[.slice a' n' c', .bool r]) ∧ OwI w' w.heap.size w'.heap.size a' n' c' (dreamPerm N xs) ∧ Hid (r = dreamFlag N xs) ∧ Below w.heap.size w w' := by
  have Hn := Lib.hid hn; clear hn
  cases hd : isDream N xs
  · have Hd := Lib.hid hd
    have Hf := Lib.hid (dreamFlag_no hd)
    have Hw := Lib.hid (dreamPerm_no (dreamFlag_no hd)); clear hd
    go_enter Try.func48, Try.ntmps48
    go_wp2_with fail
    refine (is (specDream_any N _ _ _ xs _ hl hu hr Hn.out hb) Hd.out).mono ?_
    rintro e w1 ⟨rfl, hb1⟩
    go_wp2
    go_ret2
    exact ⟨_, _, _, _, rfl, by rw [Hw.out]; exact OwI.nil, Hf.out.symm, hb1⟩
  have hN := (dream_all hd).1
  obtain ⟨p, rfl⟩ : ∃ p : Nat, N = (p : Int) := ⟨N.toNat, by omega⟩
  have Hd := Lib.hid hd
  have Hlow := Lib.hid (dream_low hd)
  have Hwd := Lib.hid (dream_isWord hd)
  have hfl := dreamFlag_ok hd
  rw [Hn.out] at hfl
  have hp7 : p ≤ 6 := by omega
  have hn15 : n ≤ 15 := by rw [← Hn.out]; exact dream_len hd
  have Hwl := Lib.hid (show (wordOf xs).length = n by rw [wordOf_length, Hn.out])
  obtain ⟨s, hs⟩ : ∃ s, sumI (code (play p (wordOf xs) n)) = s := ⟨_, rfl⟩
  rw [hs] at hfl
  have Hs := Lib.hid hs
  have hok : dreamFlag (p : Int) xs = true → dreamPerm (p : Int) xs = play p (wordOf xs) n := fun h => by rw [dreamPerm_ok h, Hn.out]
  have hno : dreamFlag (p : Int) xs = false → dreamPerm (p : Int) xs = [] := dreamPerm_no
  have Hok := Lib.hid hok
  have Hno := Lib.hid hno
  have Hfl := Lib.hid hfl
  clear hd hs hok hno hfl hN
  go_enter Try.func48, Try.ntmps48
  go_wp2_with fail
  refine (is (specDream_any _ _ _ _ xs _ hl hu hr Hn.out hb) Hd.out).mono ?_
  rintro e w1 ⟨rfl, hb1⟩
  have hr1 := hr.below hb1
  go_wp2_with fail
  refine (l3Word_any _ _ _ xs _ hr1 Hn.out hb Hlow.out).mono ?_
  rintro e w2 ⟨a2, n2, c2, rfl, ho, hb2⟩
  obtain rfl : n = n2 := by rw [← Hwl.out]; exact ho.len
  have hB2 := hb1.trans (hb2.mono hb1.size)
  clear hb1 hb2
  go_wp2_with fail
  refine (l1Play_any _ p _ _ _ (wordOf xs) _ ho.rd Hwl.out (by omega) rfl Hwd.out).mono ?_
  rintro e w3 ⟨a3, c3, rfl, hop, hb3⟩
  have hz2 := hB2.size
  have hB3 := hB2.trans (hb3.mono hB2.size)
  have hz3 := hB3.size
  clear hb3 ho
  go_wp2_with fail
  refine (isInt (l1Length_any _ _ _ (play p (wordOf xs) n) _ hop.rd (play_length _ _ _) (by omega)) Hs.out).mono ?_
  rintro e w4 ⟨rfl, hb4⟩
  have hB4 := hB3.trans (hb4.mono hB3.size)
  have hop4 := (hop.below hb4).mono (B' := w.heap.size) (S' := w4.heap.size) hz2 hb4.size
  clear hop hb4
  by_cases hsn : s = (n : Int)
  · have Hf := Lib.hid (show dreamFlag (p : Int) xs = true by rw [Hfl.out, decide_eq_true_iff]; exact hsn)
    have n1 : (s != (n : Int)) = false := by simp [hsn]
    clear hsn
    go_wp2
    go_ret2
    exact ⟨_, _, _, _, rfl, by rw [Hok.out Hf.out]; exact hop4, Hf.out.symm, hB4⟩
  · have Hf := Lib.hid (show dreamFlag (p : Int) xs = false by rw [Hfl.out, decide_eq_false_iff_not]; exact hsn)
    have n1 : (s != (n : Int)) = true := by simp [hsn]
    clear hsn hop4
    go_wp2
    go_ret2
    exact ⟨_, _, _, _, rfl, by rw [Hno.out Hf.out]; exact OwI.nil, Hf.out.symm, hB4⟩

set_option maxRecDepth 100000 in
set_option maxHeartbeats 1600000 in
theorem implDP_any (N : Int) (a : Option Addr) (n c : Nat) (xs : List (Int × Int)) (w : World) (hl : -9223372036854775808 ≤ N) (hu : N ≤ 9223372036854775807) (hr : RC w a xs) (hn : xs.length = n) (hb : n ≤ 1048576) (hsh : Short_C xs) :
    Calls Try.prog 49 #[.int .i64 N, .slice a n c] w fun e w' => ∃ a' n' c' r, e = .returned (.tuple #[.slice a' n' c', .bool r]) ∧ OwI w' w.heap.size w'.heap.size a' n' c' (dreamPerm N xs) ∧ Hid (r = dreamFlag N xs) ∧ Below w.heap.size w w' := by
  have Hn := Lib.hid hn; clear hn
  cases hd : isDream N xs
  · have Hd := Lib.hid hd
    have Hf := Lib.hid (dreamFlag_no hd)
    have Hw := Lib.hid (dreamPerm_no (dreamFlag_no hd)); clear hd
    go_enter Try.func49, Try.ntmps49
    go_wp2_with fail
    refine (implDW_any N _ _ _ xs _ hl hu hr Hn.out hb hsh).mono ?_
    rintro e w1 ⟨a1, n1, c1, r1, rfl, _, hr1, hb1⟩
    obtain rfl : r1 = false := by rw [hr1.out, Hd.out]
    go_wp2
    go_ret2
    exact ⟨_, _, _, _, rfl, by rw [Hw.out]; exact OwI.nil, Hf.out.symm, hb1⟩
  have hN := (dream_all hd).1
  obtain ⟨p, rfl⟩ : ∃ p : Nat, N = (p : Int) := ⟨N.toNat, by omega⟩
  have Hd := Lib.hid hd
  have Hdw := Lib.hid (dreamWord_ok hd)
  have Hwd := Lib.hid (dream_isWord hd)
  have Hfl := Lib.hid (show reduced (p : Int) (wordOf xs) = dreamFlag (p : Int) xs by rw [dreamFlag, hd]; rfl)
  have hp7 : p ≤ 6 := by omega
  have hn15 : n ≤ 15 := by rw [← Hn.out]; exact dream_len hd
  have Hwl := Lib.hid (show (wordOf xs).length = n by rw [wordOf_length, Hn.out])
  have hok : dreamFlag (p : Int) xs = true → dreamPerm (p : Int) xs = play p (wordOf xs) n := fun h => by rw [dreamPerm_ok h, Hn.out]
  have Hok := Lib.hid hok
  have Hno := Lib.hid (show dreamFlag (p : Int) xs = false → dreamPerm (p : Int) xs = [] from dreamPerm_no)
  clear hd hok hN
  go_enter Try.func49, Try.ntmps49
  go_wp2_with fail
  refine (implDW_any _ _ _ _ xs _ hl hu hr Hn.out hb hsh).mono ?_
  rintro e w1 ⟨a1, n1, c1, r1, rfl, ho, hr1, hb1⟩
  obtain rfl : r1 = true := by rw [hr1.out, Hd.out]
  rw [Hdw.out] at ho
  obtain rfl : n = n1 := by rw [← Hwl.out]; exact ho.len
  clear hr1
  have hz1 := hb1.size
  cases hf : dreamFlag (p : Int) xs
  · have Hf := Lib.hid hf; clear hf
    go_wp2_with fail
    refine (is (isReduced_any _ _ _ _ (wordOf xs) _ ho.rd Hwl.out (by omega) hl hu) (by rw [Hfl.out, Hf.out] : _ = false)).mono ?_
    rintro e w2 ⟨rfl, hb2⟩
    have hB2 := hb1.trans (hb2.mono hb1.size)
    go_wp2
    go_ret2
    exact ⟨_, _, _, _, rfl, by rw [Hno.out Hf.out]; exact OwI.nil, Hf.out.symm, hB2⟩
  · have Hf := Lib.hid hf; clear hf
    go_wp2_with fail
    refine (is (isReduced_any _ _ _ _ (wordOf xs) _ ho.rd Hwl.out (by omega) hl hu) (by rw [Hfl.out, Hf.out] : _ = true)).mono ?_
    rintro e w2 ⟨rfl, hb2⟩
    have hB2 := hb1.trans (hb2.mono hb1.size)
    have ho2 := ho.below hb2
    have hz2 := hB2.size
    clear ho hb1 hb2
    go_wp2_with fail
    refine (wordPerm_any _ p _ _ _ (wordOf xs) _ ho2.rd Hwl.out (by omega) rfl Hwd.out).mono ?_
    rintro e w3 ⟨a3, c3, rfl, hop, hb3⟩
    have hB3 := hB2.trans (hb3.mono hB2.size)
    have hop3 := hop.mono (B' := w.heap.size) (S' := w3.heap.size) hz2 (Nat.le_refl _)
    clear hop hb3
    go_wp2
    go_ret2
    exact ⟨_, _, _, _, rfl, by rw [Hok.out Hf.out]; exact hop3, Hf.out.symm, hB3⟩
end Go.Proofs.Ytnjfbgdighaiiaa
