/-
  DemazureOf, IsobaricOf and AtomOf of the reference; sizes of their results.
-/
import Derived.Test.YtiiiiolifpaehaaSpecDem
import Derived.Test.YtiiiiolifpaehaaSpecShut
import Derived.Test.YtiiiiolifpaehaaKT4
namespace Go.Proofs.Ytiiiiolifpaehaa
open Go.RowKit

theorem closedT_each {F : Mons} : ∀ p ∈ closedT F, p.1.length = 7 := by
  intro p hp
  unfold closedT at hp
  split at hp
  · obtain ⟨q, _, rfl⟩ := List.mem_map.1 hp
    exact digs_length _
  · cases hp
theorem closedT_len (F : Mons) : (closedT F).length ≤ 600 := by
  unfold closedT
  split
  · rename_i h
    exact polyOk_len h
  · exact Nat.zero_le _
theorem sz_T_sevens {xs : List (List Int × Int)} (h : ∀ p ∈ xs, p.1.length = 7) : sz_T xs = xs.length * 8 := by
  induction xs with
  | nil => rfl
  | cons p r ih =>
    rw [sz_T, ih fun q hq => h q (List.mem_cons_of_mem _ hq), h p List.mem_cons_self, List.length_cons]
    omega
theorem opT_cases (op : Nat → Mons → Mons) (xs : List (List Int × Int)) (x : Int) : opT op xs x = [] ∨ ∃ F, opT op xs x = closedT F := by
  unfold opT
  split
  · exact .inr ⟨_, rfl⟩
  · exact .inl rfl
theorem opT_len (op : Nat → Mons → Mons) (xs : List (List Int × Int)) (x : Int) : (opT op xs x).length ≤ 1048576 := by
  rcases opT_cases op xs x with e | ⟨F, e⟩
  · rw [e]; exact Nat.zero_le _
  · rw [e]; have := closedT_len F; omega
theorem opT_sz (op : Nat → Mons → Mons) (xs : List (List Int × Int)) (x : Int) : sz_T (opT op xs x) ≤ 1099511627776 := by
  rcases opT_cases op xs x with e | ⟨F, e⟩
  · rw [e]; exact Nat.zero_le _
  · rw [e, sz_T_sevens closedT_each]; have := closedT_len F; omega
theorem opT_short (op : Nat → Mons → Mons) (xs : List (List Int × Int)) (x : Int) : ∀ p ∈ opT op xs x, p.1.length ≤ 1048576 := by
  rcases opT_cases op xs x with e | ⟨F, e⟩
  · rw [e]; simp
  · rw [e]; intro p hp; rw [closedT_each p hp]; omega

set_option maxRecDepth 100000 in
set_option maxHeartbeats 3200000 in
theorem specDemOf_any (a : Option Addr) (n c : Nat) (xs : List (List Int × Int)) (x : Int) (w : World) (hr : RP w a xs) (hn : xs.length = n) (hb : n ≤ 1048576) (_hsh : Short_P xs) (_hl : -9223372036854775808 ≤ x) (_hu : x ≤ 9223372036854775807) :
    Calls Try.prog 56 #[.slice a n c, .int .i64 x] w fun e w' => ∃ a' n' c' r, e = .returned (.tuple #[.slice a' n' c', .bool r]) ∧ TO w' w.heap.size w'.heap.size a' n' c' (opT demM xs x) ∧ Hid (r = opOk demM xs x) ∧ Below w.heap.size w w' := by
  have Hn := Lib.hid hn; clear hn
  cases hok : polyOk xs
  · have H0 := Lib.hid (opT_no (op := demM) (x := x) (.inl hok))
    have Hok := Lib.hid hok
    clear hok
    go_enter Try.func56, Try.ntmps56
    go_wp2_with fail
    refine (is (specPolyOk_any _ _ _ xs _ hr Hn.out hb) Hok.out).mono ?_
    rintro e w1 ⟨rfl, hb1⟩
    go_wp2
    go_ret2
    exact ⟨_, _, _, _, rfl, by rw [H0.out.1]; exact TO.nil, H0.out.2.symm, hb1⟩
  have Hok := Lib.hid hok
  cases hv : isVar x
  · have H0 := Lib.hid (opT_no (op := demM) (xs := xs) (.inr hv))
    have Hv := Lib.hid hv
    clear hok hv
    go_enter Try.func56, Try.ntmps56
    go_wp2_with fail
    refine (is (specPolyOk_any _ _ _ xs _ hr Hn.out hb) Hok.out).mono ?_
    rintro e w1 ⟨rfl, hb1⟩
    go_wp2_with fail
    refine (is (l2Variable_any x _) Hv.out).mono ?_
    rintro e w2 ⟨rfl, hd2⟩
    have hB2 := hb1.trans (hd2.below _)
    go_wp2
    go_ret2
    exact ⟨_, _, _, _, rfl, by rw [H0.out.1]; exact TO.nil, H0.out.2.symm, hB2⟩
  have H0 := Lib.hid (opT_yes (op := demM) hok hv)
  have Hv := Lib.hid hv
  have hx : 0 ≤ x ∧ x ≤ 5 := by simpa [isVar] using hv
  have hxi : x = (x.toNat : Int) := by omega
  have hx5 : x.toNat ≤ 5 := by omega
  have hn600 : n ≤ 600 := by rw [← Hn.out]; exact polyOk_len hok
  have HBd := Lib.hid ((polyOk_mons hok).mono (show (24 : Int) ≤ 126 by omega))
  have H64 := Lib.hid (polyOk_in64 hok)
  clear hok hv
  generalize x.toNat = i at *
  have Hxi := Lib.hid hxi
  clear hxi
  go_enter Try.func56, Try.ntmps56
  go_wp2_with fail
  refine (is (specPolyOk_any _ _ _ xs _ hr Hn.out hb) Hok.out).mono ?_
  rintro e w1 ⟨rfl, hb1⟩
  go_wp2_with fail
  refine (is (l2Variable_any x _) Hv.out).mono ?_
  rintro e w2 ⟨rfl, hd2⟩
  have hB2 := hb1.trans (hd2.below _)
  have hr2 := hr.below hB2
  go_wp2_with fail
  refine (l2Open_any _ _ _ xs _ hr2 Hn.out Hok.out).mono ?_
  rintro e w3 ⟨a3, c3, rfl, ho3, hb3⟩
  have hB3 := hB2.trans (hb3.mono hB2.size)
  have Ho3 := Lib.hid ho3
  clear ho3
  go_wp2_with fail
  refine (l2Demazure_any _ _ _ i x (monsOf xs) _ Ho3.out.rd Ho3.out.len (by omega) Hxi.out hx5 HBd.out).mono ?_
  rintro e w4 ⟨a4, n4, c4, rfl, ho4, hb4⟩
  have hB4 := hB3.trans (hb4.mono hB3.size)
  have Ho4 := Lib.hid ho4
  clear ho4
  go_wp2_with fail
  refine (l2Shut_any _ _ _ (demM i (monsOf xs)) _ Ho4.out.rd Ho4.out.len (fun p hp => ((HBd.out.dem hx5 (Int.le_refl _)).canon p hp).1)).mono ?_
  rintro e w9 ⟨a9, n9, c9, r9, rfl, ho9, hh9, hb9⟩
  have hB9 := hB4.trans (hb9.mono hB4.size)
  have Ho9 := Lib.hid (ho9.mono (B' := w.heap.size) (S' := w9.heap.size) hB4.size (Nat.le_refl _))
  clear ho9
  go_wp2
  go_ret2
  exact ⟨_, _, _, _, rfl, by rw [H0.out.1]; exact Ho9.out, by rw [H0.out.2]; exact hh9, hB9⟩

set_option maxRecDepth 100000 in
set_option maxHeartbeats 3200000 in
theorem specIsoOf_any (a : Option Addr) (n c : Nat) (xs : List (List Int × Int)) (x : Int) (w : World) (hr : RP w a xs) (hn : xs.length = n) (hb : n ≤ 1048576) (_hsh : Short_P xs) (_hl : -9223372036854775808 ≤ x) (_hu : x ≤ 9223372036854775807) :
    Calls Try.prog 62 #[.slice a n c, .int .i64 x] w fun e w' => ∃ a' n' c' r, e = .returned (.tuple #[.slice a' n' c', .bool r]) ∧ TO w' w.heap.size w'.heap.size a' n' c' (opT isoM xs x) ∧ Hid (r = opOk isoM xs x) ∧ Below w.heap.size w w' := by
  have Hn := Lib.hid hn; clear hn
  cases hok : polyOk xs
  · have H0 := Lib.hid (opT_no (op := isoM) (x := x) (.inl hok))
    have Hok := Lib.hid hok
    clear hok
    go_enter Try.func62, Try.ntmps62
    go_wp2_with fail
    refine (is (specPolyOk_any _ _ _ xs _ hr Hn.out hb) Hok.out).mono ?_
    rintro e w1 ⟨rfl, hb1⟩
    go_wp2
    go_ret2
    exact ⟨_, _, _, _, rfl, by rw [H0.out.1]; exact TO.nil, H0.out.2.symm, hb1⟩
  have Hok := Lib.hid hok
  cases hv : isVar x
  · have H0 := Lib.hid (opT_no (op := isoM) (xs := xs) (.inr hv))
    have Hv := Lib.hid hv
    clear hok hv
    go_enter Try.func62, Try.ntmps62
    go_wp2_with fail
    refine (is (specPolyOk_any _ _ _ xs _ hr Hn.out hb) Hok.out).mono ?_
    rintro e w1 ⟨rfl, hb1⟩
    go_wp2_with fail
    refine (is (l2Variable_any x _) Hv.out).mono ?_
    rintro e w2 ⟨rfl, hd2⟩
    have hB2 := hb1.trans (hd2.below _)
    go_wp2
    go_ret2
    exact ⟨_, _, _, _, rfl, by rw [H0.out.1]; exact TO.nil, H0.out.2.symm, hB2⟩
  have H0 := Lib.hid (opT_yes (op := isoM) hok hv)
  have Hv := Lib.hid hv
  have hx : 0 ≤ x ∧ x ≤ 5 := by simpa [isVar] using hv
  have hxi : x = (x.toNat : Int) := by omega
  have hx5 : x.toNat ≤ 5 := by omega
  have hn600 : n ≤ 600 := by rw [← Hn.out]; exact polyOk_len hok
  have HBd := Lib.hid ((polyOk_mons hok).mono (show (24 : Int) ≤ 126 by omega))
  have H64 := Lib.hid (polyOk_in64 hok)
  clear hok hv
  generalize x.toNat = i at *
  have Hxi := Lib.hid hxi
  clear hxi
  go_enter Try.func62, Try.ntmps62
  go_wp2_with fail
  refine (is (specPolyOk_any _ _ _ xs _ hr Hn.out hb) Hok.out).mono ?_
  rintro e w1 ⟨rfl, hb1⟩
  go_wp2_with fail
  refine (is (l2Variable_any x _) Hv.out).mono ?_
  rintro e w2 ⟨rfl, hd2⟩
  have hB2 := hb1.trans (hd2.below _)
  have hr2 := hr.below hB2
  go_wp2_with fail
  refine (l2Open_any _ _ _ xs _ hr2 Hn.out Hok.out).mono ?_
  rintro e w3 ⟨a3, c3, rfl, ho3, hb3⟩
  have hB3 := hB2.trans (hb3.mono hB2.size)
  have Ho3 := Lib.hid ho3
  clear ho3
  go_wp2_with fail
  refine (l2Isobaric_any _ _ _ _ _ i x (monsOf xs) _ Ho3.out (by omega) Hxi.out hx5 HBd.out H64.out).mono ?_
  rintro e w4 ⟨a4, n4, c4, rfl, ho4, hb4⟩
  have hB4 := hB3.trans (hb4.mono hB3.size)
  have Ho4 := Lib.hid ho4
  clear ho4
  go_wp2_with fail
  refine (l2Shut_any _ _ _ (isoM i (monsOf xs)) _ Ho4.out.rd Ho4.out.len (fun p hp => ((HBd.out.iso hx5 (Int.le_refl _)).canon p hp).1)).mono ?_
  rintro e w9 ⟨a9, n9, c9, r9, rfl, ho9, hh9, hb9⟩
  have hB9 := hB4.trans (hb9.mono hB4.size)
  have Ho9 := Lib.hid (ho9.mono (B' := w.heap.size) (S' := w9.heap.size) hB4.size (Nat.le_refl _))
  clear ho9
  go_wp2
  go_ret2
  exact ⟨_, _, _, _, rfl, by rw [H0.out.1]; exact Ho9.out, by rw [H0.out.2]; exact hh9, hB9⟩

set_option maxRecDepth 100000 in
set_option maxHeartbeats 3200000 in
theorem specAtomOf_any (a : Option Addr) (n c : Nat) (xs : List (List Int × Int)) (x : Int) (w : World) (hr : RP w a xs) (hn : xs.length = n) (hb : n ≤ 1048576) (_hsh : Short_P xs) (_hl : -9223372036854775808 ≤ x) (_hu : x ≤ 9223372036854775807) :
    Calls Try.prog 64 #[.slice a n c, .int .i64 x] w fun e w' => ∃ a' n' c' r, e = .returned (.tuple #[.slice a' n' c', .bool r]) ∧ TO w' w.heap.size w'.heap.size a' n' c' (opT atomM xs x) ∧ Hid (r = opOk atomM xs x) ∧ Below w.heap.size w w' := by
  have Hn := Lib.hid hn; clear hn
  cases hok : polyOk xs
  · have H0 := Lib.hid (opT_no (op := atomM) (x := x) (.inl hok))
    have Hok := Lib.hid hok
    clear hok
    go_enter Try.func64, Try.ntmps64
    go_wp2_with fail
    refine (is (specPolyOk_any _ _ _ xs _ hr Hn.out hb) Hok.out).mono ?_
    rintro e w1 ⟨rfl, hb1⟩
    go_wp2
    go_ret2
    exact ⟨_, _, _, _, rfl, by rw [H0.out.1]; exact TO.nil, H0.out.2.symm, hb1⟩
  have Hok := Lib.hid hok
  cases hv : isVar x
  · have H0 := Lib.hid (opT_no (op := atomM) (xs := xs) (.inr hv))
    have Hv := Lib.hid hv
    clear hok hv
    go_enter Try.func64, Try.ntmps64
    go_wp2_with fail
    refine (is (specPolyOk_any _ _ _ xs _ hr Hn.out hb) Hok.out).mono ?_
    rintro e w1 ⟨rfl, hb1⟩
    go_wp2_with fail
    refine (is (l2Variable_any x _) Hv.out).mono ?_
    rintro e w2 ⟨rfl, hd2⟩
    have hB2 := hb1.trans (hd2.below _)
    go_wp2
    go_ret2
    exact ⟨_, _, _, _, rfl, by rw [H0.out.1]; exact TO.nil, H0.out.2.symm, hB2⟩
  have H0 := Lib.hid (opT_yes (op := atomM) hok hv)
  have Hv := Lib.hid hv
  have hx : 0 ≤ x ∧ x ≤ 5 := by simpa [isVar] using hv
  have hxi : x = (x.toNat : Int) := by omega
  have hx5 : x.toNat ≤ 5 := by omega
  have hn600 : n ≤ 600 := by rw [← Hn.out]; exact polyOk_len hok
  have HBd := Lib.hid ((polyOk_mons hok).mono (show (24 : Int) ≤ 126 by omega))
  have H64 := Lib.hid (polyOk_in64 hok)
  clear hok hv
  generalize x.toNat = i at *
  have Hxi := Lib.hid hxi
  clear hxi
  go_enter Try.func64, Try.ntmps64
  go_wp2_with fail
  refine (is (specPolyOk_any _ _ _ xs _ hr Hn.out hb) Hok.out).mono ?_
  rintro e w1 ⟨rfl, hb1⟩
  go_wp2_with fail
  refine (is (l2Variable_any x _) Hv.out).mono ?_
  rintro e w2 ⟨rfl, hd2⟩
  have hB2 := hb1.trans (hd2.below _)
  have hr2 := hr.below hB2
  go_wp2_with fail
  refine (l2Open_any _ _ _ xs _ hr2 Hn.out Hok.out).mono ?_
  rintro e w3 ⟨a3, c3, rfl, ho3, hb3⟩
  have hB3 := hB2.trans (hb3.mono hB2.size)
  have Ho3 := Lib.hid ho3
  clear ho3
  go_wp2_with fail
  refine (l2Demazure_any _ _ _ i x (monsOf xs) _ Ho3.out.rd Ho3.out.len (by omega) Hxi.out hx5 HBd.out).mono ?_
  rintro e w4 ⟨a4, n4, c4, rfl, ho4, hb4⟩
  have hB4 := hB3.trans (hb4.mono hB3.size)
  have Ho4 := Lib.hid ho4
  have hn4 : n4 ≤ 600 * 127 := by
    have h1 := Ho4.out.len
    rw [show canon (demM i (monsOf xs)) = canon (dividedW i (canon (raisedM i (monsOf xs)))) from (canon_eqv ((dividedW_eqv i (canon (raisedM i (monsOf xs)))).trans (dividedM_eqv (canon_self _)))).symm] at h1
    have h2 := canon_le (dividedW i (canon (raisedM i (monsOf xs))))
    have h3 := dividedW_le i (canon (raisedM i (monsOf xs)))
    have h4 := canon_le (raisedM i (monsOf xs))
    have h5 : (raisedM i (monsOf xs)).length = n := by unfold raisedM monsOf; rw [List.length_map, List.length_map, Hn.out]
    omega
  have hr4 := hr.below hB4
  clear ho4
  go_wp2_with fail
  refine (l2Open_any _ _ _ xs _ hr4 Hn.out Hok.out).mono ?_
  rintro e w5 ⟨a5, c5, rfl, ho5, hb5⟩
  have hB5 := hB4.trans (hb5.mono hB4.size)
  have Ho5 := Lib.hid ho5
  have Ho45 := Lib.hid (Ho4.out.below hb5)
  clear ho5
  go_wp2_with fail
  refine (l2Plus_any _ _ _ _ _ _ _ _ _ _ _ _ Ho45.out Ho5.out.rd Ho5.out.len (by omega) (canon_64 _)).mono ?_
  rintro e w6 ⟨a6, n6, c6, rfl, ho6, hb6⟩
  have hB6 := hB5.trans (hb6.mono hB5.size)
  rw [canon_eqv (plusM_eqv (canon_self (demM i (monsOf xs))) (Eqv.refl (monsOf xs)))] at ho6
  have Ho6 := Lib.hid ho6
  clear ho6
  go_wp2_with fail
  refine (l2Shut_any _ _ _ (atomM i (monsOf xs)) _ Ho6.out.rd Ho6.out.len (fun p hp => (((HBd.out.dem hx5 (Int.le_refl _)).plus HBd.out).canon p hp).1)).mono ?_
  rintro e w9 ⟨a9, n9, c9, r9, rfl, ho9, hh9, hb9⟩
  have hB9 := hB6.trans (hb9.mono hB6.size)
  have Ho9 := Lib.hid (ho9.mono (B' := w.heap.size) (S' := w9.heap.size) hB6.size (Nat.le_refl _))
  clear ho9
  go_wp2
  go_ret2
  exact ⟨_, _, _, _, rfl, by rw [H0.out.1]; exact Ho9.out, by rw [H0.out.2]; exact hh9, hB9⟩
end Go.Proofs.Ytiiiiolifpaehaa
