/-
  Contracts of DreamPerm, the program's and the reference's.
  Slices of pairs of a slice of integers and an integer: what they read as; compared, measured.
  Slices of pairs of a slice of integers and an integer: measured, compared.
-/
import Derived.Test.YtomejjbkakpoiaaGreatBuY17
import Derived.Test.YtomejjbkakpoiaaGreatBuY18
import Derived.Test.YtomejjbkakpoiaaGreatBuY5
import Derived.StillTailTactics
namespace Go.Proofs.YtomejjbkakpoiaaGreat
open Go.RowKit

theorem wordOf_length (xs : List (Int × Int)) : (wordOf xs).length = xs.length := by
  rw [wordOf, List.length_map, (wordCells_perm xs).length_eq]
theorem dream_len {N : Int} {xs : List (Int × Int)} (hd : isDream N xs = true) : xs.length ≤ 15 := dream_short (dream_all hd).1.2 (dream_all hd).2
theorem dream_isWord {N : Int} {xs : List (Int × Int)} (hd : isDream N xs = true) : isWord N (wordOf xs) = true := by
  have hn := (dream_all hd).1
  have hl := dream_len hd
  rw [isWord_ok]
  · rw [wordOf_length]
    simp
    omega
  · intro j z _ hz
    have hm := List.mem_of_getElem? hz
    unfold wordOf at hm
    rw [List.mem_map] at hm
    obtain ⟨p, hp, rfl⟩ := hm
    rw [(wordCells_perm xs).mem_iff] at hp
    obtain ⟨k, hk⟩ := List.getElem?_of_mem hp
    have h := dream_in hd (List.getElem?_eq_some_iff.1 hk).1
    rw [cellOf_at hk] at h
    unfold inStair at h
    simp only [Bool.and_eq_true, decide_eq_true_eq] at h
    apply letter_yes
    unfold csum
    omega
def dreamFlag (N : Int) (xs : List (Int × Int)) : Bool := isDream N xs && reduced N (wordOf xs)
def dreamPerm (N : Int) (xs : List (Int × Int)) : List Int := if dreamFlag N xs = true then play N.toNat (wordOf xs) xs.length else []
theorem dreamFlag_no {N : Int} {xs : List (Int × Int)} (h : isDream N xs = false) : dreamFlag N xs = false := by rw [dreamFlag, h]; rfl
theorem dreamFlag_ok {p : Nat} {xs : List (Int × Int)} (h : isDream (p : Int) xs = true) : dreamFlag (p : Int) xs = decide (sumI (code (play p (wordOf xs) xs.length)) = (xs.length : Int)) := by
  rw [dreamFlag, h, reduced, dream_isWord h, wordOf_length]; rfl
theorem dreamPerm_no {N : Int} {xs : List (Int × Int)} (h : dreamFlag N xs = false) : dreamPerm N xs = [] := by rw [dreamPerm, if_neg (by rw [h]; simp)]
theorem dreamPerm_ok {p : Nat} {xs : List (Int × Int)} (h : dreamFlag (p : Int) xs = true) : dreamPerm (p : Int) xs = play p (wordOf xs) xs.length := by rw [dreamPerm, if_pos h]; rfl
theorem dreamPerm_length (N : Int) (xs : List (Int × Int)) : (dreamPerm N xs).length ≤ 15 := by
  cases h : dreamFlag N xs
  · rw [dreamPerm_no h]; simp
  · have hd : isDream N xs = true := by
      cases hd : isDream N xs
      · rw [dreamFlag_no hd] at h; cases h
      · rfl
    have hn := (dream_all hd).1
    obtain ⟨p, rfl⟩ : ∃ p : Nat, N = (p : Int) := ⟨N.toNat, by omega⟩
    rw [dreamPerm_ok h, play_length]
    omega

set_option maxRecDepth 100000 in
set_option maxHeartbeats 1600000 in
theorem implDP_any (N : Int) (a : Option Addr) (n c : Nat) (xs : List (Int × Int)) (w : World) (hl : -9223372036854775808 ≤ N) (hu : N ≤ 9223372036854775807) (hr : RC w a xs) (hn : xs.length = n) (hb : n ≤ 1048576) (hsh : Short_C xs) :
    Calls Tryz.prog 8 #[.int .i64 N, .slice a n c] w fun e w' => ∃ a' n' c' r, e = .returned (.tuple #[.slice a' n' c', .bool r]) ∧ OwI w' w.heap.size w'.heap.size a' n' c' (dreamPerm N xs) ∧ Hid (r = dreamFlag N xs) ∧ Below w.heap.size w w' := by
  have Hn := Lib.hid hn; clear hn
  cases hd : isDream N xs
  · have Hd := Lib.hid hd
    have Hf := Lib.hid (dreamFlag_no hd)
    have Hw := Lib.hid (dreamPerm_no (dreamFlag_no hd)); clear hd
    go_enter Tryz.func8, Tryz.ntmps8
    go_wp2_with fail
    refine (implDW_any N _ _ _ xs _ hl hu hr Hn.out hb hsh).mono ?_
    rintro e w1 ⟨a1, n1, c1, r1, rfl, _, hr1, hb1⟩
    obtain rfl : r1 = false := by rw [hr1.out, Hd.out]
    go_wp2
    go_ret2
    exact ⟨_, _, _, _, rfl, by rw [Hw.out]; exact OwI.nil, Hf.out.symm, hb1⟩
  have hN := (dream_all hd).1
  obtain ⟨p, rfl⟩ : ∃ p : Nat, N = (p : Int) := ⟨N.toNat, by omega⟩
  have Hd := Lib.hid hd
  have Hdw := Lib.hid (dreamWord_ok hd)
  have Hwd := Lib.hid (dream_isWord hd)
  have Hfl := Lib.hid (show reduced (p : Int) (wordOf xs) = dreamFlag (p : Int) xs by rw [dreamFlag, hd]; rfl)
  have hp7 : p ≤ 6 := by omega
  have hn15 : n ≤ 15 := by rw [← Hn.out]; exact dream_len hd
  have Hwl := Lib.hid (show (wordOf xs).length = n by rw [wordOf_length, Hn.out])
  have hok : dreamFlag (p : Int) xs = true → dreamPerm (p : Int) xs = play p (wordOf xs) n := fun h => by rw [dreamPerm_ok h, Hn.out]
  have Hok := Lib.hid hok
  have Hno := Lib.hid (show dreamFlag (p : Int) xs = false → dreamPerm (p : Int) xs = [] from dreamPerm_no)
  clear hd hok hN
  go_enter Tryz.func8, Tryz.ntmps8
  go_wp2_with fail
  refine (implDW_any _ _ _ _ xs _ hl hu hr Hn.out hb hsh).mono ?_
  rintro e w1 ⟨a1, n1, c1, r1, rfl, ho, hr1, hb1⟩
  obtain rfl : r1 = true := by rw [hr1.out, Hd.out]
  rw [Hdw.out] at ho
  obtain rfl : n = n1 := by rw [← Hwl.out]; exact ho.len
  clear hr1
  have hz1 := hb1.size
  cases hf : dreamFlag (p : Int) xs
  · have Hf := Lib.hid hf; clear hf
    go_wp2_with fail
    refine (is (isReduced_any _ _ _ _ (wordOf xs) _ ho.rd Hwl.out (by omega) hl hu) (by rw [Hfl.out, Hf.out] : _ = false)).mono ?_
    rintro e w2 ⟨rfl, hb2⟩
    have hB2 := hb1.trans (hb2.mono hb1.size)
    go_wp2
    go_ret2
    exact ⟨_, _, _, _, rfl, by rw [Hno.out Hf.out]; exact OwI.nil, Hf.out.symm, hB2⟩
  · have Hf := Lib.hid hf; clear hf
    go_wp2_with fail
    refine (is (isReduced_any _ _ _ _ (wordOf xs) _ ho.rd Hwl.out (by omega) hl hu) (by rw [Hfl.out, Hf.out] : _ = true)).mono ?_
    rintro e w2 ⟨rfl, hb2⟩
    have hB2 := hb1.trans (hb2.mono hb1.size)
    have ho2 := ho.below hb2
    have hz2 := hB2.size
    clear ho hb1 hb2
    go_wp2_with fail
    refine (wordPerm_any _ p _ _ _ (wordOf xs) _ ho2.rd Hwl.out (by omega) rfl Hwd.out).mono ?_
    rintro e w3 ⟨a3, c3, rfl, hop, hb3⟩
    have hB3 := hB2.trans (hb3.mono hB2.size)
    have hop3 := hop.mono (B' := w.heap.size) (S' := w3.heap.size) hz2 (Nat.le_refl _)
    clear hop hb3
    go_wp2
    go_ret2
    exact ⟨_, _, _, _, rfl, by rw [Hok.out Hf.out]; exact hop3, Hf.out.symm, hB3⟩
end Go.Proofs.YtomejjbkakpoiaaGreat

namespace Go.Proofs.YtomejjbkakpoiaaGreat
open Go.RowKit

/-- the slice at address a reads as pairs -/
def RP (w : World) (a : Option Addr) (xs : List (List Int × Int)) : Prop :=
  xs = [] ∨ ∃ b off, a = some ⟨b, off, none⟩ ∧ ∀ k p, xs[k]? = some p → ∃ a' c', w.cell? ⟨b, off + k * 2, none⟩ = some (.slice a' p.1.length c') ∧ w.cell? ⟨b, off + k * 2 + 1, none⟩ = some (.int .i64 p.2) ∧ RI w a' p.1 ∧ p.1.length ≤ c'
theorem RP.at {w : World} {a : Option Addr} {xs : List (List Int × Int)} (h : RP w a xs) {k : Nat} (hk : k < xs.length) :
    ∃ b off, a = some ⟨b, off, none⟩ ∧ ∀ k p, xs[k]? = some p → ∃ a' c', w.cell? ⟨b, off + k * 2, none⟩ = some (.slice a' p.1.length c') ∧ w.cell? ⟨b, off + k * 2 + 1, none⟩ = some (.int .i64 p.2) ∧ RI w a' p.1 ∧ p.1.length ≤ c' := by
  rcases h with rfl | h
  · simp at hk
  · exact h
theorem RP.below {w w' : World} {a : Option Addr} {xs : List (List Int × Int)} (h : RP w a xs) (hb : Below w.heap.size w w') : RP w' a xs := by
  rcases h with h | ⟨b, off, ha, hc⟩
  · exact .inl h
  · exact .inr ⟨b, off, ha, fun k x hx => by
      obtain ⟨a', c', h1, h2, h3, h4⟩ := hc k x hx
      exact ⟨a', c', by rw [hb.cell (World.block_lt_of_cell? w _ h1)]; exact h1, by rw [hb.cell (World.block_lt_of_cell? w _ h2)]; exact h2, h3.below hb, h4⟩⟩
theorem part_at {xs : List (List Int × Int)} {n k : Nat} (h : xs.length = n) (hk : k < n) : ∃ p q, xs[k]? = some (p, q) := ⟨(xs[k]'(by omega)).1, (xs[k]'(by omega)).2, List.getElem?_eq_getElem (by omega)⟩

end Go.Proofs.YtomejjbkakpoiaaGreat

namespace Go.Proofs.YtomejjbkakpoiaaGreat
open Go.RowKit

def heads (xs : List (List Int × Int)) : List (List Int) := xs.map fun p => p.1
def Wide_P (n : Nat) (xs : List (List Int × Int)) : Prop := n ≤ 9223372036854775807 ∧ ∀ p ∈ xs, p.1.length ≤ 9223372036854775807
def ms_P (xs : List (List Int × Int)) : Nat := xs.length + sz_II (heads xs)
theorem heads_at {xs : List (List Int × Int)} {k : Nat} {p : List Int × Int} (h : xs[k]? = some p) : (heads xs)[k]? = some p.1 := by simp [heads, h]
theorem heads_length (xs : List (List Int × Int)) : (heads xs).length = xs.length := by simp [heads]

theorem eqq_of_all {xs ys : List (List Int × Int)} (hl : xs.length = ys.length) (h : ∀ j, j < xs.length → xs[j]? = ys[j]?) : decide (xs = ys) = true := by
  rw [decide_eq_true_iff]
  apply List.ext_getElem?
  intro j
  rcases Nat.lt_or_ge j xs.length with h1 | h1
  · exact h j h1
  · rw [List.getElem?_eq_none h1, List.getElem?_eq_none (by omega)]
theorem neq_of_at {xs ys : List (List Int × Int)} {k : Nat} {x y : List Int × Int} (hx : xs[k]? = some x) (hy : ys[k]? = some y) (h : x ≠ y) : decide (xs = ys) = false := by
  rw [decide_eq_false_iff_not]
  rintro rfl
  rw [hx] at hy
  exact h (by simpa using hy)

end Go.Proofs.YtomejjbkakpoiaaGreat
