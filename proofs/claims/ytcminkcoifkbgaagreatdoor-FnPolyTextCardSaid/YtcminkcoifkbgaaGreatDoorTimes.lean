/-
  Contract of times: the product of two polynomials of the program.
-/
import Derived.Test.YtcminkcoifkbgaaGreatDoorBuC
namespace Go.Proofs.YtcminkcoifkbgaaGreatDoor
open Go.RowKit Go.MapKept Go.ChangeMaps

/-- the exponents of a, the first i of them with those of b added -/
def addTo (a b : Int) : Nat → Int
  | 0 => a
  | i + 1 => dset (addTo a b i) i (dig a i + dig b i)
theorem addTo_digs {a b : Int} (ha : inK a) (hs : ∀ i : Nat, i < 7 → dig a i + dig b i ≤ 127) : ∀ i : Nat, i ≤ 7 → inK (addTo a b i) ∧ ∀ j : Nat, j < 7 → dig (addTo a b i) j = if j < i then dig a j + dig b j else dig a j
  | 0, _ => ⟨ha, fun j _ => by simp [addTo]⟩
  | i + 1, hi => by
    obtain ⟨h1, h2⟩ := addTo_digs ha hs i (by omega)
    have r1 := dig_range a i
    have r2 := dig_range b i
    have h3 := hs i (by omega)
    obtain ⟨e1, e2, e3⟩ := dset_digs h1 (i := i) (by omega) (x := dig a i + dig b i) (by unfold isD; omega)
    refine ⟨e1, fun j hj => ?_⟩
    by_cases h : j = i
    · subst h
      show dig (dset _ j _) j = _
      rw [e2, if_pos (by omega)]
    · show dig (dset _ i _) j = _
      rw [e3 j hj h, h2 j hj]
      by_cases h' : j < i
      · rw [if_pos h', if_pos (by omega)]
      · rw [if_neg h', if_neg (by omega)]
theorem addTo_all {a b : Int} (ha : inK a) (hb : inK b) (hs : ∀ i : Nat, i < 7 → dig a i + dig b i ≤ 127) : addTo a b 7 = a + b := by
  obtain ⟨h1, h2⟩ := addTo_digs ha hs 7 (by omega)
  obtain ⟨h3, h4⟩ := key_add ha hb hs
  exact key_ext h1 h3 fun i hi => by rw [h2 i hi, h4 i hi, if_pos hi]
/-- one monomial times a polynomial -/
def rowT (k c : Int) (l : Mons) : Mons := l.map fun q => (k + q.1, c * q.2)
theorem timesM_cons (k c : Int) (F G : Mons) : timesM ((k, c) :: F) G = rowT k c G ++ timesM F G := by
  unfold timesM rowT
  rw [List.flatMap_cons]

end Go.Proofs.YtcminkcoifkbgaaGreatDoor
