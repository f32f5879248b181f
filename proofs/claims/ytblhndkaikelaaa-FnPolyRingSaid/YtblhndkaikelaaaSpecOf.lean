/-
  DemazureOf, IsobaricOf and AtomOf of the reference; sizes of their results.
-/
import Derived.Test.YtblhndkaikelaaaBuG
import Derived.Test.YtblhndkaikelaaaSpecShut
import Derived.Test.YtblhndkaikelaaaKT4
namespace Go.Proofs.Ytblhndkaikelaaa
open Go.RowKit

theorem closedT_each {F : Mons} : ∀ p ∈ closedT F, p.1.length = 7 := by
  intro p hp
  unfold closedT at hp
  split at hp
  · obtain ⟨q, _, rfl⟩ := List.mem_map.1 hp
    exact digs_length _
  · cases hp
theorem closedT_len (F : Mons) : (closedT F).length ≤ 600 := by
  unfold closedT
  split
  · rename_i h
    exact polyOk_len h
  · exact Nat.zero_le _
theorem sz_T_sevens {xs : List (List Int × Int)} (h : ∀ p ∈ xs, p.1.length = 7) : sz_T xs = xs.length * 8 := by
  induction xs with
  | nil => rfl
  | cons p r ih =>
    rw [sz_T, ih fun q hq => h q (List.mem_cons_of_mem _ hq), h p List.mem_cons_self, List.length_cons]
    omega
theorem opT_cases (op : Nat → Mons → Mons) (xs : List (List Int × Int)) (x : Int) : opT op xs x = [] ∨ ∃ F, opT op xs x = closedT F := by
  unfold opT
  split
  · exact .inr ⟨_, rfl⟩
  · exact .inl rfl
theorem opT_len (op : Nat → Mons → Mons) (xs : List (List Int × Int)) (x : Int) : (opT op xs x).length ≤ 1048576 := by
  rcases opT_cases op xs x with e | ⟨F, e⟩
  · rw [e]; exact Nat.zero_le _
  · rw [e]; have := closedT_len F; omega
theorem opT_sz (op : Nat → Mons → Mons) (xs : List (List Int × Int)) (x : Int) : sz_T (opT op xs x) ≤ 1099511627776 := by
  rcases opT_cases op xs x with e | ⟨F, e⟩
  · rw [e]; exact Nat.zero_le _
  · rw [e, sz_T_sevens closedT_each]; have := closedT_len F; omega
theorem opT_short (op : Nat → Mons → Mons) (xs : List (List Int × Int)) (x : Int) : ∀ p ∈ opT op xs x, p.1.length ≤ 1048576 := by
  rcases opT_cases op xs x with e | ⟨F, e⟩
  · rw [e]; simp
  · rw [e]; intro p hp; rw [closedT_each p hp]; omega



end Go.Proofs.Ytblhndkaikelaaa
