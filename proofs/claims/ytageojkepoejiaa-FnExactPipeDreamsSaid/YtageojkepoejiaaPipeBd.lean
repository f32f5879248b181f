/-
  PipeDreams: both contracts, and bounds of what comes out.
-/
import Derived.Test.YtageojkepoejiaaPipeEq
import Derived.Test.YtageojkepoejiaaPipeI
namespace Go.Proofs.Ytageojkepoejiaa
open Go.RowKit

theorem pipeT_each (xs : List Int) : (pipeT xs).length ≤ 400 ∧ ∀ d ∈ pipeT xs, d.length ≤ 36 := by
  by_cases h : isPerm xs = true ∧ xs.length ≤ 6
  · obtain ⟨h1, _, h3⟩ := pipe_eq h.1 h.2
    rw [h3]
    refine ⟨?_, fun d hd => ?_⟩
    · have := ascD_length ((drS xs).map sortD)
      rw [List.length_map] at this
      omega
    · rw [mem_ascD, List.mem_map] at hd
      obtain ⟨e, he, rfl⟩ := hd
      rw [sortD_length]
      exact drS_each h.2 e he
  · rw [pipeT, if_neg h]
    exact ⟨by simp, fun d hd => by cases hd⟩
theorem pipeT_len (xs : List Int) : (pipeT xs).length ≤ 1048576 := Nat.le_trans (pipeT_each xs).1 (by omega)
theorem pipeT_sz (xs : List Int) : sz_CC (pipeT xs) ≤ 1099511627776 := by
  have h1 := sz_CC_bd (K := 36) (l := pipeT xs) (pipeT_each xs).2
  have h2 := (pipeT_each xs).1
  have h3 : (pipeT xs).length * (2 * 36) ≤ 400 * (2 * 36) := Nat.mul_le_mul_right _ h2
  omega
theorem pipeT_short (xs : List Int) : ShortCC (pipeT xs) := fun d hd => by
  have := (pipeT_each xs).2 d hd
  omega
set_option maxRecDepth 100000 in
set_option maxHeartbeats 1600000 in
theorem specPipe_any (a : Option Addr) (n c : Nat) (xs : List Int) (w : World) (hr : RI w a xs) (hn : xs.length = n) (hb : n ≤ 17592186044416) (hcap : n ≤ c) :
    Calls Try.prog 26 #[.slice a n c] w fun e w' => ∃ a' n' c' r, e = .returned (.tuple #[.slice a' n' c', .bool r]) ∧ CCS w' w.heap.size w'.heap.size a' n' c' (pipeT xs) ∧ Hid (r = pipeOk xs) ∧ Below w.heap.size w w' := by
  by_cases h : isPerm xs = true ∧ xs.length ≤ 6
  · obtain ⟨h1, h2, h3⟩ := pipe_eq h.1 h.2
    refine (specPipe_some a n c xs w hr hn hcap h.1 (by omega) h1).mono ?_
    rintro e w' ⟨a', n', c', rfl, ho, hb'⟩
    exact ⟨a', n', c', true, rfl, by rw [h3]; exact ho, h2.symm, hb'⟩
  · have Hn := Lib.hid hn
    have Hno := Lib.hid (pipeOk_no (xs := xs) (by
      cases hp : isPerm xs
      · exact .inl rfl
      · right
        rw [hp] at h
        simp at h
        omega))
    cases hp : isPerm xs
    · have Hp := Lib.hid hp
      clear hn hp h
      go_enter Try.func26, Try.ntmps26
      go_wp2_with fail
      refine (is (specIsPerm_any _ _ _ xs _ hr Hn.out hb hcap) Hp.out).mono ?_
      rintro e w1 ⟨rfl, hd⟩
      go_wp2
      go_ret2
      exact ⟨_, _, _, _, rfl, by rw [Hno.out.2]; exact CCS.nil, Hno.out.1.symm, hd.below _⟩
    · have Hp := Lib.hid hp
      have h6 : 6 < n := by
        rw [hp] at h
        simp at h
        omega
      clear hn hp h
      go_enter Try.func26, Try.ntmps26
      go_wp2_with fail
      refine (is (specIsPerm_any _ _ _ xs _ hr Hn.out hb hcap) Hp.out).mono ?_
      rintro e w1 ⟨rfl, hd⟩
      go_wp2
      go_ret2
      exact ⟨_, _, _, _, rfl, by rw [Hno.out.2]; exact CCS.nil, Hno.out.1.symm, hd.below _⟩
end Go.Proofs.Ytageojkepoejiaa
