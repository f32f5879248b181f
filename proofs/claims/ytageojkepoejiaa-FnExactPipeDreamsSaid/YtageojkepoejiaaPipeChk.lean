/-
  Reduced dreams of the permutations of at most 6: the checks joined. Plain.
-/
import Derived.Test.YtageojkepoejiaaPipeK1
import Derived.Test.YtageojkepoejiaaPipeK2
import Derived.Test.YtageojkepoejiaaPipeK3
namespace Go.Proofs.Ytageojkepoejiaa

def sixes : List (List (List Int)) := [six0, six1, six2, six3, six4, six5, six6, six7, six8, six9, six10, six11, six12, six13, six14, six15, six16, six17, six18, six19, six20, six21, six22, six23, six24, six25, six26, six27, six28, six29, six30, six31, six32, six33, six34, six35]
set_option maxRecDepth 100000 in
theorem perms6_eq : permsOf 6 (numsTo 6) = sixes.flatten := by kernel_rfl
theorem pipeChk_six : (permsOf 6 (numsTo 6)).all (pipeChk 6) = true := by
  rw [perms6_eq, List.all_eq_true]
  intro x hx
  obtain ⟨l, hl, hm⟩ := List.mem_flatten.1 hx
  unfold sixes at hl
  simp only [List.mem_cons, List.not_mem_nil, or_false] at hl
  rcases hl with rfl | rfl | rfl | rfl | rfl | rfl | rfl | rfl | rfl | rfl | rfl | rfl | rfl | rfl | rfl | rfl | rfl | rfl | rfl | rfl | rfl | rfl | rfl | rfl | rfl | rfl | rfl | rfl | rfl | rfl | rfl | rfl | rfl | rfl | rfl | rfl
  · exact List.all_eq_true.1 six0_ok x hm
  · exact List.all_eq_true.1 six1_ok x hm
  · exact List.all_eq_true.1 six2_ok x hm
  · exact List.all_eq_true.1 six3_ok x hm
  · exact List.all_eq_true.1 six4_ok x hm
  · exact List.all_eq_true.1 six5_ok x hm
  · exact List.all_eq_true.1 six6_ok x hm
  · exact List.all_eq_true.1 six7_ok x hm
  · exact List.all_eq_true.1 six8_ok x hm
  · exact List.all_eq_true.1 six9_ok x hm
  · exact List.all_eq_true.1 six10_ok x hm
  · exact List.all_eq_true.1 six11_ok x hm
  · exact List.all_eq_true.1 six12_ok x hm
  · exact List.all_eq_true.1 six13_ok x hm
  · exact List.all_eq_true.1 six14_ok x hm
  · exact List.all_eq_true.1 six15_ok x hm
  · exact List.all_eq_true.1 six16_ok x hm
  · exact List.all_eq_true.1 six17_ok x hm
  · exact List.all_eq_true.1 six18_ok x hm
  · exact List.all_eq_true.1 six19_ok x hm
  · exact List.all_eq_true.1 six20_ok x hm
  · exact List.all_eq_true.1 six21_ok x hm
  · exact List.all_eq_true.1 six22_ok x hm
  · exact List.all_eq_true.1 six23_ok x hm
  · exact List.all_eq_true.1 six24_ok x hm
  · exact List.all_eq_true.1 six25_ok x hm
  · exact List.all_eq_true.1 six26_ok x hm
  · exact List.all_eq_true.1 six27_ok x hm
  · exact List.all_eq_true.1 six28_ok x hm
  · exact List.all_eq_true.1 six29_ok x hm
  · exact List.all_eq_true.1 six30_ok x hm
  · exact List.all_eq_true.1 six31_ok x hm
  · exact List.all_eq_true.1 six32_ok x hm
  · exact List.all_eq_true.1 six33_ok x hm
  · exact List.all_eq_true.1 six34_ok x hm
  · exact List.all_eq_true.1 six35_ok x hm
theorem pipeChk_of {xs : List Int} (h : isPerm xs = true) (h6 : xs.length ≤ 6) : pipeChk xs.length xs = true := by
  have hm := isPerm_mem h
  have h1 := ((isPerm_iff xs).1 h).1
  rcases Nat.lt_or_ge xs.length 6 with h5 | h5
  · have h2 := List.all_eq_true.1 pipeChk_all xs.length (by
      have hc : xs.length = 1 ∨ xs.length = 2 ∨ xs.length = 3 ∨ xs.length = 4 ∨ xs.length = 5 := by omega
      rcases hc with e | e | e | e | e <;> rw [e] <;> decide)
    exact List.all_eq_true.1 h2 xs hm
  · have e : xs.length = 6 := by omega
    rw [e] at hm ⊢
    exact List.all_eq_true.1 pipeChk_six xs hm
end Go.Proofs.Ytageojkepoejiaa
