/-
  inOrder and DeleteFunc, whether or not the slice is nil.
-/
import Derived.Test.YtageojkepoejiaaInOrd
import Derived.Test.YtageojkepoejiaaBuP18
import Derived.Test.YtageojkepoejiaaCloneCC
import Derived.Test.YtageojkepoejiaaLadI
namespace Go.Proofs.Ytageojkepoejiaa
open Go.RowKit Go.Shelf Go.Sort

theorem CCO.shape {w : World} {B S : Nat} {a : Option Addr} {n c : Nat} {xss : List (List (Int × Int))} (h : CCO w B S a n c xss) : (n = 0 ∧ a = none ∧ xss = []) ∨ ∃ g, a = some ⟨g, 0, none⟩ ∧ B ≤ g ∧ g < S := by
  have hl := h.len
  obtain ⟨vs, h1, h2, h3⟩ := h
  rcases ownsRow_shape h1 with ⟨hn, e, _⟩ | ⟨g, e, hb, _⟩
  · exact .inl ⟨hn, e, List.eq_nil_of_length_eq_zero (by omega)⟩
  · exact .inr ⟨g, e, hb, h2 g (by rw [e]; rfl)⟩
theorem inOrder_gen (B S : Nat) (a : Option Addr) (n c : Nat) (xs : List (List (Int × Int))) (w : World) (ho : CCO w B S a n c xs) (hg : ShortCC xs) (hlow : ∀ p ∈ xs, LowL p) (hb : n ≤ 1048576) :
    Calls Try.prog 55 #[.slice a n c] w fun e w' => ∃ n', e = .returned (.slice a n' c) ∧ CCO w' B S a n' c (ascD xs) ∧ Only B S w w' := by
  rcases ho.shape with ⟨rfl, rfl, rfl⟩ | ⟨g, rfl, _, _⟩
  · refine (inOrder_any B S none 0 c [] w ho ⟨by simp, by simp⟩ (by simp) (by omega)).mono ?_
    rintro e w' ⟨rfl, h1, h2⟩
    exact ⟨0, rfl, h1, h2⟩
  · exact inOrder_all B S g c n xs w ho hg hlow hb
set_option maxRecDepth 100000 in
set_option maxHeartbeats 1600000 in
theorem deleteC_none (A : Nat) (aa : Option Addr) (na ca : Nat) (all : List (List (Int × Int))) (c : Nat) (w : World)
    (hA : w.cell? ⟨A, 0, none⟩ = some (.slice aa na ca)) (hra : RCC w aa all) (hna : all.length = na) (hba : na ≤ 1048576) (hsa : ShortCC all) :
    Calls Try.prog 63 #[.slice none 0 c, .func (.func 64) #[] #[.pointer (some ⟨A, 0, none⟩)]] w fun e w' => e = .returned (.slice none 0 c) ∧ Below w.heap.size w w' := by
  have Hna := Lib.hid hna
  have Hsa := Lib.hid hsa
  clear hna hsa
  go_enter Try.func63, Try.ntmps63
  go_wp2_with fail
  refine (pipeFirst_any A _ none _ _ 0 c all [] _ hA hra (.inl rfl) Hna.out rfl (Nat.zero_le _) hba Hsa.out).mono ?_
  rintro e w1 ⟨r, rfl, hr1, hb1⟩
  obtain rfl : r = -1 := by
    rcases hr1.out with ⟨h, _⟩ | ⟨k, hk, _⟩
    · exact h
    · omega
  clear hr1
  go_wp2
  go_ret
  exact ⟨rfl, hb1⟩
theorem deleteC_gen (A : Nat) (aa : Option Addr) (na ca : Nat) (all : List (List (Int × Int))) (B S : Nat) (a : Option Addr) (c n : Nat) (xss : List (List (Int × Int))) (w : World) (ho : CCO w B S a n c xss)
    (hA : ∀ w', w.grownBy w' (Value.slice a n c).ownBlock → w'.cell? ⟨A, 0, none⟩ = some (.slice aa na ca) ∧ RCC w' aa all) (hna : all.length = na) (hb : n ≤ 1048576) (hba : na ≤ 1048576) (hsa : ShortCC all) :
    Calls Try.prog 63 #[.slice a n c, .func (.func 64) #[] #[.pointer (some ⟨A, 0, none⟩)]] w fun e w' => ∃ n', e = .returned (.slice a n' c) ∧ CCO w' B S a n' c (dropD all xss) ∧ w.grownBy w' (Value.slice a n c).ownBlock := by
  rcases ho.shape with ⟨rfl, rfl, rfl⟩ | ⟨g, rfl, _, _⟩
  · obtain ⟨z0, z1⟩ := hA w (Grows.refl w (.slice none 0 c)).grown
    refine (deleteC_none A aa na ca all c w z0 z1 hna hba hsa).mono ?_
    rintro e w' ⟨rfl, h1⟩
    exact ⟨0, rfl, ho.below h1, (Grows.of_below (.slice none 0 c) h1).grown⟩
  · exact deleteC_any A aa na ca all B S g c n xss w ho hA hna hb hba hsa
end Go.Proofs.Ytageojkepoejiaa
