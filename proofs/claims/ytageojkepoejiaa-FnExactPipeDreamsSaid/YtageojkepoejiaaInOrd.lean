/-
  Contract of inOrder in full: dreams in order, each once.
-/
import Derived.Test.YtageojkepoejiaaCompactC
import Derived.Test.YtageojkepoejiaaSortCCw
namespace Go.Proofs.Ytageojkepoejiaa
open Go.RowKit Go.Shelf Go.Sort

set_option maxRecDepth 100000 in
set_option maxHeartbeats 1600000 in
theorem inOrder_all (B S g c n : Nat) (xs : List (List (Int × Int))) (w : World) (ho : CCO w B S (some ⟨g, 0, none⟩) n c xs) (hg : ShortCC xs) (hlow : ∀ p ∈ xs, LowL p) (hb : n ≤ 1048576) :
    Calls Try.prog 55 #[.slice (some ⟨g, 0, none⟩) n c] w fun e w' => ∃ n', e = .returned (.slice (some ⟨g, 0, none⟩) n' c) ∧ CCO w' B S (some ⟨g, 0, none⟩) n' c (ascD xs) ∧ Only B S w w' := by
  have Hg := Lib.hid hg
  have Hlow := Lib.hid hlow
  clear hg hlow
  go_enter Try.func55, Try.ntmps55
  go_wp2_with fail
  refine (sortCCw_any B S _ _ _ xs _ ho Hg.out Hlow.out hb).mono ?_
  rintro e w1 ⟨rfl, xs', hp, hs, ho1, hon⟩
  have Heq := Lib.hid (compD_asc hs hp)
  have Hsh := Lib.hid (show ShortCC xs' from fun x hx => Hg.out x (hp.mem_iff.1 hx))
  clear hp hs ho
  go_wp2_with fail
  refine (compactC_any B S g c n xs' _ ho1 hb Hsh.out).mono ?_
  rintro e w2 ⟨n', rfl, ho2, hon2⟩
  rw [Heq.out] at ho2
  have Ho2 := Lib.hid ho2
  have hon3 := hon.trans hon2
  clear ho2 ho1
  go_wp2
  go_ret
  exact ⟨_, rfl, Ho2.out, hon3⟩
end Go.Proofs.Ytageojkepoejiaa
