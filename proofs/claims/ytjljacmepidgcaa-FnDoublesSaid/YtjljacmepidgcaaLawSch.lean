/-
  The laws' schubert, within the limits.
-/
import Derived.Test.YtjljacmepidgcaaBuK22
import Derived.Test.YtjljacmepidgcaaBuK17
import Derived.Test.YtjljacmepidgcaaBuK23
namespace Go.Proofs.Ytjljacmepidgcaa
open Go.RowKit

theorem implSch_ok (a : Option Addr) (n c : Nat) (u : List Int) (w : World) (hr : RI w a u) (hn : u.length = n) (hc : n ≤ c) (hp : isPerm u = true) (hF : OKp (SM u)) :
    Calls Try.prog 24 #[.slice a n c] w fun e w' => ∃ a' n' c', e = .returned (.tuple #[.slice a' n' c', .bool true]) ∧ PT w' a' n' (SM u) ∧ Below w.heap.size w w' := by
  obtain ⟨h1, h2⟩ := sch_yes hp
  have h7 : n ≤ 7 := by rw [← hn]; exact ((isPerm_iff u).1 hp).2.1
  refine (implSch_any a n c u w hr hn (by omega) hc).mono ?_
  rintro e w1 ⟨a1, n1, c1, r1, rfl, ho, hr1, hb⟩
  obtain rfl : r1 = true := by rw [hr1.out, h2]; exact hF.ok
  have e1 : closedT (schM (trim u) (trimLen u u.length)) = termsM (SM u) := closedT_ok hF.ok
  rw [h1, e1] at ho
  exact ⟨_, _, _, rfl, PT.of ho hF, hb⟩
set_option maxRecDepth 100000 in
set_option maxHeartbeats 1600000 in
theorem schubert_law (a : Option Addr) (n c : Nat) (u : List Int) (w : World) (hr : RI w a u) (hn : u.length = n) (hc : n ≤ c) (hp : isPerm u = true) (hF : OKp (SM u)) :
    Calls Try.prog 8 #[.slice a n c] w fun e w' => ∃ a' n' c', e = .returned (.slice a' n' c') ∧ PT w' a' n' (SM u) ∧ Below w.heap.size w w' := by
  have Hn := Lib.hid hn
  have Hp := Lib.hid hp
  have HF := Lib.hid hF
  clear hn hp hF
  go_enter Try.func8, Try.ntmps8
  go_wp2_with fail
  refine (implSch_ok _ _ _ u _ hr Hn.out hc Hp.out HF.out).mono ?_
  rintro e w1 ⟨a1, n1, c1, rfl, ho, hb⟩
  have Ho := Lib.hid ho
  clear ho
  go_wp2
  go_ret
  exact ⟨_, _, _, rfl, Ho.out, hb⟩
end Go.Proofs.Ytjljacmepidgcaa
