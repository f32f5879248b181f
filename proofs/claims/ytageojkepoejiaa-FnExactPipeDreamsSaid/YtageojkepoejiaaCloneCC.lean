/-
  Contract of slices.Clone of lists of dreams.
-/
import Derived.Test.YtageojkepoejiaaAppCC
import Derived.Lib.SliceRun
namespace Go.Proofs.Ytageojkepoejiaa
open Go.RowKit

set_option maxRecDepth 100000 in
set_option maxHeartbeats 1600000 in
theorem cloneCC_any (B S g n c : Nat) (xss : List (List (Int × Int))) (w : World) (ho : CCO w B S (some ⟨g, 0, none⟩) n c xss) (hb : n ≤ 1048576) (hB : B ≤ w.heap.size) :
    Calls Try.prog 68 #[.slice (some ⟨g, 0, none⟩) n c] w fun e w' => ∃ a' c', e = .returned (.slice a' n c') ∧ CCO2 w' B S w'.heap.size a' n c' xss ∧ (∀ k, (Value.slice a' n c').ownBlock = some k → w.heap.size ≤ k) ∧ Below w.heap.size w w' := by
  have q22 : ∀ (w : World) (a : Option Addr) (n c n' c' : Nat), (binOp .eql 34 (.slice a n c) (.slice none n' c')).run Try.prog w = .ok (.bool a.isNone) w := fun w a n c n' c' => Lib.run_eql_slice_nil w _ _ a n c n' c' Try.underlying34
  have hB0 : Below w.heap.size w (w.alloc (.cells #[] 36)) := (Below.refl _ _).alloc (Nat.le_refl _) _
  have h1 : (w.alloc (.cells #[] 36)).ownsRow w.heap.size 36 1 (.slice (some ⟨w.heap.size, 0, none⟩) 0 0) 0 [] := World.ownsRow_made w #[] 0 (Nat.le_refl _) (Nat.zero_le _) rfl
  have H1 := Lib.hid h1
  have HO := Lib.hid (ho.below hB0)
  obtain ⟨i0, hi, hz0, hz1, hz2⟩ := info_parts Try.info36
  clear h1 ho
  obtain ⟨vs, v1, v2, v3⟩ := HO.out
  have hvl : vs.length = n := by have := v1.1; omega
  have HV := Lib.hid v1
  have HV3 := Lib.hid v3
  have hnews : ∀ ad, (some ⟨g, 0, none⟩ : Option Addr) = some ad → ∀ j u, vs[j]? = some u → (w.alloc (.cells #[] 36)).cell? (ad.add j) = some u := by
    intro ad had j u hu
    obtain rfl := Option.some.inj had
    rcases ownsRow_shape v1 with ⟨_, e, _⟩ | ⟨g', e, _, _, hc, _⟩
    · cases e
    · simp only [Option.some.injEq, Addr.mk.injEq] at e
      obtain ⟨rfl, _⟩ := e
      rw [show (⟨g, 0, none⟩ : Addr).add j = ⟨g, j, none⟩ by unfold Addr.add; split <;> simp_all]
      exact hc j u hu
  have hone : ∀ u ∈ vs, u.oneCell' = true := by
    intro u hu
    obtain ⟨k, hk⟩ := List.getElem?_of_mem hu
    obtain ⟨zs, hz⟩ := some_of (show k < xss.length by rw [← v3.len]; exact lt_of_some hk)
    obtain ⟨a2, c2, e1, _⟩ := v3.each k zs hz
    rw [hk] at e1
    obtain rfl := Option.some.inj e1
    rfl
  have Hnews := Lib.hid hnews
  have Hone := Lib.hid hone
  clear v1 v3 hnews hone
  go_enter Try.func68, Try.ntmps68
  go_wp2_with (first | (at_builtin; go_loud (refine wpList_app _ (by rfl) _ _ 34 (by rfl) w.heap.size 36 i0 (.slice none 0 0) 24 Try.underlying34 hi hz0 hz1 hz2 rfl _ 0 [] (by rfl) H1.out (some ⟨g, 0, none⟩) n c vs (by rfl) hvl (by simp) Hnews.out Hone.out (by omega) (by omega) (by simp) ?_)))
  intro a2 c2 w2 ho2 hg2
  have hB2 : Below w.heap.size w w2 := hg2.below hB0 (by simp) (fun k hk => by simp [Value.ownBlock] at hk; omega)
  have hfin : CCO2 w2 B S w2.heap.size a2 n c2 xss := by
    have hrow : w2.ownsRow B 36 1 (.slice a2 n c2) n vs := ownsRow_base (by simpa using ho2) hB
    refine ⟨vs, hrow, fun k hk => (hrow.lt k hk).2, HV3.out.len, fun k zs hz => ?_, HV3.out.apart⟩
    obtain ⟨a9, c9, e9, o9⟩ := HV3.out.each k zs hz
    have hs2 := hB2.size
    exact ⟨a9, c9, e9, o9.grows hg2 H1.out⟩
  have Hlo := Lib.hid (show ∀ k, (Value.slice a2 n c2).ownBlock = some k → w.heap.size ≤ k from fun k hk => (ho2.lt k (by simpa using hk)).1)
  have Hfin := Lib.hid hfin
  clear hfin ho2 hg2
  go_wp2
  go_ret
  exact ⟨a2, c2, by simp, by simpa using Hfin.out, by simpa using Hlo.out, hB2⟩
end Go.Proofs.Ytageojkepoejiaa
