/-
  Contract of PermOfCode, for codes that are right.
-/
import Derived.Test.YtocgcgmlemoekaaDelete
import Derived.Test.YtocgcgmlemoekaaIdent
namespace Go.Proofs.Ytocgcgmlemoekaa
open Go.RowKit

def poc (n : Nat) (cs : List Int) : Nat → List Int × List Int
  | 0 => (ident n, [])
  | k + 1 => ((poc n cs k).1.eraseIdx (cs.getD k 0).toNat, (poc n cs k).2 ++ [(poc n cs k).1.getD (cs.getD k 0).toNat 0])
set_option maxRecDepth 100000 in
set_option maxHeartbeats 3200000 in
theorem permOfCode_any (a : Option Addr) (n c : Nat) (cs : List Int) (w : World) (hr : RI w a cs) (hn : cs.length = n) (h17 : 1 ≤ n ∧ n ≤ 7) (hcs : ∀ (k : Nat) (x : Int), cs[k]? = some x → 0 ≤ x ∧ x < (n : Int) - k) :
    Calls Try.prog 105 #[.slice a n c] w fun e w' => ∃ a' c', e = .returned (.slice a' n c') ∧ OwI w' w.heap.size w'.heap.size a' n c' (poc n cs n).2 ∧ Below w.heap.size w w' := by
  have Hn := Lib.hid hn; clear hn
  have HC := Lib.hid hcs; clear hcs
  have q22 : ∀ (w : World) (a : Option Addr) (n c n' c' : Nat), (binOp .eql 22 (.slice a n c) (.slice none n' c')).run Try.prog w = .ok (.bool a.isNone) w := fun w a n c n' c' => Lib.run_eql_slice_nil w _ _ a n c n' c' Try.underlying22
  go_enter Try.func105, Try.ntmps105
  go_wp2_with fail
  refine (implIdent_any n _ _ rfl h17).mono ?_
  rintro e w1 ⟨a1, c1, rfl, ho1, hB1⟩
  obtain ⟨g, rfl, _⟩ := OI.cons ho1.1 (j := 0) (by omega)
  have hz1 := hB1.size
  have hI0 : OwI (w1.alloc (.cells #[] 3)) w1.heap.size (w1.alloc (.cells #[] 3)).heap.size (some ⟨w1.heap.size, 0, none⟩) 0 0 [] := OwI.mk (World.ownsRow_made _ #[] 0 (Nat.le_refl _) (Nat.zero_le _) rfl)
  have hA : Below w1.heap.size w1 (w1.alloc (.cells #[] 3)) := (Below.refl _ _).alloc (Nat.le_refl _) _
  have ho2 := ho1.below hA
  have hB2 := hB1.trans (hA.mono hz1)
  have hAz := hA.size
  have HI := Lib.hid hI0
  have HO := Lib.hid ho2
  clear hI0 ho2 ho1 hA hB1
  go_wp2
  clear q22
  go_loopw [3, 4, 15] (fun rv ov iv wr => Hid (∃ k : Nat, k ≤ n ∧ iv = .int .i64 k ∧ rv = .slice (some ⟨g, 0, none⟩) (n - k) c1 ∧ ∃ a' c', ov = .slice a' k c' ∧ OwI wr w.heap.size w1.heap.size (some ⟨g, 0, none⟩) (n - k) c1 (poc n cs k).1 ∧ OwI wr w1.heap.size wr.heap.size a' k c' (poc n cs k).2) ∧ Below w.heap.size w wr ∧ w1.heap.size ≤ wr.heap.size) (fun _ _ i _ => n - (intOf i).toNat)
  case atStart => exact ⟨⟨0, Nat.zero_le _, rfl, rfl, _, _, rfl, HO.out, HI.out⟩, hB2, hAz⟩
  case round =>
    clear HI HO hB2 hAz
    obtain ⟨HV, hB, hz⟩ := hrel
    obtain ⟨wo, rfl⟩ : ∃ wo : World, wo = wr := ⟨_, rfl⟩
    obtain ⟨k, hk, rfl, rfl, a', c', rfl, hrest, hout⟩ := HV.out
    clear HV
    have hbs := hB.size
    by_cases hlt : k < n
    · obtain ⟨b, off, rfl, hcell⟩ := (hr.below hB).at (k := k) (by rw [Hn.out]; exact hlt)
      obtain ⟨x0, hx⟩ := some_at (k := k) Hn.out hlt
      have hcx := hcell k x0 hx
      obtain ⟨hx0, hx1⟩ := HC.out k x0 hx
      obtain ⟨x, rfl⟩ : ∃ x : Nat, x0 = x := ⟨x0.toNat, by omega⟩
      have hxn : x < n - k := by omega
      obtain ⟨g', e0, _, ⟨y, hy, hcy⟩, _⟩ := OI.cons hrest.1 hxn
      obtain rfl : g = g' := by simpa using e0
      have hs1 : (poc n cs (k + 1)).1 = (poc n cs k).1.eraseIdx x := by rw [poc, getD_of hx]; rfl
      have hs2 : (poc n cs (k + 1)).2 = (poc n cs k).2 ++ [y] := by rw [poc, getD_of hx]; show _ ++ [(poc n cs k).1.getD x 0] = _; rw [getD_of hy]
      have Hs1 := Lib.hid hs1
      have Hs2 := Lib.hid hs2
      obtain ⟨d, hd⟩ : ∃ d, n - k = d := ⟨_, rfl⟩
      rw [hd] at hrest hxn
      have hd1 : d - 1 = n - (k + 1) := by omega
      have Hd1 := Lib.hid hd1
      have hxI : (x : Int) < (d : Int) := by omega
      have hdn : d ≤ 7 := by omega
      have q1 : (k : Int) < (n : Int) := by omega
      rw [hd]
      clear hcell hx hy e0 hs1 hs2 hd1 hd
      go_wp2_with (first | (at_builtin; go_loud (refine wpList_pushI (by rfl) (by rfl) _ _ (by rfl) hout (by rfl) (by rfl) (by omega) (by omega) ?_)))
      intro a2 c2 w2 ho2 hg2
      have hO2 := hg2.only (B := w1.heap.size) (S := wo.heap.size) (fun k hk => hout.1.lo k hk) (fun k hk => hout.2 k hk)
      have hrest2 := hrest.only hO2 (.inl (Nat.le_refl _))
      have hB2 := hO2.below hB (by omega) (by omega)
      have hz2 := hO2.size
      rw [← Hs2.out] at ho2
      clear hrest hout hcy hcx
      go_wp2_with fail
      refine (delete_any _ _ _ hrest2 hxn rfl (by omega)).mono ?_
      rintro e w3 ⟨rfl, hrest3, hO3⟩
      rw [← Hs1.out, Hd1.out] at hrest3
      have ho3 := ho2.only hO3 (.inr (Nat.le_refl _))
      have hB3 := hO3.below hB2 (Nat.le_refl _) hB2.size
      have hz3 := hO3.size
      have ho4 := ho3.mono (B' := w1.heap.size) (S' := w3.heap.size) (Nat.le_refl _) hz3
      have HR := Lib.hid hrest3
      have HO := Lib.hid ho4
      have HE : Hid (Value.slice (some ⟨g, 0, none⟩) (d - 1) c1 = Value.slice (some ⟨g, 0, none⟩) (n - (k + 1)) c1) := by rw [Hd1.out]; rfl
      clear hrest2 hrest3 ho2 ho3 ho4
      go_wp2
      go_roundw
      case rel => exact ⟨⟨k + 1, by omega, by go_num, HE.out, _, _, rfl, HR.out, HO.out⟩, hB3, by omega⟩
      case measure => simp [intOf]; omega
    · obtain rfl : k = n := by omega
      have HO := Lib.hid (hout.mono (B' := w.heap.size) (S' := wo.heap.size) hz1 (Nat.le_refl _))
      clear hout hrest
      go_wp2
      go_ret
      exact ⟨_, _, rfl, HO.out, hB⟩
end Go.Proofs.Ytocgcgmlemoekaa
