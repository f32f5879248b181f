/-
  Contracts of l2Plus and l2Times.
-/
import Derived.Test.YtiiiiolifpaehaaMonDiv
import Derived.Deep.RegionHeld3
namespace Go.Proofs.Ytiiiiolifpaehaa
open Go.RowKit

/-- append of one monomial, as a step of a region that draws its order -/
theorem step_pushM {w : World} {W : World} {p q : Int} (hW : W = w.alloc (.cells #[.int .i64 p, .int .i64 q] 131)) {ops : Array Oper} {o : Oper} {ac : Act} {K : Act → World → Prop} {Q : Exit → Act → World → Prop} (hwant : Region.wanted o (yielded ops ac.tmps) = true) (s x : Operand)
    (ho : o.op = .call { callee := .builtin .append, args := #[s, x], argTypes := #[125, 125] })
    {B S : Nat} {a : Option Addr} {n c : Nat} {xs : List (Int × Int)} (hown : MO w B S a n c xs) (hs : ac.eval s = .slice a n c)
    (hx : ac.eval x = .slice (some ⟨w.heap.size, 0, none⟩) 1 1) (hn : n + 1 ≤ 1048576) (hbase : B ≤ w.heap.size)
    (h : ∀ a' c' w', MO w' B w'.heap.size a' (n + 1) c' (xs ++ [(p, q)]) → w.grownBy w' (Value.slice a n c).ownBlock → K (ac.put o.dst (.slice a' (n + 1) c')) w') :
    if Region.wanted o (yielded ops ac.tmps) = true then Oper.wp Try.prog o ac W K Q else K (ac.put o.dst undef) W := by
  rw [if_pos hwant]
  subst hW
  obtain ⟨i0, hi, hz0, hz1, hz2⟩ := info_parts Try.infoMon
  obtain ⟨v', w', hr, h2, h3, _⟩ := run_append_own (P := Try.prog) (w.alloc (.cells #[.int .i64 p, .int .i64 q] 131)) B 125 o.type 131 i0 (.agg #[.int .i64 0, .int .i64 0]) 2 16 Try.underlying125 hi hz0 hz1 hz2 rfl (by decide) (.slice a n c) n (prm xs) (hown.1.alloc _) ⟨w.heap.size, 0, none⟩ 1 1 [.int .i64 p, .int .i64 q] rfl
    (by
      intro j y hj
      match j, hj with
      | 0, hj => simp at hj; subst hj; simp [Addr.add]
      | 1, hj => simp at hj; subst hj; simp [Addr.add])
    (by
      intro y hy
      simp at hy
      rcases hy with rfl | rfl <;> rfl) (by unfold maxLen; omega) (by omega) (by simp; omega)
  obtain ⟨a', c', rfl⟩ := slice_of2M h2
  unfold Oper.wp execOp
  simp only [ho, resolve, invoke, builtin, Sem.run_bind, Sem.run_pure, Result.andThen_ok, List.map_toArray, List.map_cons, List.map_nil, hs, hx, hr]
  exact h a' c' w' (MO.mk (by rw [prm_append]; exact h2)) (grownBy.trans (World.grownBy_alloc w _ _) h3)
/-- as the program of the reference reckons it -/
def scaleW (c : Int) (F : Mons) : Mons := F.map fun p => (p.1, wrap64 (c * p.2))
theorem scaleW_eqv (c : Int) (F : Mons) : Eqv (scaleW c F) (scaleM c F) := by
  induction F with
  | nil => exact Eqv.refl _
  | cons p F ih => exact (Eqv.wrap _ _ _).trans (ih.cons _)
theorem scaleW_take {c : Int} {xs : Mons} {k : Nat} {p : Int × Int} (h : xs[k]? = some p) : scaleW c (xs.take (k + 1)) = scaleW c (xs.take k) ++ [(p.1, wrap64 (c * p.2))] := by
  rw [take_at h]
  unfold scaleW
  rw [List.map_append]
  rfl

set_option maxRecDepth 100000 in
set_option maxHeartbeats 6400000 in
theorem l2Plus_any (A1 S1 : Nat) (a b : Option Addr) (n c m d : Nat) (x : Int) (xs ys : Mons) (w : World) (hx : MO w A1 S1 a n c xs) (hy : RM w b ys) (hm : ys.length = m) (hb : n + m ≤ 1048576) (h64 : ∀ p ∈ xs, in64 p.2) :
    Calls Try.prog 152 #[.slice a n c, .int .i64 x, .slice b m d] w fun e w' => ∃ a' n' c', e = .returned (.slice a' n' c') ∧ MO w' w.heap.size w'.heap.size a' n' c' (canon (plusM xs x ys)) ∧ Below w.heap.size w w' := by
  have Hm := Lib.hid hm; clear hm
  have H64 := Lib.hid h64; clear h64
  have hB0 : Below w.heap.size w (w.alloc (.cells #[] 131)) := (Below.refl _ _).alloc (Nat.le_refl _) _
  have hs0 : w.heap.size ≤ (w.alloc (.cells #[] 131)).heap.size := hB0.size
  have hm0 : MO (w.alloc (.cells #[] 131)) w.heap.size (w.alloc (.cells #[] 131)).heap.size (some ⟨w.heap.size, 0, none⟩) 0 0 [] := MO.made w
  have hx0 := hx.below hB0
  go_enter Try.func152, Try.ntmps152
  go_wp2_with (first | (at_builtin; go_loud (refine wpList_appMO (by rfl) _ _ (by rfl) hm0 (by rfl) hx0 (by rfl) (by omega) hs0 (Nat.le_refl _) ?_)) | go_in)
  intro a1 c1 w1 ho1 hg1
  have hB1 : Below w.heap.size w w1 := below_grown (v := .slice (some ⟨w.heap.size, 0, none⟩) 0 0) hB0 (by simpa using hg1) hs0 (by intro k hk; simp [Value.ownBlock] at hk; omega)
  have Ho1 := Lib.hid (show MO w1 w.heap.size w1.heap.size a1 n c1 xs by simpa using ho1)
  clear ho1 hg1 hm0 hB0 hs0 hx0
  go_wp2
  go_loopw [7, 8] (fun ov kv wr => Hid (∃ (k : Nat) (a' : Option Addr) (c' : Nat), kv = .int .i64 k ∧ k ≤ m ∧ ov = .slice a' (n + k) c' ∧ MO wr w.heap.size wr.heap.size a' (n + k) c' (xs ++ scaleW x (ys.take k))) ∧ Below w.heap.size w wr) (fun _ kv _ => m - (intOf kv).toNat)
  case atStart => exact ⟨⟨0, _, _, rfl, by omega, rfl, by simpa [scaleW] using Ho1.out⟩, hB1⟩
  case round =>
    clear Ho1 hB1
    obtain ⟨HV, hB⟩ := hrel
    obtain ⟨wo, rfl⟩ : ∃ wo : World, wo = wr := ⟨_, rfl⟩
    obtain ⟨k, a1, c1, rfl, hk, rfl, ho⟩ := HV.out
    clear HV
    have hbs := hB.size
    have Ho := Lib.hid (fun d : Nat => ho.below (Drew.below (Drew.drewN wo d) _))
    have Ho0 := Lib.hid ho
    clear ho
    by_cases hlt : k < m
    · obtain ⟨bb, off, rfl, hcell⟩ := hy.at (k := k) (by rw [Hm.out]; exact hlt)
      obtain ⟨K, y, hyk⟩ := pairM_at Hm.out hlt
      obtain ⟨p1, p2⟩ := hcell k _ hyk
      simp only at p1 p2
      have Hst := Lib.hid (scaleW_take (c := x) hyk)
      clear hcell hyk
      have q1 : (k : Int) < (m : Int) := by omega
      have q2 : IntKind.i64.wrap (x * y) = wrap64 (x * y) := IntWalk.i64_left _
      have hbz : bb < w.heap.size := World.block_lt_of_cell? _ _ p1
      have S_of : ∀ w2, Below w.heap.size w w2 → w2.cell? ⟨bb, off + k * 2, none⟩ = some (.int .i64 K) ∧ w2.cell? ⟨bb, off + k * 2 + 1, none⟩ = some (.int .i64 y) := by
        intro w2 hb2
        exact ⟨by rw [hb2.cell (p := ⟨bb, off + k * 2, none⟩) hbz]; exact p1, by rw [hb2.cell (p := ⟨bb, off + k * 2 + 1, none⟩) hbz]; exact p2⟩
      have HO1 := Lib.hid (Ho.out 1)
      have d1 : Below w.heap.size w wo.drew := hB.trans (Drew.below ⟨1, rfl⟩ _)
      clear p1 p2 Ho Ho0
      go_wp2
      go_region_held3 (fun w' => w'.cell? ⟨bb, off + k * 2, none⟩ = some (.int .i64 K) ∧ w'.cell? ⟨bb, off + k * 2 + 1, none⟩ = some (.int .i64 y)) ((first | exact S_of _ hB | exact S_of _ d1 | exact S_of _ (Below.alloc d1 (Below.size d1) _) | exact S_of _ ‹_›))
        ((refine step_pushM (by rfl) (by rfl) _ _ (by rfl) HO1.out (by rfl) (by rfl) (by omega) (Below.size d1) ?_; intro a3 c3 w3 ho3 hg3; have hB3 := below_grown d1 hg3 (Below.size d1) HO1.out.lo))
      rw [List.append_assoc, ← Hst.out] at ho3
      have HO3 := Lib.hid ho3
      clear ho3 HO1 hg3 S_of d1
      go_wp2
      go_roundw
      case rel => exact ⟨⟨k + 1, _, _, by go_num, by omega, rfl, HO3.out⟩, hB3⟩
      case measure => simp [intOf]; omega
    · obtain rfl : k = m := by omega
      have hol := Ho0.out
      rw [List.take_of_length_le (by rw [Hm.out]; exact Nat.le_refl _)] at hol
      have Hol := Lib.hid hol
      have t1 : ¬ (k : Int) < (k : Int) := by omega
      have h64 : ∀ p ∈ xs ++ scaleW x ys, in64 p.2 := by
        intro p hp
        rcases List.mem_append.1 hp with hp | hp
        · exact H64.out p hp
        · obtain ⟨q, _, rfl⟩ := List.mem_map.1 hp
          exact in64_wrap _
      have H642 := Lib.hid h64
      clear hol h64 Ho Ho0
      go_wp2_with fail
      refine (gather_any _ _ _ _ _ _ _ Hol.out (by omega) H642.out).mono ?_
      rintro e w4 ⟨a4, n4, c4, rfl, ho4, hB4⟩
      have hfin := ho4.mono (B' := w.heap.size) (S' := w4.heap.size) hbs (Nat.le_refl _)
      rw [canon_eqv ((Eqv.refl xs).append (scaleW_eqv x ys))] at hfin
      have Hfin := Lib.hid hfin
      have hB5 := hB.trans (hB4.mono hbs)
      clear hfin ho4
      go_wp2
      go_ret
      exact ⟨_, _, _, rfl, Hfin.out, hB5⟩
end Go.Proofs.Ytiiiiolifpaehaa
