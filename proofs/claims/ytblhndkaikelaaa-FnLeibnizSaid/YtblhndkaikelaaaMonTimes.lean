/-
  Contract of l2Times.
-/
import Derived.Test.YtblhndkaikelaaaMonPlus
namespace Go.Proofs.Ytblhndkaikelaaa
open Go.RowKit

def rowW (K x : Int) (ys : Mons) : Mons := ys.map fun q => (K + q.1, wrap64 (x * q.2))
/-- as the program of the reference reckons it -/
def timesW (xs ys : Mons) : Mons := xs.flatMap fun p => rowW p.1 p.2 ys
theorem rowW_eqv (K x : Int) (ys : Mons) : Eqv (rowW K x ys) (ys.map fun q => (K + q.1, x * q.2)) := by
  induction ys with
  | nil => exact Eqv.refl _
  | cons p F ih => exact (Eqv.wrap _ _ _).trans (ih.cons _)
theorem timesW_eqv (xs ys : Mons) : Eqv (timesW xs ys) (timesM xs ys) := by
  induction xs with
  | nil => exact Eqv.refl _
  | cons p F ih => exact (rowW_eqv p.1 p.2 ys).append ih
theorem timesW_take {xs ys : Mons} {k : Nat} {p : Int × Int} (h : xs[k]? = some p) : timesW (xs.take (k + 1)) ys = timesW (xs.take k) ys ++ rowW p.1 p.2 ys := by
  rw [take_at h]
  unfold timesW
  rw [List.flatMap_append]
  simp
theorem rowW_take {K x : Int} {ys : Mons} {j : Nat} {q : Int × Int} (h : ys[j]? = some q) : rowW K x (ys.take j) ++ [(K + q.1, wrap64 (x * q.2))] = rowW K x (ys.take (j + 1)) := by
  rw [take_at h]
  unfold rowW
  rw [List.map_append]
  rfl

set_option maxRecDepth 100000 in
set_option maxHeartbeats 6400000 in
theorem l2Times_any (a b : Option Addr) (n c m d : Nat) (xs ys : Mons) (w : World) (hx : RM w a xs) (hy : RM w b ys) (hn : xs.length = n) (hm : ys.length = m) (hb : n * m ≤ 1048576) (hn1 : n ≤ 1048576) (hm1 : m ≤ 1048576) (hkx : ∀ p ∈ xs, inK p.1) (hky : ∀ p ∈ ys, inK p.1) :
    Calls Try.prog 37 #[.slice a n c, .slice b m d] w fun e w' => ∃ a' n' c', e = .returned (.slice a' n' c') ∧ MO w' w.heap.size w'.heap.size a' n' c' (canon (timesM xs ys)) ∧ Below w.heap.size w w' := by
  have Hn := Lib.hid hn; clear hn
  have Hm := Lib.hid hm; clear hm
  have Hkx := Lib.hid hkx; clear hkx
  have Hky := Lib.hid hky; clear hky
  obtain ⟨N, hN⟩ : ∃ N, n * m = N := ⟨_, rfl⟩
  have HN := Lib.hid hN
  have q0 : IntKind.i64.wrap ((n : Int) * (m : Int)) = (N : Int) := by rw [IntWalk.i64_in _ (by rw [← Int.natCast_mul, hN]; omega), ← hN, Int.natCast_mul]
  rw [hN] at hb
  clear hN
  obtain ⟨i0, hi, hz0, hz1, hz2⟩ := info_parts Try.infoMon
  go_enter Try.func37, Try.ntmps37
  go_wp2_with (first | (at_make; refine wpList_make_own _ rfl _ _ 52 rfl w.heap.size 78 i0 (.agg #[.int .i64 0, .int .i64 0]) 2 Try.underlying52 hi hz0 hz1 .i64 .i64 _ N rfl rfl ?m1 ?m2 ?m3 ?m4 ?_) | go_in)
  case m1 => rfl
  case m2 => rw [hz2]; omega
  case m3 => unfold maxLen; omega
  case m4 => exact Nat.le_refl _
  intro w2 hown hg2
  have hm2 : MO w2 w.heap.size w2.heap.size (some ⟨w.heap.size, 0, none⟩) 0 N [] := MO.mk hown
  have hB2 : Below w.heap.size w w2 := (Below.refl _ _).grown hg2 (Nat.le_refl _) (by simp)
  have Hm2 := Lib.hid hm2
  clear hown hg2 hm2 hi hz0 hz1 hz2 q0
  go_wp2
  go_loopw [5, 6] (fun ov kv wr => Hid (∃ (k e : Nat) (a' : Option Addr) (c' : Nat), kv = .int .i64 k ∧ k ≤ n ∧ k * m = e ∧ ov = .slice a' e c' ∧ MO wr w.heap.size wr.heap.size a' e c' (timesW (xs.take k) ys)) ∧ Below w.heap.size w wr) (fun _ kv _ => n - (intOf kv).toNat)
  case atStart => exact ⟨⟨0, 0, _, _, rfl, by omega, by omega, rfl, by simpa [timesW] using Hm2.out⟩, hB2⟩
  case round =>
    clear Hm2 hB2
    obtain ⟨HV, hB⟩ := hrel
    obtain ⟨wq, rfl⟩ : ∃ wq : World, wq = wr := ⟨_, rfl⟩
    obtain ⟨k, e, a1, c1, rfl, hk, he, rfl, ho⟩ := HV.out
    clear HV
    have Ho := Lib.hid ho
    have He := Lib.hid he
    clear ho he
    by_cases hlt : k < n
    · obtain ⟨K, x, hxk⟩ := pairM_at Hn.out hlt
      obtain ⟨bx, ox, rfl, hcx⟩ := hx.at (k := k) (by rw [Hn.out]; exact hlt)
      obtain ⟨x1, x2⟩ := hcx k _ hxk
      simp only at x1 x2
      have HKk := Lib.hid (Hkx.out _ (List.mem_of_getElem? hxk))
      have Hst := Lib.hid (timesW_take (ys := ys) hxk)
      have hem : e + m ≤ N := by
        rw [← He.out, ← HN.out, ← Nat.succ_mul]
        exact Nat.mul_le_mul_right _ hlt
      clear hcx hxk
      have q1 : (k : Int) < (n : Int) := by omega
      go_wp2
      go_loopw [5, 7] (fun ov jv wr => Hid (∃ (j : Nat) (a' : Option Addr) (c' : Nat), jv = .int .i64 j ∧ j ≤ m ∧ ov = .slice a' (e + j) c' ∧ MO wr w.heap.size wr.heap.size a' (e + j) c' (timesW (xs.take k) ys ++ rowW K x (ys.take j))) ∧ Below w.heap.size w wr) (fun _ jv _ => m - (intOf jv).toNat)
      case atStart => exact ⟨⟨0, _, _, rfl, by omega, rfl, by simpa [rowW] using Ho.out⟩, hB⟩
      case round =>
        clear hB Ho
        obtain ⟨HV, hB⟩ := hrel
        obtain ⟨wo, rfl⟩ : ∃ wo : World, wo = wr := ⟨_, rfl⟩
        obtain ⟨j, a1, c1, rfl, hj, rfl, ho⟩ := HV.out
        clear HV
        by_cases hlt2 : j < m
        · have HO1 := Lib.hid (ho.below (Drew.below (Drew.drewN wo 1) _))
          obtain ⟨by', oy, rfl, hcy⟩ := hy.at (k := j) (by rw [Hm.out]; exact hlt2)
          obtain ⟨L, y, hyj⟩ := pairM_at Hm.out hlt2
          obtain ⟨y1, y2⟩ := hcy j _ hyj
          simp only at y1 y2
          have hKk := HKk.out
          have hLk := Hky.out _ (List.mem_of_getElem? hyj)
          unfold inK at hKk hLk
          simp only at hKk hLk
          have Hst2 := Lib.hid (rowW_take (K := K) (x := x) hyj)
          have q2 : IntKind.i64.wrap (x * y) = wrap64 (x * y) := IntWalk.i64_left _
          have q3 : IntKind.i64.wrap (K + L) = K + L := IntWalk.i64_in _ (by omega)
          have q4 : (j : Int) < (m : Int) := by omega
          have hbx : bx < w.heap.size := World.block_lt_of_cell? _ _ x1
          have hby : by' < w.heap.size := World.block_lt_of_cell? _ _ y1
          have S_of : ∀ w2, Below w.heap.size w w2 → w2.cell? ⟨bx, ox + k * 2, none⟩ = some (.int .i64 K) ∧ w2.cell? ⟨bx, ox + k * 2 + 1, none⟩ = some (.int .i64 x) ∧ w2.cell? ⟨by', oy + j * 2, none⟩ = some (.int .i64 L) ∧ w2.cell? ⟨by', oy + j * 2 + 1, none⟩ = some (.int .i64 y) := by
            intro w2 hb2
            exact ⟨by rw [hb2.cell (p := ⟨bx, ox + k * 2, none⟩) hbx]; exact x1, by rw [hb2.cell (p := ⟨bx, ox + k * 2 + 1, none⟩) hbx]; exact x2, by rw [hb2.cell (p := ⟨by', oy + j * 2, none⟩) hby]; exact y1, by rw [hb2.cell (p := ⟨by', oy + j * 2 + 1, none⟩) hby]; exact y2⟩
          have d1 : Below w.heap.size w wo.drew := hB.trans (Drew.below ⟨1, rfl⟩ _)
          clear ho hcy hyj y1 y2 hKk hLk
          go_wp2
          go_region_held3 (fun w' => w'.cell? ⟨bx, ox + k * 2, none⟩ = some (.int .i64 K) ∧ w'.cell? ⟨bx, ox + k * 2 + 1, none⟩ = some (.int .i64 x) ∧ w'.cell? ⟨by', oy + j * 2, none⟩ = some (.int .i64 L) ∧ w'.cell? ⟨by', oy + j * 2 + 1, none⟩ = some (.int .i64 y)) ((first | exact S_of _ hB | exact S_of _ d1 | exact S_of _ (Below.alloc d1 (Below.size d1) _) | exact S_of _ ‹_›))
            ((refine step_pushM (by rfl) (by rfl) _ _ (by rfl) HO1.out (by rfl) (by rfl) (by omega) (Below.size d1) ?_; intro a3 c3 w3 ho3 hg3; have hB3 := below_grown d1 hg3 (Below.size d1) HO1.out.lo))
          rw [List.append_assoc, Hst2.out] at ho3
          have HO3 := Lib.hid ho3
          clear ho3 HO1 hg3 S_of d1 q3
          go_wp2
          go_roundw
          case rel => exact ⟨⟨j + 1, _, _, by go_num, by omega, rfl, HO3.out⟩, hB3⟩
          case measure => simp [intOf]; omega
        · obtain rfl : j = m := by omega
          rw [List.take_of_length_le (l := ys) (by rw [Hm.out]; exact Nat.le_refl _), ← Hst.out] at ho
          have HO := Lib.hid ho
          have t1 : ¬ (j : Int) < (j : Int) := by omega
          clear ho
          go_wp2
          go_roundw
          case rel => exact ⟨⟨k + 1, _, _, _, by go_num, by omega, by rw [Nat.succ_mul, He.out], rfl, HO.out⟩, hB⟩
          case measure => simp [intOf]; omega
    · obtain rfl : k = n := by omega
      have hol := Ho.out
      rw [List.take_of_length_le (by rw [Hn.out]; exact Nat.le_refl _)] at hol
      have Hol := Lib.hid hol
      have t1 : ¬ (k : Int) < (k : Int) := by omega
      have h64 : ∀ p ∈ timesW xs ys, in64 p.2 := by
        intro p hp
        obtain ⟨q, _, hp⟩ := List.mem_flatMap.1 hp
        obtain ⟨r, _, rfl⟩ := List.mem_map.1 hp
        exact in64_wrap _
      have H642 := Lib.hid h64
      have heN : e ≤ 1048576 := by have := He.out; have := HN.out; omega
      clear hol h64 Ho
      have hbs := hB.size
      go_wp2_with fail
      refine (gather_any _ _ _ _ _ _ _ Hol.out heN H642.out).mono ?_
      rintro e w4 ⟨a4, n4, c4, rfl, ho4, hB4⟩
      have hfin := ho4.mono (B' := w.heap.size) (S' := w4.heap.size) hbs (Nat.le_refl _)
      rw [canon_eqv (timesW_eqv xs ys)] at hfin
      have Hfin := Lib.hid hfin
      have hB5 := hB.trans (hB4.mono hbs)
      clear hfin ho4
      go_wp2
      go_ret
      exact ⟨_, _, _, rfl, Hfin.out, hB5⟩
end Go.Proofs.Ytblhndkaikelaaa
