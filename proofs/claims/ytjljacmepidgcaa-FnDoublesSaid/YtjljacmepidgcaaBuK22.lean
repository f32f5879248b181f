/-
  The laws' own words for the program's operations on polynomials, within the limits.
  Contract of EvaluatePoly of the program, within the limits.
  One polynomial in two lists, to the last coefficient; lists gathered by hand; sums of sizes of coefficients. Plain.
-/
import Derived.Test.YtjljacmepidgcaaBuK20
import Derived.Test.YtjljacmepidgcaaOperated
import Derived.Test.YtjljacmepidgcaaBuK21
namespace Go.Proofs.Ytjljacmepidgcaa
open Go.RowKit

/-- the slice reads as the terms of a polynomial within the limits -/
structure PT (w : World) (a : Option Addr) (n : Nat) (F : Mons) : Prop where
  rd : RP w a (termsM F)
  len : (termsM F).length = n
  small : n ≤ 600
theorem PT.below {w w' : World} {a : Option Addr} {n : Nat} {F : Mons} (h : PT w a n F) (hb : Below w.heap.size w w') : PT w' a n F := ⟨h.rd.below hb, h.len, h.small⟩
theorem PT.of {w : World} {B S : Nat} {a : Option Addr} {n c : Nat} {F : Mons} (h : TO w B S a n c (termsM F)) (hF : OKp F) : PT w a n F :=
  ⟨h.rd, h.len, by rw [← h.len]; exact hF.len⟩
theorem PT.eqv {w : World} {a : Option Addr} {n : Nat} {F G : Mons} (h : PT w a n F) (e : Eqv F G) : PT w a n G := by
  obtain ⟨h1, h2, h3⟩ := h
  rw [termsM_eqv e] at h1 h2
  exact ⟨h1, h2, h3⟩
theorem terms_short (F : Mons) : ∀ p ∈ termsM F, p.1.length ≤ 1048576 := by
  intro p hp
  obtain ⟨k, hk⟩ := List.getElem?_of_mem hp
  obtain ⟨q, _, rfl⟩ := termsM_at hk
  simp [term, digs_length]
theorem isVar_nat {i : Nat} (hi : i ≤ 5) : isVar (i : Int) = true := by unfold isVar; rw [decide_eq_true_eq]; omega
theorem terms_law (a b : Option Addr) (n c m d : Nat) (F G : Mons) (w : World) (h : PT w a n F) (h' : PT w b m G) (e : Eqv F G) :
    Calls Try.prog 7 #[.slice a n c, .slice b m d] w fun e w' => e = .returned (.bool true) ∧ Drew w w' := by
  have h1 := h.small
  exact is (lawTerms_any a b n c m d (termsM F) (termsM G) w h.rd h'.rd h.len h'.len (by omega) (terms_short F)) (by rw [termsM_eqv e]; simp)
theorem op_terms {op : Nat → Mons → Mons} (hop : ∀ {i : Nat} {F G : Mons}, Eqv F G → Eqv (op i F) (op i G)) {F : Mons} {i : Nat} (hi : i ≤ 5) (hF : OKp F) (hR : OKp (op i F)) :
    opT op (termsM F) (i : Int) = termsM (op i F) ∧ opOk op (termsM F) (i : Int) = true := by
  obtain ⟨h1, h2⟩ := opT_yes (op := op) hF.ok (isVar_nat hi)
  rw [Int.toNat_natCast] at h1 h2
  rw [h1, h2, closedT_op (op := op i) (fun h => hop h) hF hR, termsM_op (op := op i) (fun h => hop h) hF]
  exact ⟨rfl, hR.ok⟩
end Go.Proofs.Ytjljacmepidgcaa

namespace Go.Proofs.Ytjljacmepidgcaa
open Go.RowKit

/-- the value of a monomial's powers, the first j variables -/
def powTo (ys e : List Int) : Nat → Int
  | 0 => 1
  | j + 1 => powTo ys e j * (ys.getD j 0) ^ (e.getD j 0).toNat
def valE (ys e : List Int) : Int := powTo ys e 7
/-- equal modulo the prime -/
def Cg (a b : Int) : Prop := a % 32003 = b % 32003
theorem Cg.refl (a : Int) : Cg a a := rfl
theorem Cg.trans {a b c : Int} (h : Cg a b) (k : Cg b c) : Cg a c := Eq.trans h k
theorem Cg.symm {a b : Int} (h : Cg a b) : Cg b a := Eq.symm h
theorem Cg.mul {a b c d : Int} (h : Cg a b) (k : Cg c d) : Cg (a * c) (b * d) := by
  unfold Cg at *
  rw [Int.mul_emod, h, k, ← Int.mul_emod]
theorem Cg.add {a b c d : Int} (h : Cg a b) (k : Cg c d) : Cg (a + c) (b + d) := by
  unfold Cg at *
  omega
theorem cg_tmod (a : Int) : Cg (a.tmod 32003) a := by
  unfold Cg
  have h := Int.tmod_add_mul_tdiv a 32003
  omega
theorem tmod_lt (a : Int) : -32003 < a.tmod 32003 ∧ a.tmod 32003 < 32003 := by
  have h1 := Int.tmod_lt_of_pos a (show (0 : Int) < 32003 by decide)
  have h2 := Int.lt_tmod_of_pos a (show (0 : Int) < 32003 by decide)
  omega
theorem tmod_res (a : Int) : ((a.tmod 32003) + 32003).tmod 32003 = a % 32003 := by
  have h1 := tmod_lt a
  have h2 := cg_tmod a
  unfold Cg at h2
  generalize a.tmod 32003 = t at *
  rw [Int.tmod_eq_emod_of_nonneg (by omega)]
  omega
/-- the sum over the first k terms -/
def evTo (ts : List (List Int × Int)) (ys : List Int) (k : Nat) : Int := (ts.take k).foldl (fun s t => s + t.2 * valE ys t.1) 0
theorem evTo_succ {ts : List (List Int × Int)} {ys : List Int} {k : Nat} {e : List Int} {c : Int} (h : ts[k]? = some (e, c)) : evTo ts ys (k + 1) = evTo ts ys k + c * valE ys e := by
  unfold evTo
  rw [take_at h, List.foldl_append]
  rfl
theorem powTo_pos {ys e : List Int} {j : Nat} {y x : Int} (hy : ys[j]? = some y) (hx : e[j]? = some x) : powTo ys e (j + 1) = powTo ys e j * y ^ x.toNat := by
  rw [powTo, getD_of hy, getD_of hx]
theorem evTo_zero (ts : List (List Int × Int)) (ys : List Int) : evTo ts ys 0 = 0 := rfl
theorem small_mul {a b : Int} (ha : -32003 < a ∧ a < 32003) (hb : -32003 < b ∧ b < 32003) : -1100000000 ≤ a * b ∧ a * b ≤ 1100000000 := by
  have := mul_range (C := 32003) (D := 32003) (a := a) (b := b) (by omega) (by omega)
  omega
set_option maxRecDepth 100000 in
set_option maxHeartbeats 6400000 in
theorem implEval_any (a b : Option Addr) (n c d : Nat) (F : Mons) (ys : List Int) (w : World) (h : PT w a n F) (hF : OKp F) (hr : RI w b ys) (hy : ys.length = 7) :
    Calls Try.prog 12 #[.slice a n c, .slice b 7 d] w fun e w' => e = .returned (.int .i64 (evTo (termsM F) ys n % 32003)) ∧ Below w.heap.size w w' := by
  have hs := h.small
  have Hok := Lib.hid hF.ok
  have Hn := Lib.hid h.len
  have Hy := Lib.hid hy
  have q0 : ((7 : Int) != 7) = false := by decide
  go_enter Try.func12, Try.ntmps12
  go_wp2_with fail
  refine (is (implPolyOk_any _ _ _ (termsM F) _ h.rd Hn.out (by omega)) Hok.out).mono ?_
  rintro e w1 ⟨rfl, hB1⟩
  have hrd := h.rd
  clear h hF hy
  go_wp2
  go_loopw [5, 21] (fun sv kv wr => Hid (∃ (k : Nat) (S : Int), kv = .int .i64 k ∧ k ≤ n ∧ sv = .int .i64 S ∧ Cg S (evTo (termsM F) ys k) ∧ -32003 * (k : Int) ≤ S ∧ S ≤ 32003 * (k : Int)) ∧ Below w.heap.size w wr) (fun _ kv _ => n - (intOf kv).toNat)
  case atStart => exact ⟨⟨0, 0, rfl, Nat.zero_le _, rfl, by rw [evTo_zero]; exact Cg.refl _, by omega, by omega⟩, hB1⟩
  case round =>
    clear hB1
    obtain ⟨HV, hd⟩ := hrel
    obtain ⟨wo, rfl⟩ : ∃ wo : World, wo = wr := ⟨_, rfl⟩
    obtain ⟨k, S, rfl, hk, rfl, hS, hS1, hS2⟩ := HV.out
    clear HV
    have HS := Lib.hid hS
    clear hS
    by_cases hlt : k < n
    · obtain ⟨bb, off, rfl, hcell⟩ := (hrd.below hd).at (k := k) (by rw [Hn.out]; exact hlt)
      obtain ⟨s, x, hx⟩ := part_at Hn.out hlt
      obtain ⟨h7, hdg, h24, hc1m, hc2m, _⟩ := polyOk_each Hok.out hx
      obtain ⟨a1, c1, hc1, hc2, hri, _⟩ := hcell k _ hx
      simp only at hc1 hc2 hri
      rw [h7] at hc1
      have Hx := Lib.hid hx
      have Hl := Lib.hid h7
      have Hdg := Lib.hid (show ∀ z ∈ s, 0 ≤ z ∧ z ≤ 24 from fun z hz => ⟨(hdg z hz).1, h24 z hz⟩)
      clear hcell hx h7 hdg h24
      have q1 : (k : Int) < (n : Int) := by omega
      obtain ⟨W, hW⟩ : ∃ W, wo.alloc (.cells #[.slice a1 7 c1, .int .i64 x] 45) = W := ⟨_, rfl⟩
      have hBW : Below wo.heap.size wo W := by rw [← hW]; exact (Below.refl _ _).alloc (Nat.le_refl _) _
      have hdW := hd.trans (hBW.mono hd.size)
      have g0 : W.heap[wo.heap.size]? = some (.cells #[.slice a1 7 c1, .int .i64 x] 45) := by rw [← hW]; exact heap_alloc_new wo _
      have p0 : W.cell? ⟨wo.heap.size, 0, none⟩ = some (.slice a1 7 c1) := by rw [cell_of_row W _ 0 _ _ (0, 0) g0]; rfl
      have p1 : W.cell? ⟨wo.heap.size, 1, none⟩ = some (.int .i64 x) := by rw [cell_of_row W _ 1 _ _ (0, 0) g0]; rfl
      have hriW := hri.below hBW
      have hyW := hr.below hdW
      have hx0 := tmod_lt x
      have hxc := cg_tmod x
      clear g0
      generalize hN0 : x.tmod 32003 = N0 at hx0 hxc
      have HN0 := Lib.hid hN0
      have Hxc := Lib.hid hxc
      have q2 := HN0.out
      clear hN0 hxc
      go_wp2
      clear q2
      go_loop [8, 31] (fun nv iv => Hid (∃ (i : Nat) (N : Int), iv = .int .i64 i ∧ i ≤ 7 ∧ nv = .int .i64 N ∧ Cg N (x * powTo ys s i) ∧ -32003 < N ∧ N < 32003)) (fun _ iv => 7 - (intOf iv).toNat)
      case atStart => exact ⟨0, N0, rfl, by omega, rfl, by rw [show powTo ys s 0 = 1 from rfl, Int.mul_one]; exact Hxc.out, by omega, by omega⟩
      case round =>
        clear Hxc HN0
        obtain ⟨i, N, rfl, hi, rfl, hN, hN1, hN2⟩ := hrel.out
        clear hrel
        have HN := Lib.hid hN
        clear hN
        by_cases hi7 : i < 7
        · obtain ⟨bs, offs, rfl, hcs⟩ := hriW.at (k := i) (by rw [Hl.out]; exact hi7)
          obtain ⟨z, hz⟩ := some_at Hl.out hi7
          have hcz := hcs i z hz
          obtain ⟨b2, off2, rfl, hcy⟩ := hyW.at (k := i) (by rw [Hy.out]; exact hi7)
          obtain ⟨y, hyy⟩ := some_at Hy.out hi7
          have hpy := hcy i y hyy
          obtain ⟨hz0, hz24⟩ := Hdg.out z (List.mem_of_getElem? hz)
          obtain ⟨m, rfl⟩ : ∃ m : Nat, z = m := ⟨z.toNat, by omega⟩
          have Hz := Lib.hid (powTo_pos hyy hz)
          have r1 : (i : Int) < 7 := by omega
          have hy0 := tmod_lt y
          have Hyc := Lib.hid (cg_tmod y)
          clear hcs hz hcy hyy
          generalize hY : y.tmod 32003 = Y at hy0
          have HY := Lib.hid hY
          clear hY
          go_wp2
          go_loop [8, 37] (fun nv tv => Hid (∃ (t : Nat) (N : Int), tv = .int .i64 t ∧ t ≤ m ∧ nv = .int .i64 N ∧ Cg N (x * powTo ys s i * y ^ t) ∧ -32003 < N ∧ N < 32003)) (fun _ tv => m - (intOf tv).toNat)
          case atStart => exact ⟨0, N, rfl, by omega, rfl, by rw [Int.pow_zero, Int.mul_one]; exact HN.out, hN1, hN2⟩
          case round =>
            clear HN hN1 hN2
            obtain ⟨t, M, rfl, ht, rfl, hM, hM1, hM2⟩ := hrel.out
            clear hrel
            have HM := Lib.hid hM
            clear hM
            by_cases htm : t < m
            · have r2 : (t : Int) < (m : Int) := by omega
              have r3 := HY.out
              have hmul := small_mul (a := M) (b := Y) (by omega) hy0
              have r4 : IntKind.i64.wrap (M * Y) = M * Y := IntWalk.i64_in _ (by omega)
              have hres := tmod_lt (M * Y)
              have Hres := Lib.hid (show Cg ((M * Y).tmod 32003) (x * powTo ys s i * y ^ (t + 1)) by
                rw [Int.pow_succ, ← Int.mul_assoc]
                exact (cg_tmod _).trans (HM.out.mul (by have := Hyc.out; rw [HY.out] at this; exact this)))
              go_wp2
              go_roundw
              case rel => exact ⟨t + 1, _, by go_num, by omega, rfl, Hres.out, hres.1, hres.2⟩
              case measure => simp [intOf]; omega
            · obtain rfl : t = m := by omega
              have Hnew := Lib.hid (show Cg M (x * powTo ys s (i + 1)) by
                rw [Hz.out, Int.toNat_natCast, ← Int.mul_assoc]
                exact HM.out)
              go_wp2
              go_roundw
              case rel => exact ⟨i + 1, M, by go_num, by omega, rfl, Hnew.out, hM1, hM2⟩
              case measure => simp [intOf]; omega
        · obtain rfl : i = 7 := by omega
          have Hsum := Lib.hid (show Cg (S + N) (evTo (termsM F) ys (k + 1)) by
            rw [evTo_succ Hx.out]
            exact HS.out.add HN.out)
          have r5 : IntKind.i64.wrap (S + N) = S + N := IntWalk.i64_in _ (by omega)
          go_wp2
          go_roundw
          case rel => exact ⟨⟨k + 1, S + N, by go_num, by omega, rfl, Hsum.out, by omega, by omega⟩, hdW⟩
          case measure => simp [intOf]; omega
    · obtain rfl : k = n := by omega
      have h1 := tmod_lt S
      have h2 := tmod_res S
      have h3 := HS.out
      unfold Cg at h3
      have Hres := Lib.hid (h2.trans h3)
      generalize hT : S.tmod 32003 = T at h1 h2
      have q3 := hT
      have q4 : IntKind.i64.wrap (T + 32003) = T + 32003 := IntWalk.i64_in _ (by omega)
      have Hfin := Lib.hid (h2.trans h3)
      clear hT h2 h3
      go_wp2
      go_ret
      exact ⟨ret_int (by rw [← Int.tmod_eq_emod_of_nonneg (by omega)]; exact Hfin.out), hd⟩
end Go.Proofs.Ytjljacmepidgcaa

namespace Go.Proofs.Ytjljacmepidgcaa
open Go.RowKit

def Same (F G : Mons) : Prop := ∀ v, wsum F v = wsum G v
theorem Same.refl (F : Mons) : Same F F := fun _ => rfl
theorem Same.symm {F G : Mons} (h : Same F G) : Same G F := fun v => (h v).symm
theorem Same.trans {F G H : Mons} (h : Same F G) (k : Same G H) : Same F H := fun v => (h v).trans (k v)
theorem Same.eqv {F G : Mons} (h : Same F G) : Eqv F G := Eqv.of_wsum fun v => by rw [h v, Int.sub_self]; exact Int.dvd_zero _
theorem Same.raw {F G : Mons} (h : Same F G) (k : Int) : raw F k = raw G k := h _
theorem Same.append {F G F' G' : Mons} (h : Same F G) (k : Same F' G') : Same (F ++ F') (G ++ G') := fun v => by rw [wsum_append, wsum_append, h v, k v]
theorem Same.flatMap {f : Int × Int → Mons} (hf : Lin f) {F G : Mons} (h : Same F G) : Same (F.flatMap f) (G.flatMap f) := by
  obtain ⟨A, hA⟩ := hf.flat
  exact fun v => by rw [hA, hA]; exact h _
theorem Same.divided {i : Nat} {F G : Mons} (h : Same F G) : Same (dividedM i F) (dividedM i G) := h.flatMap (lin_dd i)
theorem Same.scale {c : Int} {F G : Mons} (h : Same F G) : Same (scaleM c F) (scaleM c G) := fun v => by rw [wsum_scale, wsum_scale, h v]
theorem Same.plus {c : Int} {F G F' G' : Mons} (h : Same F G) (k : Same F' G') : Same (plusM F c F') (plusM G c G') := h.append k.scale
theorem wsum_keys (g : Int → Int) (F : Mons) (v : Int → Int) : wsum (F.map fun p => (g p.1, p.2)) v = wsum F fun k => v (g k) := by
  induction F with
  | nil => rfl
  | cons p F ih => rw [List.map_cons, wsum, ih, wsum]
theorem Same.keys (g : Int → Int) {F G : Mons} (h : Same F G) : Same (F.map fun p => (g p.1, p.2)) (G.map fun p => (g p.1, p.2)) := fun v => by rw [wsum_keys, wsum_keys]; exact h _
theorem Same.raised {i : Nat} {F G : Mons} (h : Same F G) : Same (raisedM i F) (raisedM i G) := h.keys fun k => k + unit i
theorem Same.swap {i : Nat} {F G : Mons} (h : Same F G) : Same (swapM i F) (swapM i G) := h.keys (swapK i)
theorem Same.times {F G F' G' : Mons} (h : Same F G) (k : Same F' G') : Same (timesM F F') (timesM G G') := fun v => by
  rw [wsum_times, wsum_times, h]
  congr 1
  funext j
  exact k _
theorem Same.dem {i : Nat} {F G : Mons} (h : Same F G) : Same (demM i F) (demM i G) := h.raised.divided
theorem Same.iso {i : Nat} {F G : Mons} (h : Same F G) : Same (isoM i F) (isoM i G) := (h.plus h.raised).divided

/-! gathered, the greatest key first -/
def insM (k c : Int) : Mons → Mons
  | [] => if c = 0 then [] else [(k, c)]
  | (j, d) :: l => if k = j then (if c + d = 0 then l else (j, c + d) :: l) else if j < k then (if c = 0 then (j, d) :: l else (k, c) :: (j, d) :: l) else (j, d) :: insM k c l
theorem insM_sum (k c : Int) (v : Int → Int) : ∀ l : Mons, wsum (insM k c l) v = c * v k + wsum l v
  | [] => by
    unfold insM
    split
    · rename_i h; simp [h, wsum]
    · simp [wsum]
  | (j, d) :: l => by
    unfold insM
    split
    · rename_i h
      subst h
      split
      · rename_i h0
        rw [wsum]
        have : c * v k + (d * v k + wsum l v) = (c + d) * v k + wsum l v := by rw [Int.add_mul]; omega
        rw [this, h0]; simp
      · rw [wsum, wsum]
        simp only
        rw [Int.add_mul]; omega
    · split
      · split
        · rename_i h0; rw [h0]; simp
        · rw [wsum]
      · rw [wsum, insM_sum k c v l, wsum]; omega
def gath (F : Mons) : Mons := F.foldr (fun p l => insM p.1 p.2 l) []
theorem gath_same (F : Mons) : Same (gath F) F := fun v => by
  induction F with
  | nil => rfl
  | cons p F ih =>
    have e : gath (p :: F) = insM p.1 p.2 (gath F) := rfl
    rw [e, insM_sum, ih, wsum]
theorem same_of_gath {F G : Mons} (h : gath F = gath G) : Same F G := (gath_same F).symm.trans (by rw [h]; exact gath_same G)
theorem insM_keys {k c : Int} : ∀ {l : Mons} {p : Int × Int}, p ∈ insM k c l → p.1 = k ∨ ∃ q ∈ l, q.1 = p.1
  | [], p, h => by
    unfold insM at h
    split at h
    · cases h
    · left; simp at h; rw [h]
  | (j, d) :: l, p, h => by
    unfold insM at h
    split at h
    · split at h
      · exact .inr ⟨p, List.mem_cons_of_mem _ h, rfl⟩
      · rcases List.mem_cons.1 h with rfl | h
        · exact .inr ⟨(j, d), List.mem_cons_self, rfl⟩
        · exact .inr ⟨p, List.mem_cons_of_mem _ h, rfl⟩
    · split at h
      · split at h
        · exact .inr ⟨p, h, rfl⟩
        · rcases List.mem_cons.1 h with rfl | h
          · exact .inl rfl
          · exact .inr ⟨p, h, rfl⟩
      · rcases List.mem_cons.1 h with rfl | h
        · exact .inr ⟨(j, d), List.mem_cons_self, rfl⟩
        · rcases insM_keys h with h | ⟨q, hq, e⟩
          · exact .inl h
          · exact .inr ⟨q, List.mem_cons_of_mem _ hq, e⟩
theorem gath_keys : ∀ {F : Mons} {p : Int × Int}, p ∈ gath F → ∃ q ∈ F, q.1 = p.1
  | [], p, h => by cases h
  | r :: F, p, h => by
    rcases insM_keys (show p ∈ insM r.1 r.2 (gath F) from h) with h | ⟨q, hq, e⟩
    · exact ⟨r, List.mem_cons_self, h.symm⟩
    · obtain ⟨s, hs, e2⟩ := gath_keys hq
      exact ⟨s, List.mem_cons_of_mem _ hs, by rw [e2, e]⟩
theorem Bd.gath {B : Int} {F : Mons} (h : Bd B F) : Bd B (gath F) := h.keys fun _ hp => gath_keys hp

/-! sizes -/
def nrm (F : Mons) : Nat := F.foldr (fun p n => p.2.natAbs + n) 0
theorem raw_nrm (F : Mons) (k : Int) : -(nrm F : Int) ≤ raw F k ∧ raw F k ≤ nrm F := by
  unfold raw
  induction F with
  | nil => simp [wsum, nrm]
  | cons p F ih =>
    have e : nrm (p :: F) = p.2.natAbs + nrm F := rfl
    rw [e, wsum]
    have h : p.2 * hit k p.1 = p.2 ∨ p.2 * hit k p.1 = 0 := by
      unfold hit
      split
      · left; simp
      · right; simp
    rcases h with h | h <;> rw [h] <;> omega
theorem canon_len_le (F : Mons) : (canon F).length ≤ F.length := by
  have e : F.length = (F.map fun p => p.1).length := (List.length_map _).symm
  rw [canon_length, e]
  refine (keysOf_nodup F).length_le_of_subset fun k hk => ?_
  rw [mem_keysOf] at hk
  rcases Decidable.em (k ∈ F.map fun p => p.1) with h1 | h1
  · exact h1
  · exact absurd (coef_miss fun p hp e => h1 (List.mem_map.2 ⟨p, hp, e⟩)) hk
theorem GoodM.list {F : Mons} (h : Bd 24 F) : GoodM F.length (nrm F) F := ⟨h, canon_len_le F, raw_nrm F⟩
theorem GoodM.same {n C : Nat} {F G : Mons} (h : GoodM n C G) (e : Same F G) (hb : Bd 24 F) : GoodM n C F :=
  ⟨hb, by rw [canon_len_eqv e.eqv]; exact h.few, fun k => by rw [e.raw]; exact h.low k⟩
theorem GoodM.of_list {F G : Mons} (h : Same F G) (hb : Bd 24 F) {n C : Nat} (hn : G.length ≤ n) (hC : nrm G ≤ C) : GoodM n C F :=
  ⟨hb, by rw [canon_len_eqv h.eqv]; exact Nat.le_trans (canon_len_le G) hn, fun k => by rw [h.raw]; have := raw_nrm G k; omega⟩
def degK (k : Int) : Int := dig k 0 + dig k 1 + dig k 2 + dig k 3 + dig k 4 + dig k 5 + dig k 6
end Go.Proofs.Ytjljacmepidgcaa
