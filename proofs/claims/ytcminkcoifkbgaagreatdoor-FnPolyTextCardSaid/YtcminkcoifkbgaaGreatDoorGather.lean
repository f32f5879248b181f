/-
  Contract of l2Gather: the one ordered form.
-/
import Derived.Test.YtcminkcoifkbgaaGreatDoorBuD
import Derived.BigQuiet
namespace Go.Proofs.YtcminkcoifkbgaaGreatDoor
open Go.RowKit

/-- a row of monomials: its numbers -/
theorem MO.rdAt {w : World} {B S g n c : Nat} {xs : List (Int × Int)} (h : MO w B S (some ⟨g, 0, none⟩) n c xs) {k : Nat} {p : Int × Int} (hp : xs[k]? = some p) :
    w.cell? ⟨g, k * 2, none⟩ = some (.int .i64 p.1) ∧ w.cell? ⟨g, k * 2 + 1, none⟩ = some (.int .i64 p.2) := by
  obtain ⟨g', e, _, h1, h2, _⟩ := h.cons hp
  obtain rfl : g = g' := by simpa using e
  exact ⟨h1, h2⟩
theorem MO.addr {w : World} {B S n c : Nat} {a : Option Addr} {xs : List (Int × Int)} (h : MO w B S a n c xs) (hn : 0 < n) : ∃ g, a = some ⟨g, 0, none⟩ ∧ B ≤ g := by
  obtain ⟨p, hp⟩ := some_of (show 0 < xs.length by rw [h.len]; exact hn)
  obtain ⟨g, e, hB, _⟩ := h.cons hp
  exact ⟨g, e, hB⟩

theorem MO.addr' {w : World} {B S n c : Nat} {a : Addr} {xs : List (Int × Int)} (h : MO w B S (some a) n c xs) : ∃ g, a = ⟨g, 0, none⟩ ∧ B ≤ g := by
  rcases h.1.2 with ⟨hv, _⟩ | ⟨g, cap, cur, hv, hg, _⟩
  · simp at hv
  · simp only [Value.slice.injEq, Option.some.injEq] at hv
    exact ⟨g, hv.1, hg⟩
/-- append of a row of monomials that somebody owns -/
theorem wpList_appMO {w : World} {ops : Array Oper} {rest : List Oper} {o : Oper} {ac : Act} {Q : Exit → Act → World → Prop} (hgd : o.guard = none) (s x : Operand)
    (ho : o.op = .call { callee := .builtin .append, args := #[s, x], argTypes := #[63, 63] })
    {B S : Nat} {a : Option Addr} {n c : Nat} {xs : List (Int × Int)} (hown : MO w B S a n c xs) (hs : ac.eval s = .slice a n c)
    {b : Option Addr} {B2 S2 m d : Nat} {ys : List (Int × Int)} (hr : MO w B2 S2 b m d ys) (hx : ac.eval x = .slice b m d) (hn : n + m ≤ 16777216) (hbase : B ≤ w.heap.size) (hS : S ≤ w.heap.size)
    (h : ∀ a' c' w', MO w' B w'.heap.size a' (n + m) c' (xs ++ ys) → w.grownBy w' (Value.slice a n c).ownBlock → wpList Tryz.prog ops Q rest (ac.put o.dst (.slice a' (n + m) c')) w') :
    wpList Tryz.prog ops Q (o :: rest) ac w := by
  cases b with
  | some b =>
    obtain ⟨g, rfl, _⟩ := hr.addr'
    exact wpList_appM hgd s x ho hown hs (off := 0) (fun k p hp => by rw [Nat.zero_add]; exact hr.rdAt hp) hr.len hx hn hbase h
  | none =>
    have hm : m = 0 ∧ d = 0 := by
      rcases hr.1.2 with ⟨hv, _⟩ | ⟨g, cap, cur, hv, _⟩
      · simp only [Value.slice.injEq] at hv
        exact ⟨hv.2.1, hv.2.2⟩
      · simp at hv
    obtain ⟨rfl, rfl⟩ := hm
    have hy : ys = [] := List.eq_nil_of_length_eq_zero hr.len
    subst hy
    obtain ⟨i0, hi, hz0, hz1, hz2⟩ := info_parts Tryz.infoMon
    refine wpList_plain hgd fun _ hK => ?_
    have hrun : (Builtin.append_ #[63, 63] o.type #[.slice a n c, .slice none 0 0]).run Tryz.prog w = .ok (.slice a n c) w := by
      rcases hown.1.2 with ⟨hv, rfl⟩ | ⟨g, cap, cur, hv, _, _, hnc, _⟩
      · rw [hv]
        simp [Builtin.append_, run_underlying Tryz.underlying63, sizeOf, typeInfo, hi, Builtin.lenOf, Builtin.firstCells]
      · simp only [Value.slice.injEq] at hv
        obtain ⟨rfl, _, rfl⟩ := hv
        simp [Builtin.append_, run_underlying Tryz.underlying63, sizeOf, typeInfo, hi, Builtin.lenOf, Builtin.firstCells, hnc, storeCells]
    unfold Oper.wp execOp
    simp only [ho, resolve, invoke, builtin, Sem.run_bind, Sem.run_pure, Result.andThen_ok, List.map_toArray, List.map_cons, List.map_nil, hs, hx, hrun]
    exact hK _ _ (h a c w (by rw [List.append_nil]; exact hown.mono (Nat.le_refl _) hS) ⟨rfl, rfl, rfl, Nat.le_refl _, fun _ _ _ => rfl⟩)

set_option maxRecDepth 100000 in
set_option maxHeartbeats 6400000 in
theorem gather_any (B S : Nat) (a : Option Addr) (n c : Nat) (xs : List (Int × Int)) (w : World) (ho : MO w B S a n c xs) (hb : n ≤ 1048576) (h64 : ∀ p ∈ xs, in64 p.2) :
    Calls Tryz.prog 55 #[.slice a n c] w fun e w' => ∃ a' n' c', e = .returned (.slice a' n' c') ∧ MO w' w.heap.size w'.heap.size a' n' c' (canon xs) ∧ Below w.heap.size w w' := by
  have hn := ho.len
  have Hn := Lib.hid hn; clear hn
  have hB0 : Below w.heap.size w (w.alloc (.cells #[] 88)) := (Below.refl _ _).alloc (Nat.le_refl _) _
  have hs0 : w.heap.size ≤ (w.alloc (.cells #[] 88)).heap.size := hB0.size
  have hm0 : MO (w.alloc (.cells #[] 88)) w.heap.size (w.alloc (.cells #[] 88)).heap.size (some ⟨w.heap.size, 0, none⟩) 0 0 [] := MO.made w
  have hrd := ho.below hB0
  go_enter Tryz.func55, Tryz.ntmps55
  go_wp2_with (first | (at_builtin; go_loud (refine wpList_appMO (by rfl) _ _ (by rfl) hm0 (by rfl) hrd (by rfl) (by omega) hs0 (Nat.le_refl _) ?_)) | go_in)
  intro a1 c1 w1 ho1 hg1
  have hB1 : Below w.heap.size w w1 := below_grown (v := .slice (some ⟨w.heap.size, 0, none⟩) 0 0) hB0 (by simpa using hg1) hs0 (by intro k hk; simp [Value.ownBlock] at hk; omega)
  have Ho1 := Lib.hid (show MO w1 w.heap.size w1.heap.size a1 n c1 xs by simpa using ho1)
  clear ho1 hg1 hrd hm0 hB0 hs0
  go_wp2
  go_loopw [3, 4] (fun ov sv wr => Hid (∃ (s : Nat) (a' : Option Addr) (c' : Nat) (ys : Mons), 1 ≤ s ∧ sv = .int .i64 s ∧ s ≤ 4194304 ∧ ov = .slice a' n c' ∧ MO wr w.heap.size wr.heap.size a' n c' ys ∧ ys.Perm xs ∧ BS s ys) ∧ Below w.heap.size w wr) (fun _ sv _ => 2 * n - (intOf sv).toNat)
  case atStart => exact ⟨⟨1, a1, c1, xs, by omega, rfl, by omega, rfl, Ho1.out, List.Perm.refl _, BS_one xs⟩, hB1⟩
  case round =>
    clear Ho1 hB1
    obtain ⟨HV, hB⟩ := hrel
    obtain ⟨wo, rfl⟩ : ∃ wo : World, wo = wr := ⟨_, rfl⟩
    obtain ⟨s, a1, c1, ys, hs1, rfl, hs2, rfl, hoy, hpy, hby⟩ := HV.out
    clear HV
    have Hoy := Lib.hid hoy
    have Hpy := Lib.hid hpy
    have Hby := Lib.hid hby
    have Hyl := Lib.hid hoy.len
    clear hoy hpy hby
    have hbs := hB.size
    by_cases hlt : s < n
    · obtain ⟨g1, rfl, hBg⟩ := Hoy.out.addr (by omega)
      obtain ⟨i0, hi, hz0, hz1, hz2⟩ := info_parts Tryz.infoMon
      have q1 : (s : Int) < (n : Int) := by omega
      go_wp2_with (first | (at_make; refine wpList_make_own _ rfl _ _ 63 rfl wo.heap.size 88 i0 (.agg #[.int .i64 0, .int .i64 0]) 2 Tryz.underlying63 hi hz0 hz1 .i64 .i64 _ n rfl rfl ?m1 ?m2 ?m3 ?m4 ?_) | go_in)
      case m1 => rfl
      case m2 => rw [hz2]; omega
      case m3 => unfold maxLen; omega
      case m4 => exact Nat.le_refl _
      intro w2 hown hg2
      have hm2 : MO w2 wo.heap.size w2.heap.size (some ⟨wo.heap.size, 0, none⟩) 0 n [] := MO.mk hown
      have hB2 : Below wo.heap.size wo w2 := (Below.refl _ _).grown hg2 (Nat.le_refl _) (by simp)
      have Hm2 := Lib.hid hm2
      clear hown hg2 hm2
      go_wp2
      go_loopw [5, 6] (fun nv av wr => Hid (∃ (q e : Nat) (a' : Option Addr) (c' : Nat) (zs : Mons), av = .int .i64 (2 * s * q : Nat) ∧ e = min (2 * s * q) n ∧ nv = .slice a' e c' ∧ MO wr wo.heap.size wr.heap.size a' e c' zs ∧ zs.Perm (ys.take (2 * s * q)) ∧ BS (2 * s) zs) ∧ Below wo.heap.size wo wr) (fun _ av _ => n - (intOf av).toNat)
      case atStart => exact ⟨⟨0, 0, _, _, [], by simp, by simp, rfl, Hm2.out, by simp, fun i j p q h => by simp at h⟩, hB2⟩
      case round =>
        clear Hm2 hB2 hi hz0 hz1 hz2
        obtain ⟨HV, hBi⟩ := hrel
        obtain ⟨wi, rfl⟩ : ∃ wi : World, wi = wr := ⟨_, rfl⟩
        obtain ⟨q, e0, a2, c2, zs, rfl, he0, rfl, hoz, hpz, hbz⟩ := HV.out
        clear HV
        have Hoz := Lib.hid hoz
        have Hpz := Lib.hid hpz
        have Hbz := Lib.hid hbz
        clear hoz hpz hbz
        obtain ⟨at', hat⟩ : ∃ at', 2 * s * q = at' := ⟨_, rfl⟩
        rw [hat] at he0 ⊢
        have Hat := Lib.hid hat
        by_cases hlt2 : at' < n
        · obtain rfl : at' = e0 := by omega
          obtain ⟨mid, hmid⟩ : ∃ mid, min (at' + s) n = mid := ⟨_, rfl⟩
          obtain ⟨en, hen⟩ : ∃ en, min (at' + 2 * s) n = en := ⟨_, rfl⟩
          have q2 : (at' : Int) < (n : Int) := by omega
          have q3 : (if (n : Int) < (at' : Int) + (s : Int) then (n : Int) else (at' : Int) + (s : Int)) = (mid : Int) := by split <;> omega
          have q4 : (if (n : Int) < (at' : Int) + 2 * (s : Int) then (n : Int) else (at' : Int) + 2 * (s : Int)) = (en : Int) := by split <;> omega
          have Hmid := Lib.hid hmid
          have Hen := Lib.hid hen
          have q5 : IntKind.i64.wrap ((at' : Int) + (s : Int)) = (at' : Int) + (s : Int) := IntWalk.i64_in _ (by omega)
          have q6 : IntKind.i64.wrap (2 * (s : Int)) = 2 * (s : Int) := IntWalk.i64_in _ (by omega)
          have q7 : IntKind.i64.wrap ((at' : Int) + 2 * (s : Int)) = (at' : Int) + 2 * (s : Int) := IntWalk.i64_in _ (by omega)
          have b1 : at' ≤ mid := by omega
          have b2 : mid ≤ en := by omega
          have b3 : en ≤ n := by omega
          have HL : Hid (∀ (i : Nat) (x : Int × Int), at' ≤ i → i < mid → ys[i]? = some x → ∀ (k : Nat) (y : Int × Int), i ≤ k → k < mid → ys[k]? = some y → y.1 ≤ x.1) := by
            intro i x h1 h2 hx k y h3 h4 hy
            have := Hmid.out
            have := Hat.out
            exact BS_run Hby.out (q := 2 * q) (a := at') (e := mid) (by omega) (by rw [← Hat.out, Nat.mul_assoc, Nat.mul_left_comm]) (by omega) h1 h3 h4 hx hy
          have HR : Hid (∀ (i : Nat) (x : Int × Int), mid ≤ i → i < en → ys[i]? = some x → ∀ (k : Nat) (y : Int × Int), i ≤ k → k < en → ys[k]? = some y → y.1 ≤ x.1) := by
            intro i x h1 h2 hx k y h3 h4 hy
            have := Hmid.out
            have := Hen.out
            exact BS_run Hby.out (q := 2 * q + 1) (a := at' + s) (e := en) (by omega) (by rw [← Hat.out, Nat.mul_add, Nat.mul_one, Nat.mul_assoc, Nat.mul_left_comm]) (by omega) (by omega) h3 h4 hx hy
          clear hmid hen hat he0
          go_wp2
          go_loopw [5, 7, 9] (fun nv iv jv wr => Hid (∃ (i j m : Nat) (a' : Option Addr) (c' : Nat) (ms : Mons), iv = .int .i64 i ∧ jv = .int .i64 j ∧ at' ≤ i ∧ i ≤ mid ∧ mid ≤ j ∧ j ≤ en ∧ m + mid = i + j ∧ nv = .slice a' m c' ∧ MO wr wo.heap.size wr.heap.size a' m c' (zs ++ ms) ∧ Mg ys at' mid en i j ms) ∧ Below wo.heap.size wo wr) (fun _ iv jv _ => (mid - (intOf iv).toNat) + (en - (intOf jv).toNat))
          case atStart => exact ⟨⟨at', mid, at', a2, c2, [], rfl, rfl, by omega, b1, by omega, b2, by omega, rfl, by rw [List.append_nil]; exact Hoz.out, Mg.start _ _ _ _⟩, hBi⟩
          case round =>
            clear Hoz hBi q3 q4 q5 q6 q7
            obtain ⟨HV, hBi⟩ := hrel
            obtain ⟨wj, rfl⟩ : ∃ wj : World, wj = wr := ⟨_, rfl⟩
            obtain ⟨i, j, m, a2, c2, ms, rfl, rfl, i1, i2, j1, j2, hm, rfl, hom, hmg⟩ := HV.out
            clear HV
            have Hom := Lib.hid hom
            have Hmg := Lib.hid hmg
            have hbi := hBi.size
            have Hoy1 := Lib.hid (Hoy.out.below (hBi.mono (Nat.le_refl _)))
            have HomD := Lib.hid (fun d : Nat => Hom.out.below (Drew.below (Drew.drewN wj d) _))
            clear hom hmg
            by_cases hi1 : i < mid
            · obtain ⟨x, cx, hx⟩ := pairM_at Hyl.out (show i < n by omega)
              obtain ⟨p1, p2⟩ := Hoy1.out.rdAt hx
              simp only at p1 p2
              have Hx := Lib.hid hx
              have HLx := Lib.hid (HL.out i (x, cx) i1 hi1 hx)
              clear hx
              have r1 : (i : Int) < (mid : Int) := by omega
              have r2 : (i : Int) < (n : Int) := by omega
              by_cases hj1 : j < en
              · obtain ⟨y, cy, hy⟩ := pairM_at Hyl.out (show j < n by omega)
                obtain ⟨p3, p4⟩ := Hoy1.out.rdAt hy
                simp only at p3 p4
                have Hy := Lib.hid hy
                have HRy := Lib.hid (HR.out j (y, cy) j1 hj1 hy)
                clear hy
                have r3 : ¬ (en : Int) ≤ (j : Int) := by omega
                have r4 : (j : Int) < (n : Int) := by omega
                by_cases hxy : y ≤ x
                · have Hxy := Lib.hid hxy
                  go_wp2
                  go_quiet (fail)
                  go_wp2_with (first | (at_builtin; go_loud (refine wpList_pushM (by rfl) (by rfl) _ _ (by rfl) (HomD.out _) (by rfl) (by rfl) (by omega) hbi ?_)))
                  intro a3 c3 w4 ho4 hg4
                  have hB4 : Below wo.heap.size wo w4 := below_grown (v := .slice a2 m c2) (hBi.trans (Drew.below (Drew.drewN _ _) _)) hg4 hbi (HomD.out 0).lo
                  have HO4 := Lib.hid ho4
                  have Hmg4 := Lib.hid (Hmg.out.goLeft Hx.out i1 hi1 HLx.out (fun k z hk hk2 hz => Int.le_trans (HRy.out k z hk hk2 hz) Hxy.out))
                  clear ho4 hg4
                  go_wp2
                  go_roundw
                  case rel => exact ⟨⟨i + 1, j, m + 1, _, _, _, by go_num, by go_num, by omega, by omega, by omega, by omega, by omega, rfl, HO4.out, Hmg4.out⟩, hB4⟩
                  case measure => simp [intOf]; omega
                · have Hxy := Lib.hid hxy
                  go_wp2
                  go_quiet (fail)
                  go_wp2_with (first | (at_builtin; go_loud (refine wpList_pushM (by rfl) (by rfl) _ _ (by rfl) (HomD.out _) (by rfl) (by rfl) (by omega) hbi ?_)))
                  intro a3 c3 w4 ho4 hg4
                  have hB4 : Below wo.heap.size wo w4 := below_grown (v := .slice a2 m c2) (hBi.trans (Drew.below (Drew.drewN _ _) _)) hg4 hbi (HomD.out 0).lo
                  have HO4 := Lib.hid ho4
                  have Hmg4 := Lib.hid (Hmg.out.goRight Hy.out j1 hj1 (fun k z hk hk2 hz => Int.le_trans (HLx.out k z hk hk2 hz) (by have := Hxy.out; simp only; omega)) HRy.out)
                  clear ho4 hg4
                  go_wp2
                  go_roundw
                  case rel => exact ⟨⟨i, j + 1, m + 1, _, _, _, by go_num, by go_num, by omega, by omega, by omega, by omega, by omega, rfl, HO4.out, Hmg4.out⟩, hB4⟩
                  case measure => simp [intOf]; omega
              · have r3 : (en : Int) ≤ (j : Int) := by omega
                go_wp2
                go_quiet (fail)
                go_wp2_with (first | (at_builtin; go_loud (refine wpList_pushM (by rfl) (by rfl) _ _ (by rfl) (HomD.out _) (by rfl) (by rfl) (by omega) hbi ?_)))
                intro a3 c3 w4 ho4 hg4
                have hB4 : Below wo.heap.size wo w4 := below_grown (v := .slice a2 m c2) (hBi.trans (Drew.below (Drew.drewN _ _) _)) hg4 hbi (HomD.out 0).lo
                have HO4 := Lib.hid ho4
                have Hmg4 := Lib.hid (Hmg.out.goLeft Hx.out i1 hi1 HLx.out (fun k z hk hk2 hz => absurd hk2 (by omega)))
                clear ho4 hg4
                go_wp2
                go_roundw
                case rel => exact ⟨⟨i + 1, j, m + 1, _, _, _, by go_num, by go_num, by omega, by omega, by omega, by omega, by omega, rfl, HO4.out, Hmg4.out⟩, hB4⟩
                case measure => simp [intOf]; omega
            · have r1 : decide ((i : Int) < (mid : Int)) = false := by simp; omega
              have r1b : ¬ (i : Int) < (mid : Int) := by omega
              by_cases hj1 : j < en
              · obtain ⟨y, cy, hy⟩ := pairM_at Hyl.out (show j < n by omega)
                obtain ⟨p3, p4⟩ := Hoy1.out.rdAt hy
                simp only at p3 p4
                have Hy := Lib.hid hy
                have HRy := Lib.hid (HR.out j (y, cy) j1 hj1 hy)
                clear hy
                have r3 : ¬ (en : Int) ≤ (j : Int) := by omega
                have r3n : decide (en ≤ j) = false := by simp; omega
                have r1n : decide (i < mid) = false := by simp; omega
                have r4 : (j : Int) < (n : Int) := by omega
                go_wp2
                go_quiet (fail)
                go_wp2_with (first | (at_builtin; go_loud (refine wpList_pushM (by rfl) (by rfl) _ _ (by rfl) (HomD.out _) (by rfl) (by rfl) (by omega) hbi ?_)))
                intro a3 c3 w4 ho4 hg4
                have hB4 : Below wo.heap.size wo w4 := below_grown (v := .slice a2 m c2) (hBi.trans (Drew.below (Drew.drewN _ _) _)) hg4 hbi (HomD.out 0).lo
                have HO4 := Lib.hid ho4
                have Hmg4 := Lib.hid (Hmg.out.goRight Hy.out j1 hj1 (fun k z hk hk2 hz => absurd hk2 (by omega)) HRy.out)
                clear ho4 hg4
                go_wp2
                go_roundw
                case rel => exact ⟨⟨i, j + 1, m + 1, _, _, _, by go_num, by go_num, by omega, by omega, by omega, by omega, by omega, rfl, HO4.out, Hmg4.out⟩, hB4⟩
                case measure => simp [intOf]; omega
              · obtain rfl : i = mid := by omega
                obtain rfl : j = en := by omega
                obtain rfl : m = j := by omega
                have hzl : zs.length = at' := by rw [Hpz.out.length_eq, List.length_take, Hyl.out, Hat.out]; omega
                have hml : ms.length ≤ 2 * s := by
                  rw [Hmg.out.perm.length_eq, List.length_append, seg_length (by rw [Hyl.out]; omega), seg_length (by rw [Hyl.out]; omega)]
                  have := Hen.out
                  omega
                have HP5 : Hid ((zs ++ ms).Perm (ys.take (2 * s * (q + 1)))) := by
                  refine ((Hpz.out.append Hmg.out.perm)).trans ?_
                  rw [seg_join ys (by omega) (by omega), Hat.out, ← seg_zero ys at', seg_join ys (by omega) (by omega), seg_zero]
                  have e1 : 2 * s * (q + 1) = at' + 2 * s := by rw [Nat.mul_add, Hat.out, Nat.mul_one]
                  rw [e1]
                  have := Hen.out
                  by_cases hc : at' + 2 * s ≤ n
                  · rw [show m = at' + 2 * s by omega]
                  · rw [show m = n by omega, List.take_of_length_le (by rw [Hyl.out]; omega), List.take_of_length_le (by rw [Hyl.out]; omega)]
                have HB5 := Lib.hid (BS_append (t := 2 * s) (q := q) (by omega) Hbz.out (by rw [hzl, Hat.out]) hml Hmg.out.desc)
                have he5 : m = min (2 * s * (q + 1)) n := by
                  have e1 : 2 * s * (q + 1) = at' + 2 * s := by rw [Nat.mul_add, Hat.out, Nat.mul_one]
                  rw [e1]
                  exact Hen.out.symm
                have He5 := Lib.hid he5
                have hnx : ((2 * s * (q + 1) : Nat) : Int) = (at' : Int) + 2 * (s : Int) := by
                  have e1 : 2 * s * (q + 1) = at' + 2 * s := by rw [Nat.mul_add, Hat.out, Nat.mul_one]
                  rw [e1]; push_cast; rfl
                have Hnx := Lib.hid hnx
                have s6 : IntKind.i64.wrap (2 * (s : Int)) = 2 * (s : Int) := IntWalk.i64_in _ (by omega)
                have s7 : IntKind.i64.wrap ((at' : Int) + 2 * (s : Int)) = (at' : Int) + 2 * (s : Int) := IntWalk.i64_in _ (by omega)
                clear hml hzl he5 hnx
                go_wp2
                go_roundw
                case rel => exact ⟨⟨q + 1, m, _, _, zs ++ ms, by rw [Hnx.out], He5.out, rfl, Hom.out, HP5.out, HB5.out⟩, hBi⟩
                case measure => clear s6 s7; simp [intOf]; omega
        · have He0 := Lib.hid (show e0 = n by omega)
          obtain rfl : e0 = n := He0.out
          have hp5 : zs.Perm xs := by
            have := Hpz.out
            rw [Hat.out, List.take_of_length_le (by rw [Hyl.out]; omega)] at this
            exact this.trans Hpy.out
          have HP5 := Lib.hid hp5
          have q2 : ¬ (at' : Int) < (e0 : Int) := by omega
          have hB5 := hB.trans (hBi.mono hbs)
          have HO5 := Lib.hid (Hoz.out.mono (B' := w.heap.size) (S' := wi.heap.size) hbs (Nat.le_refl _))
          have s6 : IntKind.i64.wrap ((s : Int) * 2) = (s : Int) * 2 := IntWalk.i64_in _ (by omega)
          clear hp5 hat he0
          go_wp2
          go_roundw
          case rel => exact ⟨⟨2 * s, _, _, zs, by omega, by go_num, by omega, rfl, HO5.out, HP5.out, Hbz.out⟩, hB5⟩
          case measure => clear s6; simp [intOf]; omega
    · have Hd := Lib.hid (BS_desc Hby.out (by rw [Hyl.out]; omega))
      have q1 : ¬ (s : Int) < (n : Int) := by omega
      have h1 : MO (wo.alloc (.cells #[] 88)) wo.heap.size (wo.alloc (.cells #[] 88)).heap.size (some ⟨wo.heap.size, 0, none⟩) 0 0 [] := MO.made wo
      have hB1 : Below wo.heap.size wo (wo.alloc (.cells #[] 88)) := (Below.refl _ _).alloc (Nat.le_refl _) _
      go_wp2
      go_loopw [11, 12] (fun sv kv wr => Hid (∃ (k m : Nat) (a' : Option Addr) (c' : Nat) (zs : Mons), kv = .int .i64 k ∧ k ≤ n ∧ m ≤ k ∧ sv = .slice a' m c' ∧ MO wr wo.heap.size wr.heap.size a' m c' zs ∧ Sm ys k zs) ∧ Below wo.heap.size wo wr) (fun _ kv _ => n - (intOf kv).toNat)
      case atStart => exact ⟨⟨0, 0, _, _, [], rfl, by omega, by omega, rfl, h1, Sm.start ys⟩, hB1⟩
      case round =>
        clear h1 hB1
        obtain ⟨HV, hBi⟩ := hrel
        obtain ⟨wi, rfl⟩ : ∃ wi : World, wi = wr := ⟨_, rfl⟩
        obtain ⟨k, m, a2, c2, zs, rfl, hk, hmk, rfl, hoz, hsm⟩ := HV.out
        clear HV
        have Hoz := Lib.hid hoz
        have Hsm := Lib.hid hsm
        have Hzl := Lib.hid hoz.len
        have hbi := hBi.size
        clear hoz hsm
        by_cases hlt2 : k < n
        · obtain ⟨g1, rfl, hBg⟩ := Hoy.out.addr (by omega)
          obtain ⟨x, cx, hx⟩ := pairM_at Hyl.out hlt2
          obtain ⟨p1, p2⟩ := (Hoy.out.below (hBi.mono (Nat.le_refl _))).rdAt hx
          simp only at p1 p2
          have Hx := Lib.hid hx
          have Hx64 := Lib.hid (h64 (x, cx) (Hpy.out.mem_iff.1 (List.mem_of_getElem? hx)))
          clear hx
          have r2 : (k : Int) < (n : Int) := by omega
          have HozD := Lib.hid (fun d : Nat => Hoz.out.below (Drew.below (Drew.drewN wi d) _))
          by_cases hm0 : m = 0
          · subst hm0
            have hz0 : zs = [] := List.length_eq_zero_iff.1 Hzl.out
            have Hpush := Lib.hid (Hsm.out.push Hx.out Hd.out (by rw [hz0]; simp) Hx64.out)
            clear hz0
            go_wp2
            go_quiet (fail)
            go_wp2_with (first | (at_builtin; go_loud (refine wpList_pushM (by rfl) (by rfl) _ _ (by rfl) (HozD.out _) (by rfl) (by rfl) (by omega) hbi ?_)))
            intro a3 c3 w4 ho4 hg4
            have hB4 : Below wo.heap.size wo w4 := below_grown (v := .slice a2 0 c2) (hBi.trans (Drew.below (Drew.drewN _ _) _)) hg4 hbi (HozD.out 0).lo
            have HO4 := Lib.hid ho4
            clear ho4 hg4
            go_wp2
            go_roundw
            case rel => exact ⟨⟨k + 1, _, _, _, _, by go_num, by omega, by omega, rfl, HO4.out, Hpush.out⟩, hB4⟩
            case measure => simp [intOf]; omega
          · obtain ⟨zs0, r0, c0, hzs⟩ := sm_last (zs := zs) (fun e => hm0 (by rw [← Hzl.out, e]; rfl))
            subst hzs
            obtain ⟨g3, rfl, hBg3⟩ := Hoz.out.addr (by omega)
            have hz0l : zs0.length = m - 1 := by have := Hzl.out; rw [List.length_append, List.length_singleton] at this; omega
            have hat0 : (zs0 ++ [(r0, c0)])[m - 1]? = some (r0, c0) := by rw [← hz0l]; simp
            obtain ⟨g3', e3, _, p3, p4, f3, f4⟩ := Hoz.out.cons hat0
            obtain rfl : g3 = g3' := by simpa using e3
            simp only at p3 p4
            have t1 : (0 : Int) < (m : Int) := by omega
            have t1n : 0 < m := by omega
            have t2 : IntKind.i64.wrap ((m : Int) - 1) = (m : Int) - 1 := IntWalk.i64_in _ (by omega)
            have t3 : ((m : Int) - 1).toNat = m - 1 := by omega
            have t4 : (0 : Int) ≤ (m : Int) - 1 := by omega
            have t5 : (m : Int) - 1 < (m : Int) := by omega
            clear e3
            by_cases hrx : r0 = x
            · subst hrx
              have t6 : (r0 == r0) = true := by simp
              have Hadd := Lib.hid (Hsm.out.add Hx.out Hd.out)
              have hset : (zs0 ++ [(r0, c0)]).set (m - 1) (r0, wrap64 (c0 + cx)) = zs0 ++ [(r0, wrap64 (c0 + cx))] := by rw [← hz0l]; simp
              have HstD := Lib.hid (fun d : Nat => by
                have hst := (HozD.out d).store hat0 (wrap64 (c0 + cx))
                simp only at hst
                rw [hset] at hst
                exact hst.2)
              clear hset hat0 hz0l
              have t7 : IntKind.i64.wrap (c0 + cx) = wrap64 (c0 + cx) := IntWalk.i64_left _
              go_wp2
              go_quiet (fail)
              go_wp2
              go_region
              obtain ⟨hO5, hg5⟩ := HstD.out (nq + 1)
              have hB5 : Below wo.heap.size wo _ := below_grown (v := .slice (some ⟨g3, 0, none⟩) m c2) (hBi.trans (Drew.below (Drew.drewN wi (nq + 1)) _)) hg5 hbi (HozD.out 0).lo
              have HO5 := Lib.hid (hO5.mono (Nat.le_refl _) (S' := ((wi.drewN (nq + 1)).setCell ⟨g3, (m - 1) * 2 + 1, none⟩ (.int .i64 (wrap64 (c0 + cx)))).heap.size) (by simp))
              clear hO5 hg5 t2 t3 t7
              go_wp2
              go_roundw
              case rel => exact ⟨⟨k + 1, _, _, _, _, by go_num, by omega, by omega, rfl, HO5.out, Hadd.out⟩, hB5⟩
              case measure => simp [intOf]; omega
            · have t6 : (r0 == x) = false := by simp [hrx]
              have Hpush := Lib.hid (Hsm.out.push Hx.out Hd.out (fun p hp e => by
                rcases List.mem_append.1 hp with hp | hp
                · have h1 := (List.pairwise_append.1 Hsm.out.desc).2.2 p hp (r0, c0) (List.mem_singleton.2 rfl)
                  have h2 := Hsm.out.rest (r0, c0) (List.mem_append_right _ (List.mem_singleton.2 rfl)) k (x, cx) (Nat.le_refl _) Hx.out
                  simp only at h1 h2 e
                  omega
                · rw [List.mem_singleton] at hp
                  subst hp
                  exact hrx e) Hx64.out)
              rw [List.append_assoc, List.singleton_append] at Hpush
              clear hat0 hz0l
              go_wp2
              go_quiet (fail)
              clear t2 t3
              go_wp2_with (first | (at_builtin; go_loud (refine wpList_pushM (by rfl) (by rfl) _ _ (by rfl) (HozD.out _) (by rfl) (by rfl) (by omega) hbi ?_)))
              intro a3 c3 w4 ho4 hg4
              have hB4 : Below wo.heap.size wo w4 := below_grown (v := .slice (some ⟨g3, 0, none⟩) m c2) (hBi.trans (Drew.below (Drew.drewN _ _) _)) hg4 hbi (HozD.out 0).lo
              have HO4 := Lib.hid ho4
              clear ho4 hg4
              go_wp2
              go_roundw
              case rel => exact ⟨⟨k + 1, _, _, _, _, by go_num, by omega, by omega, rfl, HO4.out, Hpush.out⟩, hB4⟩
              case measure => simp [intOf]; omega
        · have Hk := Lib.hid (show k = n by omega)
          obtain rfl : k = n := Hk.out
          have Hend := Lib.hid (gather_end (by rw [Hyl.out]; exact Hsm.out) Hpy.out)
          have r2 : ¬ (k : Int) < (k : Int) := by omega
          have hB2 := hB.trans (hBi.mono hbs)
          have h1 : MO (wi.alloc (.cells #[] 88)) wi.heap.size (wi.alloc (.cells #[] 88)).heap.size (some ⟨wi.heap.size, 0, none⟩) 0 0 [] := MO.made wi
          have hB1 : Below wi.heap.size wi (wi.alloc (.cells #[] 88)) := (Below.refl _ _).alloc (Nat.le_refl _) _
          go_wp2
          go_loopw [13, 14] (fun lv kv wr => Hid (∃ (i m2 : Nat) (a' : Option Addr) (c' : Nat), kv = .int .i64 i ∧ i ≤ m ∧ m2 ≤ i ∧ lv = .slice a' m2 c' ∧ MO wr wi.heap.size wr.heap.size a' m2 c' (some0 (zs.take i))) ∧ Below wi.heap.size wi wr) (fun _ kv _ => m - (intOf kv).toNat)
          case atStart => exact ⟨⟨0, 0, _, _, rfl, by omega, by omega, rfl, h1⟩, hB1⟩
          case round =>
            clear h1 hB1
            obtain ⟨HV, hBj⟩ := hrel
            obtain ⟨wj, rfl⟩ : ∃ wj : World, wj = wr := ⟨_, rfl⟩
            obtain ⟨i, m2, a3, c3, rfl, hi, hm2, rfl, hol⟩ := HV.out
            clear HV
            have Hol := Lib.hid hol
            have hbj := hBj.size
            clear hol
            by_cases hlt3 : i < m
            · obtain ⟨g3, rfl, hBg3⟩ := Hoz.out.addr (by omega)
              obtain ⟨x, cx, hx⟩ := pairM_at Hzl.out hlt3
              obtain ⟨p1, p2⟩ := (Hoz.out.below hBj).rdAt hx
              simp only at p1 p2
              have hta := take_at hx
              have Hx := Lib.hid hx
              have r4 : (i : Int) < (m : Int) := by omega
              by_cases hc0 : cx = 0
              · have Hst := Lib.hid (show some0 (zs.take (i + 1)) = some0 (zs.take i) by rw [hta]; unfold some0; rw [List.filter_append]; simp [hc0])
                have r5 : (cx != 0) = false := by simp [hc0]
                clear hx hta hc0
                go_wp2
                go_roundw
                case rel => exact ⟨⟨i + 1, _, _, _, by go_num, by omega, by omega, rfl, by rw [Hst.out]; exact Hol.out⟩, hBj⟩
                case measure => simp [intOf]; omega
              · have Hst := Lib.hid (show some0 (zs.take i) ++ [(x, cx)] = some0 (zs.take (i + 1)) by rw [hta]; unfold some0; rw [List.filter_append]; simp [hc0])
                have r5 : (cx != 0) = true := by simp [hc0]
                clear hx hta hc0
                go_wp2_with (first | (at_builtin; go_loud (refine wpList_pushM (by rfl) (by rfl) _ _ (by rfl) Hol.out (by rfl) (by rfl) (by omega) hbj ?_)))
                intro a4 c4 w4 ho4 hg4
                have hB4 : Below wi.heap.size wi w4 := below_grown (v := .slice a3 m2 c3) hBj hg4 hbj Hol.out.lo
                rw [Hst.out] at ho4
                have HO4 := Lib.hid ho4
                clear ho4 hg4
                go_wp2
                go_roundw
                case rel => exact ⟨⟨i + 1, _, _, _, by go_num, by omega, by omega, rfl, HO4.out⟩, hB4⟩
                case measure => simp [intOf]; omega
            · have Hi := Lib.hid (show i = m by omega)
              obtain rfl : i = m := Hi.out
              have hfin := Hol.out
              rw [List.take_of_length_le (by rw [Hzl.out]; exact Nat.le_refl _), Hend.out] at hfin
              have Hfin := Lib.hid (hfin.mono (B' := w.heap.size) (S' := wj.heap.size) hB2.size (Nat.le_refl _))
              have hB3 := hB2.trans (hBj.mono hB2.size)
              have r4 : ¬ (i : Int) < (i : Int) := by omega
              clear hfin
              go_wp2
              go_ret
              exact ⟨_, _, _, rfl, Hfin.out, hB3⟩
end Go.Proofs.YtcminkcoifkbgaaGreatDoor
