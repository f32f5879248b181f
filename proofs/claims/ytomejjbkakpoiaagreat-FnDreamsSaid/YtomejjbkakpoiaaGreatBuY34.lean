/-
  Contract of staircase.
  Contract of lowered.
  SchubertPoly of the program.
  The laws' schubert, within the limits.
  Contracts of DescentsOf, the program's and the reference's.
-/
import Derived.Test.YtomejjbkakpoiaaGreatBuY29
import Derived.Test.YtomejjbkakpoiaaGreatBuY25
import Derived.Test.YtomejjbkakpoiaaGreatBuY30
import Derived.Test.YtomejjbkakpoiaaGreatBuY27
import Derived.Test.YtomejjbkakpoiaaGreatBuY31
import Derived.Test.YtomejjbkakpoiaaGreatBuY18
import Derived.Test.YtomejjbkakpoiaaGreatBuY9
import Derived.Test.YtomejjbkakpoiaaGreatPerm
namespace Go.Proofs.YtomejjbkakpoiaaGreat
open Go.RowKit Go.MapKept Go.ChangeMaps

theorem partK_free : ∀ n, n < 8 → ∀ j, j < 8 → j < n → dig (partK n j) j = 0 := by decide
theorem partK_step {n j : Nat} (hn : n ≤ 7) (hj : j < n) : dset (partK n j) j ((n : Int) - 1 - j) = partK n (j + 1) := by
  unfold dset
  rw [partK_free n (by omega) j (by omega) hj, partK_succ, Int.sub_zero]
set_option maxRecDepth 100000 in
set_option maxHeartbeats 3200000 in
theorem implStair_any (n : Nat) (w : World) (hn : n ≤ 7) :
    Calls Tryz.prog 89 #[.int .i64 n] w fun e w' => ∃ r, e = .returned (.map (some r)) ∧ PF w' r [(partK n n, 1)] ∧ Below w.heap.size w w' := by
  have hmm := @run_makeMap Tryz.prog
  have g0 : Hid ((w.alloc (.cells #[.int .i64 0, .int .i64 0, .int .i64 0, .int .i64 0, .int .i64 0, .int .i64 0, .int .i64 0] 85)).heap[w.heap.size]? = some (.cells (cells7 (partK n 0)) 85)) := heap_alloc_new w _
  have hBW : Below w.heap.size w (w.alloc (.cells #[.int .i64 0, .int .i64 0, .int .i64 0, .int .i64 0, .int .i64 0, .int .i64 0, .int .i64 0] 85)) := (Below.refl _ _).alloc (Nat.le_refl _) _
  have q0 : IntKind.i64.wrap ((n : Int) - 1) = (n : Int) - 1 := IntWalk.i64_in _ (by omega)
  go_enter Tryz.func89, Tryz.ntmps89
  go_wp2
  go_loopw [7] (fun iv wr => ∃ j : Nat, j ≤ n ∧ iv = .int .i64 j ∧ wr.heap[w.heap.size]? = some (.cells (cells7 (partK n j)) 85) ∧ Below w.heap.size w wr) (fun iv _ => n - (intOf iv).toNat)
  case atStart => exact ⟨0, Nat.zero_le _, rfl, g0.out, hBW⟩
  case round =>
    clear g0 hBW
    obtain ⟨j, hj, rfl, g1, hB⟩ := hrel
    obtain ⟨wo, rfl⟩ : ∃ wo : World, wo = wr := ⟨_, rfl⟩
    obtain ⟨b1, b2, _, _⟩ := partK_in n (by omega) j (by omega) hj
    by_cases hlt : j < n
    · have g2 := cells7_set g1 ⟨b1, b2⟩ (i := j) (by omega) (x := (n : Int) - 1 - j) (by unfold isD; omega)
      rw [partK_step hn hlt] at g2
      obtain ⟨p0, f0⟩ := cells7_cell g1 (i := j) (by omega)
      have q1 : (j : Int) < (n : Int) := by omega
      have q2 : IntKind.i64.wrap ((n : Int) - 1 - j) = (n : Int) - 1 - j := IntWalk.i64_in _ (by omega)
      have q3 : (j : Int) < 7 := by omega
      have HF := Lib.hid (And.intro g2 (hB.trans (below_setCell j (.int .i64 ((n : Int) - 1 - j)) (Nat.le_refl _))))
      clear g2 hB g1
      go_wp2
      go_roundw
      case rel => exact ⟨j + 1, by omega, by go_num, HF.out.1, HF.out.2⟩
      case measure => clear q2; simp [intOf]; omega
    · obtain rfl : j = n := by omega
      obtain ⟨a0, a1, a2, a3, a4, a5, a6⟩ := cells7_at g1
      obtain ⟨U, hU⟩ : ∃ U, wo.alloc (.map #[] 0) = U := ⟨_, rfl⟩
      have hBU : Below wo.heap.size wo U := by rw [← hU]; exact (Below.refl _ _).alloc (Nat.le_refl _) _
      have hM : PF U wo.heap.size [] := by rw [← hU]; exact PF.made wo
      have g2 : U.heap[w.heap.size]? = some (.cells (cells7 (partK j j)) 85) := by rw [hBU.block _ (Array.getElem?_eq_some_iff.1 g1).1]; exact g1
      obtain ⟨d0, d1, d2, d3, d4, d5, d6⟩ := cells7_at g2
      obtain ⟨w3, hup, hM3, hg3⟩ := hM.store (k := partK j j) (c := 1) ⟨b1, b2⟩ (by unfold in64; omega) (by decide) (coef_miss (by simp))
      have hB3 := Lib.hid (below_of_grown (hB.trans (hBU.mono hB.size)) hg3 (Nat.le_trans hB.size hBU.size) hB.size)
      have HM3 := Lib.hid hM3
      unfold kV at hup
      clear hM3 hM hg3 hB g1 g2 hBU a0 a1 a2 a3 a4 a5 a6
      go_wp2
      go_ret
      exact ⟨_, rfl, HM3.out, hB3.out⟩
end Go.Proofs.YtomejjbkakpoiaaGreat

namespace Go.Proofs.YtomejjbkakpoiaaGreat
open Go.RowKit Go.MapKept

set_option maxRecDepth 100000 in
set_option maxHeartbeats 6400000 in
theorem lowered_any (f : Nat) (ef : ∀ args w, (callFunc f args).run Tryz.prog w = .ok (.enter f args) w) (op : Nat → Mons → Mons) (P : Mons → Prop) (M : Nat) (hM : M ≤ 7) (hP : ∀ i F, i + 1 < M → P F → P (op i F))
    (hop : ∀ (b i : Nat) (I : Int) (F : Mons) (w : World), PF w b F → I = (i : Int) → i + 1 < M → P F → Calls Tryz.prog f #[.map (some b), .int .i64 I] w fun e w' => ∃ r, e = .returned (.map (some r)) ∧ w.heap.size ≤ r ∧ PF w' r (op i F) ∧ Below w.heap.size w w') :
    ∀ (N : Nat) (a : Option Addr) (n c : Nat) (xs : List Int) (w : World) (b : Nat) (F : Mons), nin xs < N → RI w a xs → xs.length = n → n ≤ M → PF w b F → P F →
    Calls Tryz.prog 88 #[.slice a n c, .map (some b), .func (.func f) #[] #[]] w fun e w' => ∃ r, e = .returned (.map (some r)) ∧ PF w' r ((ups xs).foldr op F) ∧ P ((ups xs).foldr op F) ∧ Below w.heap.size w w' := by
  intro N
  induction N with
  | zero =>
    intro a n c xs w b F hN
    omega
  | succ N ih =>
    intro a n c xs w b F hN hr hn hb hF hPF
    have Hn := Lib.hid hn; clear hn
    have HF := Lib.hid (fun d : Nat => hF.below (Drew.below (Drew.drewN w d) _))
    have q0 : IntKind.i64.wrap ((n : Int) - 1) = (n : Int) - 1 := IntWalk.i64_in _ (by omega)
    have IH := Lib.hid ih
    have HPF := Lib.hid hPF
    clear hF ih hPF
    go_enter Tryz.func88, Tryz.ntmps88
    go_wp2
    go_loopw [11] (fun kv wr => ∃ k : Nat, kv = .int .i64 k ∧ k ≤ n ∧ Hid (flat xs k) ∧ Drew w wr) (fun kv _ => n - (intOf kv).toNat)
    case atStart => exact ⟨0, rfl, Nat.zero_le _, fun j _ _ hj => by omega, Drew.refl _⟩
    case round =>
      obtain ⟨k, rfl, hk, Hfl, hd⟩ := hrel
      obtain ⟨wo, rfl⟩ : ∃ wo : World, wo = wr := ⟨_, rfl⟩
      have hB := hd.below w.heap.size
      by_cases hlt : k + 1 < n
      · obtain ⟨x, hx⟩ := some_at Hn.out (show k < n by omega)
        obtain ⟨y, hy⟩ := some_at Hn.out hlt
        obtain ⟨b1, off, rfl, hcell⟩ := (hr.below hB).at (k := k) (by rw [Hn.out]; omega)
        have p1 := hcell k x hx
        have p2 := hcell (k + 1) y hy
        have q1 : (k : Int) < (n : Int) - 1 := by omega
        have q2 : (k : Int) < (n : Int) := by omega
        have q3 : IntKind.i64.wrap ((k : Int) + 1) = ((k + 1 : Nat) : Int) := by rw [IntWalk.i64_in _ (by omega)]; omega
        have q4 : ((k + 1 : Nat) : Int) < (n : Int) := by omega
        have Hx := Lib.hid hx
        have Hy := Lib.hid hy
        clear hcell hx hy
        by_cases hxy : x < y
        · have Hasc := Lib.hid (asc_at Hx.out Hy.out hxy Hfl.out)
          have Hnin := Lib.hid (nin_sw Hasc.out)
          have Hus := Lib.hid (ups_some Hasc.out).1
          have Hsw := Lib.hid (sw_swp (w := xs) (k := k) (by rw [Hn.out]; exact hlt))
          have HD := Lib.hid (fun d : Nat => hd.trans (Drew.drewN wo d))
          have Hr := Lib.hid hr
          have hg : decide (x < y) = true := by simp [hxy]
          have hN2 := Lib.hid hN
          clear hd hB hr hN
          go_wp2
          go_quiet (fail)
          go_wp2_with fail
          refine (exchanged_any _ _ _ xs k (k + 1) _ _ _ (Hr.out.below ((HD.out _).below _)) Hn.out (by omega) rfl rfl (by omega) hlt (by omega)).mono ?_
          rintro e w2 ⟨a3, c3, rfl, ho3, hb3⟩
          rw [Hsw.out] at ho3
          have hB2 := ((HD.out _).below w.heap.size).trans (hb3.mono ((HD.out _).below w.heap.size).size)
          have Ho3 := Lib.hid ho3
          have HF2 := Lib.hid ((HF.out 0).below hB2)
          have Hl3 := Lib.hid (show (sw xs k).length = n by rw [sw_length, Hn.out])
          have Hn3 := Lib.hid (show nin (sw xs k) < N by have := Hnin.out; have := hN2.out; omega)
          clear ho3 hb3
          go_wp2_with fail
          refine (IH.out _ _ _ (sw xs k) _ b F Hn3.out Ho3.out.rd Hl3.out hb HF2.out HPF.out).mono ?_
          rintro e w3 ⟨r3, rfl, hF3, hP3, hb3⟩
          have hB3 := hB2.trans (hb3.mono hB2.size)
          have HF3 := Lib.hid hF3
          have HP3 := Lib.hid hP3
          clear hF3 hP3 hb3
          go_wp2_with fail
          refine (hop r3 k _ _ _ HF3.out rfl (by omega) HP3.out).mono ?_
          rintro e w4 ⟨r4, rfl, _, hF4, hb4⟩
          have hB4 := hB3.trans (hb4.mono hB3.size)
          have HF4 := Lib.hid hF4
          have HP4 := Lib.hid (hP k _ (by omega) HP3.out)
          clear hF4 hb4
          go_wp2
          go_ret
          exact ⟨_, rfl, by rw [Hus.out]; exact HF4.out, by rw [Hus.out]; exact HP4.out, hB4⟩
        · have Hfl2 := Lib.hid (show flat xs (k + 1) from fun j p q hj hp hq => by
            rcases Nat.lt_or_ge j k with h | h
            · exact Hfl.out j p q h hp hq
            · obtain rfl : j = k := by omega
              rw [Hx.out] at hp
              rw [Hy.out] at hq
              obtain rfl := Option.some.inj hp
              obtain rfl := Option.some.inj hq
              exact hxy)
          have HD := Lib.hid (fun d : Nat => hd.trans (Drew.drewN wo d))
          have hg : decide (x < y) = false := by simp [hxy]
          clear hd hB
          go_wp2
          go_quiet (fail)
          go_wp2
          go_roundw
          case rel => exact ⟨k + 1, by go_num, by omega, Hfl2.out, HD.out _⟩
          case measure => simp [intOf]; omega
      · have Hnone := Lib.hid (ups_none (asc_all (w := xs) (fun j p q hp hq => by
          have := (List.getElem?_eq_some_iff.1 hq).1
          rw [Hn.out] at this
          exact Hfl.out j p q (by omega) hp hq))).1
        have q1 : ¬ (k : Int) < (n : Int) - 1 := by omega
        have HF2 := Lib.hid ((HF.out 0).below hB)
        clear hr
        go_wp2
        go_ret
        exact ⟨_, rfl, by rw [Hnone.out]; exact HF2.out, by rw [Hnone.out]; exact HPF.out, hB⟩
end Go.Proofs.YtomejjbkakpoiaaGreat

namespace Go.Proofs.YtomejjbkakpoiaaGreat
open Go.RowKit

def schT (xs : List Int) : List (List Int × Int) := if isPerm xs = true then closedT (schM (trim xs) (trimLen xs xs.length)) else []
def schOk (xs : List Int) : Bool := isPerm xs && polyOk (termsM (schM (trim xs) (trimLen xs xs.length)))
theorem sch_no {xs : List Int} (h : isPerm xs = false) : schT xs = [] ∧ schOk xs = false := by
  unfold schT schOk
  rw [h]
  exact ⟨rfl, rfl⟩
theorem sch_yes {xs : List Int} (h : isPerm xs = true) : schT xs = closedT (schM (trim xs) (trimLen xs xs.length)) ∧ schOk xs = polyOk (termsM (schM (trim xs) (trimLen xs xs.length))) := by
  unfold schT schOk
  rw [h]
  exact ⟨if_pos rfl, rfl⟩
theorem sch_b7 (v : List Int) {m : Nat} (hm : m ≤ 7) (hv : v.length = m) : B7 (schM v m) :=
  (B7.stair hm).low _ fun k hk => by have := ups_lt v k hk; omega

set_option maxRecDepth 100000 in
set_option maxHeartbeats 1600000 in
theorem implSchub_any (a : Option Addr) (n c : Nat) (xs : List Int) (w : World) (hr : RI w a xs) (hn : xs.length = n) (hb : n ≤ 7) (hc : n ≤ c) (hp : isPerm xs = true) :
    Calls Tryz.prog 48 #[.slice a n c] w fun e w' => ∃ r, e = .returned (.map (some r)) ∧ PF w' r (schM (xs.take (trimLen xs n)) (trimLen xs n)) ∧ Below w.heap.size w w' := by
  have Hn := Lib.hid hn; clear hn
  have HT := Lib.hid (fun w (hr : RI w a xs) => implTrim_any a n c xs w hr Hn.out (by omega) hc hp)
  have hmn := trimLen_le xs n
  obtain ⟨m, hm⟩ : ∃ m, trimLen xs n = m := ⟨_, rfl⟩
  rw [hm] at HT hmn ⊢
  obtain ⟨v, hv⟩ : ∃ v, xs.take m = v := ⟨_, rfl⟩
  have Hvl := Lib.hid (show v.length = m by rw [← hv, List.length_take, Hn.out]; omega)
  rw [hv] at HT ⊢
  clear hm hv hp
  have HB7 := Lib.hid (B7.stair (n := m) (by omega))
  go_enter Tryz.func48, Tryz.ntmps48
  go_wp2_with fail
  refine (HT.out _ hr).mono ?_
  rintro e w1 ⟨a1, c1, rfl, ho1, hb1⟩
  have Ho1 := Lib.hid ho1
  clear ho1
  go_wp2_with fail
  refine (implStair_any m _ (by omega)).mono ?_
  rintro e w2 ⟨r2, rfl, hF2, hb2⟩
  have hB2 := hb1.trans (hb2.mono hb1.size)
  have HF2 := Lib.hid hF2
  have Ho12 := Lib.hid (Ho1.out.below hb2)
  clear hF2
  go_wp2_with fail
  refine (lowered_any 90 (fun args w => by kernel_rfl) dividedM B7 7 (Nat.le_refl _) (fun i F hi h => h.divided (by omega)) (fun b i I F w hF hI hi _ => divided_any b i I F w hF hI (by omega)) (nin v + 1) _ _ _ v _ r2 _ (Nat.lt_succ_self _) Ho12.out.rd Hvl.out (by omega) HF2.out HB7.out).mono ?_
  rintro e w3 ⟨r3, rfl, hF3, _, hb3⟩
  have hB3 := hB2.trans (hb3.mono hB2.size)
  have HF3 := Lib.hid hF3
  clear hF3
  go_wp2
  go_ret
  exact ⟨_, rfl, HF3.out, hB3⟩

set_option maxRecDepth 100000 in
set_option maxHeartbeats 1600000 in
theorem implSch_any (a : Option Addr) (n c : Nat) (xs : List Int) (w : World) (hr : RI w a xs) (hn : xs.length = n) (hb : n ≤ 1048576) (hc : n ≤ c) :
    Calls Tryz.prog 44 #[.slice a n c] w fun e w' => ∃ a' n' c' r, e = .returned (.tuple #[.slice a' n' c', .bool r]) ∧ TO w' w.heap.size w'.heap.size a' n' c' (schT xs) ∧ Hid (r = schOk xs) ∧ Below w.heap.size w w' := by
  have Hn := Lib.hid hn
  cases hp : isPerm xs
  · have H0 := Lib.hid (sch_no hp)
    have Hp := Lib.hid hp
    clear hp hn
    go_enter Tryz.func44, Tryz.ntmps44
    go_wp2_with fail
    refine (is (implIsPerm_any _ _ _ xs _ hr Hn.out (by omega)) Hp.out).mono ?_
    rintro e w1 ⟨rfl, hB1⟩
    go_wp2
    go_ret2
    exact ⟨_, _, _, _, rfl, by rw [H0.out.1]; exact TO.nil, H0.out.2.symm, hB1⟩
  have h7 : n ≤ 7 := by rw [← hn]; exact ((isPerm_iff xs).1 hp).2.1
  have H0 := Lib.hid (sch_yes hp)
  have Hp := Lib.hid hp
  unfold trim at H0
  rw [hn] at H0
  clear hp hn
  go_enter Tryz.func44, Tryz.ntmps44
  go_wp2_with fail
  refine (is (implIsPerm_any _ _ _ xs _ hr Hn.out (by omega)) Hp.out).mono ?_
  rintro e w1 ⟨rfl, hB1⟩
  have hr1 := hr.below hB1
  go_wp2_with fail
  refine (implSchub_any _ _ _ xs _ hr1 Hn.out h7 hc Hp.out).mono ?_
  rintro e w4 ⟨r4, rfl, hF4, hb4⟩
  have hB4 := hB1.trans (hb4.mono hB1.size)
  have HF4 := Lib.hid hF4
  clear hF4
  go_wp2_with fail
  refine (closed_any r4 _ _ HF4.out).mono ?_
  rintro e w9 ⟨a9, n9, c9, r9, rfl, ho9, hh9, hb9⟩
  have hB9 := hB4.trans (hb9.mono hB4.size)
  have Ho9 := Lib.hid (ho9.mono (B' := w.heap.size) (S' := w9.heap.size) hB4.size (Nat.le_refl _))
  clear ho9
  go_wp2
  go_ret2
  exact ⟨_, _, _, _, rfl, by rw [H0.out.1]; exact Ho9.out, by rw [H0.out.2]; exact hh9, hB9⟩
end Go.Proofs.YtomejjbkakpoiaaGreat

namespace Go.Proofs.YtomejjbkakpoiaaGreat
open Go.RowKit

theorem implSch_ok (a : Option Addr) (n c : Nat) (u : List Int) (w : World) (hr : RI w a u) (hn : u.length = n) (hc : n ≤ c) (hp : isPerm u = true) (hF : OKp (SM u)) :
    Calls Tryz.prog 44 #[.slice a n c] w fun e w' => ∃ a' n' c', e = .returned (.tuple #[.slice a' n' c', .bool true]) ∧ PT w' a' n' (SM u) ∧ Below w.heap.size w w' := by
  obtain ⟨h1, h2⟩ := sch_yes hp
  have h7 : n ≤ 7 := by rw [← hn]; exact ((isPerm_iff u).1 hp).2.1
  refine (implSch_any a n c u w hr hn (by omega) hc).mono ?_
  rintro e w1 ⟨a1, n1, c1, r1, rfl, ho, hr1, hb⟩
  obtain rfl : r1 = true := by rw [hr1.out, h2]; exact hF.ok
  have e1 : closedT (schM (trim u) (trimLen u u.length)) = termsM (SM u) := closedT_ok hF.ok
  rw [h1, e1] at ho
  exact ⟨_, _, _, rfl, PT.of ho hF, hb⟩
set_option maxRecDepth 100000 in
set_option maxHeartbeats 1600000 in
theorem schubert_law (a : Option Addr) (n c : Nat) (u : List Int) (w : World) (hr : RI w a u) (hn : u.length = n) (hc : n ≤ c) (hp : isPerm u = true) (hF : OKp (SM u)) :
    Calls Tryz.prog 13 #[.slice a n c] w fun e w' => ∃ a' n' c', e = .returned (.slice a' n' c') ∧ PT w' a' n' (SM u) ∧ Below w.heap.size w w' := by
  have Hn := Lib.hid hn
  have Hp := Lib.hid hp
  have HF := Lib.hid hF
  clear hn hp hF
  go_enter Tryz.func13, Tryz.ntmps13
  go_wp2_with fail
  refine (implSch_ok _ _ _ u _ hr Hn.out hc Hp.out HF.out).mono ?_
  rintro e w1 ⟨a1, n1, c1, rfl, ho, hb⟩
  have Ho := Lib.hid ho
  clear ho
  go_wp2
  go_ret
  exact ⟨_, _, _, rfl, Ho.out, hb⟩
end Go.Proofs.YtomejjbkakpoiaaGreat

namespace Go.Proofs.YtomejjbkakpoiaaGreat
open Go.RowKit


/-- the places below k at which the next number is smaller -/
def desc (xs : List Int) (k : Nat) : List Int := ((List.range k).filter fun i => decide (xs.getD (i + 1) 0 < xs.getD i 0)).map fun (i : Nat) => (i : Int)
def descents (xs : List Int) : List Int := if isPerm xs then desc xs (xs.length - 1) else []
theorem desc_succ (xs : List Int) {k : Nat} {x y : Int} (hx : xs[k]? = some x) (hy : xs[k + 1]? = some y) : desc xs (k + 1) = if y < x then desc xs k ++ [(k : Int)] else desc xs k := by
  unfold desc
  rw [List.range_succ, List.filter_append, List.map_append, List.filter_cons, List.filter_nil, getD_of hx, getD_of hy]
  by_cases h : y < x <;> simp only [h, decide_true, decide_false, if_true, if_false, List.map_cons, List.map_nil] <;> simp
theorem desc_len (xs : List Int) (k : Nat) : (desc xs k).length ≤ k := by
  unfold desc
  rw [List.length_map]
  exact Nat.le_trans (List.length_filter_le _ _) (by simp)
theorem descents_len (xs : List Int) : (descents xs).length ≤ 6 := by
  unfold descents
  split
  · have := desc_len xs (xs.length - 1)
    have := perm_len ‹_›
    omega
  · simp
theorem descents_at {xs : List Int} {d : Int} (h : d ∈ descents xs) : 0 ≤ d ∧ d + 1 < xs.length := by
  unfold descents at h
  split at h
  · unfold desc at h
    simp only [List.mem_map, List.mem_filter, List.mem_range] at h
    obtain ⟨i, ⟨h1, _⟩, rfl⟩ := h
    omega
  · simp at h

set_option maxRecDepth 100000 in
set_option maxHeartbeats 1600000 in
theorem specDescents_any (a : Option Addr) (n c : Nat) (xs : List Int) (w : World) (hr : RI w a xs) (hn : xs.length = n) (hb : n ≤ 17592186044416) (hcap : n ≤ c) :
    Calls Tryz.prog 68 #[.slice a n c] w fun e w' => ∃ a' n' c', e = .returned (.slice a' n' c') ∧ OwI w' w.heap.size w'.heap.size a' n' c' (descents xs) ∧ Below w.heap.size w w' := by
  have Hn := Lib.hid hn; clear hn
  cases hp : isPerm xs
  · have Hp := Lib.hid hp; clear hp
    go_enter Tryz.func68, Tryz.ntmps68
    go_wp2_with fail
    refine (is (specIsPerm_any _ _ _ xs _ hr Hn.out (by omega) hcap) Hp.out).mono ?_
    rintro e w1 ⟨rfl, hd⟩
    go_wp2
    go_ret
    exact ⟨_, _, _, rfl, by rw [descents, Hp.out]; exact OwI.nil, hd.below _⟩
  · have hl := perm_len hp
    rw [Hn.out] at hl
    have Hp := Lib.hid hp; clear hp
    go_enter Tryz.func68, Tryz.ntmps68
    go_wp2_with fail
    refine (is (specIsPerm_any _ _ _ xs _ hr Hn.out (by omega) hcap) Hp.out).mono ?_
    rintro e w1 ⟨rfl, hd⟩
    have hb1 := hd.below w.heap.size
    have hsz1 := hb1.size
    have h1 : OwI (w1.alloc (.cells #[] 3)) w1.heap.size (w1.alloc (.cells #[] 3)).heap.size (some ⟨w1.heap.size, 0, none⟩) 0 0 [] := OwI.mk (World.ownsRow_made _ #[] 0 (Nat.le_refl _) (Nat.zero_le _) rfl)
    have hB0 : Below w.heap.size w (w1.alloc (.cells #[] 3)) := hb1.alloc (by omega) _
    go_wp2
    go_loopw [3, 4] (fun v i wr => ∃ k : Nat, k + 1 ≤ n ∧ i = .int .i64 k ∧ Hid (∃ a' n' c', v = .slice a' n' c' ∧ OwI wr w.heap.size wr.heap.size a' n' c' (desc xs k)) ∧ Below w.heap.size w wr) (fun _ i _ => n - (intOf i).toNat)
    case atStart => exact ⟨0, by omega, rfl, ⟨_, _, _, rfl, h1.mono hsz1 (Nat.le_refl _)⟩, hB0⟩
    case round =>
      clear h1 hB0 hb1
      obtain ⟨k, hk, rfl, HV, hB⟩ := hrel
      obtain ⟨wo, rfl⟩ : ∃ wo : World, wo = wr := ⟨_, rfl⟩
      obtain ⟨a', n', c', rfl, ho⟩ := HV.out
      clear HV
      by_cases hlt : k + 1 < n
      · have hrw := hr.below hB
        obtain ⟨b, off, rfl, hcell⟩ := hrw.at (k := k) (by rw [Hn.out]; omega)
        obtain ⟨x, hx⟩ := some_at (k := k) Hn.out (by omega)
        obtain ⟨y, hy⟩ := some_at (k := k + 1) Hn.out (by omega)
        have hc := hcell k x hx
        have hc2 := hcell (k + 1) y hy
        have hlen := desc_len xs k
        rw [ho.len] at hlen
        have hst := desc_succ xs hx hy
        clear hcell hrw hx hy
        have q0 : (k : Int) < (n : Int) := by omega
        have q1 : IntKind.i64.wrap ((k : Int) + 1) = (k : Int) + 1 := IntWalk.i64_in _ (by omega)
        have q2 : (0 : Int) ≤ (k : Int) + 1 := by omega
        have q3 : (k : Int) + 1 < (n : Int) := by omega
        have q4 : ((k : Int) + 1).toNat = k + 1 := by omega
        have hbs := hB.size
        by_cases h1 : y < x
        · rw [if_pos h1] at hst
          have Hst := Lib.hid hst; clear hst
          have HO := Lib.hid ho; clear ho
          go_wp2
          go_quiet (fail)
          clear q1 q2 q3 q4
          have hod := HO.out.below (Drew.below ⟨nq, rfl⟩ wo.heap.size)
          have hBd := hB.trans (Drew.below ⟨nq, rfl⟩ w.heap.size)
          go_wp2_with (first | (at_builtin; go_loud (refine wpList_pushI (by rfl) (by rfl) _ _ (by rfl) hod (by rfl) (by rfl) (by omega) (by simp; omega) ?_)))
          intro a2 c2 w2 ho2 hg2
          have hB2 := hg2.below hBd (by simp; omega) (fun k hk => hod.1.lo k hk)
          go_wp2
          go_roundw
          case rel => exact ⟨k + 1, by omega, by go_num, ⟨_, _, _, rfl, by rw [Hst.out]; exact ho2⟩, hB2⟩
          case measure => simp [intOf]; omega
        · rw [if_neg h1] at hst
          have Hst := Lib.hid hst; clear hst
          have HO := Lib.hid ho; clear ho
          go_wp2
          go_quiet (fail)
          clear q1 q2 q3 q4
          go_wp2
          go_roundw
          case rel => exact ⟨k + 1, by omega, by go_num, ⟨_, _, _, rfl, by rw [Hst.out]; exact HO.out.below (Drew.below ⟨nq, rfl⟩ _)⟩, hB.trans (Drew.below ⟨nq, rfl⟩ _)⟩
          case measure => simp [intOf]; omega
      · obtain rfl : n = k + 1 := by omega
        go_wp2
        go_ret
        exact ⟨_, _, _, rfl, by rw [descents, Hp.out, Hn.out]; exact ho, hB⟩

end Go.Proofs.YtomejjbkakpoiaaGreat
