/-
  Contracts of l1Code and CodeOf: how many smaller numbers stand behind each.
  Sums; contract of l1Sum.
  Permutations stay permutations; contracts of l1Length, LengthOf.
-/
import Derived.Test.YtomejjbkakpoiaaGreatBuE3
import Derived.Test.YtomejjbkakpoiaaGreatBuE12
import Derived.Test.YtomejjbkakpoiaaGreatBuE1
import Derived.Test.YtomejjbkakpoiaaGreatBuE10
namespace Go.Proofs.YtomejjbkakpoiaaGreat
open Go.RowKit

theorem OwI.nil0 {w : World} {B S : Nat} : OwI w B S none 0 0 [] := ⟨OS.of ⟨rfl, .inl ⟨rfl, rfl⟩⟩, fun k hk => by simp [Value.ownBlock] at hk⟩
/-- how many of the m numbers behind place i are smaller -/
def cnt (xs : List Int) (i m : Nat) : Nat := ((List.range m).filter fun t => decide (xs.getD (i + 1 + t) 0 < xs.getD i 0)).length
def code (xs : List Int) : List Int := (List.range xs.length).map fun i => (cnt xs i (xs.length - 1 - i) : Int)
theorem cnt_le (xs : List Int) (i m : Nat) : cnt xs i m ≤ m := by
  unfold cnt
  exact Nat.le_trans (List.length_filter_le _ _) (by simp)
theorem cnt_succ {xs : List Int} {i m : Nat} {x y : Int} (hx : xs[i]? = some x) (hy : xs[i + 1 + m]? = some y) : cnt xs i (m + 1) = if y < x then cnt xs i m + 1 else cnt xs i m := by
  unfold cnt
  rw [List.range_succ, List.filter_append, List.length_append, List.filter_cons, List.filter_nil, getD_of hx, getD_of hy]
  by_cases h : y < x <;> simp [h]
theorem code_length (xs : List Int) : (code xs).length = xs.length := by simp [code]
theorem code_at {xs : List Int} {n i : Nat} (hn : xs.length = n) (hi : i < n) : (code xs)[i]? = some (cnt xs i (n - 1 - i) : Int) := by
  subst hn
  simp [code, hi]
theorem fill_zero {C : List Int} {n i : Nat} (hC : C.length = n) (hi : i < n) : (fillTo C n i).set i 0 = fillTo C n i := by
  unfold fillTo
  obtain ⟨d, hd⟩ : ∃ d, n - i = d + 1 := ⟨n - i - 1, by omega⟩
  rw [hd, List.replicate_succ, List.set_append_right _ _ (by simp; omega)]
  have : i - (C.take i).length = 0 := by simp; omega
  rw [this, List.set_cons_zero]
/-- the code as far as place i, of which m are counted -/
def codeAt (xs : List Int) (n i m : Nat) : List Int := (fillTo (code xs) n i).set i (cnt xs i m : Int)
theorem codeAt_start {xs : List Int} {n i : Nat} (hn : xs.length = n) (hi : i < n) : codeAt xs n i 0 = fillTo (code xs) n i := by
  unfold codeAt
  exact fill_zero (by rw [code_length]; exact hn) hi
theorem codeAt_set (xs : List Int) (n i m : Nat) : (codeAt xs n i m).set i (cnt xs i m + 1 : Int) = (fillTo (code xs) n i).set i ((cnt xs i m + 1 : Nat) : Int) := by
  unfold codeAt
  rw [List.set_set]; rfl
theorem codeAt_less {xs : List Int} {n i m : Nat} {x y : Int} (hx : xs[i]? = some x) (hy : xs[i + 1 + m]? = some y) (h : y < x) : (codeAt xs n i m).set i ((cnt xs i m : Int) + 1) = codeAt xs n i (m + 1) := by
  unfold codeAt
  rw [List.set_set, cnt_succ hx hy, if_pos h]; rfl
theorem codeAt_same {xs : List Int} {n i m : Nat} {x y : Int} (hx : xs[i]? = some x) (hy : xs[i + 1 + m]? = some y) (h : ¬ y < x) : codeAt xs n i m = codeAt xs n i (m + 1) := by
  unfold codeAt
  rw [cnt_succ hx hy, if_neg h]
theorem codeAt_end {xs : List Int} {n i : Nat} (hn : xs.length = n) (hi : i < n) : codeAt xs n i (n - 1 - i) = fillTo (code xs) n (i + 1) := by
  unfold codeAt
  exact fillTo_succ (by rw [code_length]; exact hn) hi (code_at hn hi)
theorem codeAt_at {xs : List Int} {n i m : Nat} (hn : xs.length = n) (hi : i < n) : (codeAt xs n i m)[i]? = some (cnt xs i m : Int) := by
  unfold codeAt
  rw [List.getElem?_set, if_pos rfl, if_pos]
  rw [fillTo_length (by rw [code_length]; exact hn) (by omega)]; exact hi

set_option maxRecDepth 100000 in
set_option maxHeartbeats 1600000 in
theorem l1Code_any (a : Option Addr) (n c : Nat) (xs : List Int) (w : World) (hr : RI w a xs) (hn : xs.length = n) (hb : n ≤ 17592186044416) :
    Calls Tryz.prog 107 #[.slice a n c] w fun e w' => ∃ a' c', e = .returned (.slice a' n c') ∧ OwI w' w.heap.size w'.heap.size a' n c' (code xs) ∧ Below w.heap.size w w' := by
  have Hn := Lib.hid hn; clear hn
  obtain ⟨i0, hi, hz0, hz1, hz2⟩ := info_parts Tryz.info3
  go_enter Tryz.func107, Tryz.ntmps107
  go_wp2_with (first | (at_make; refine wpList_make_full _ rfl _ _ 24 rfl w.heap.size 3 i0 (.int .i64 0) 1 Tryz.underlying24 hi hz0 hz1 .i64 .i64 _ _ n rfl rfl ?m1 ?m2 ?m3 ?m4 ?m5 ?_))
  case m1 => rfl
  case m2 => rfl
  case m3 => rw [hz2]; omega
  case m4 => unfold maxLen; omega
  case m5 => exact Nat.le_refl _
  intro w1 hown hg
  have hB : Below w.heap.size w w1 := (Below.refl _ _).grown hg (Nat.le_refl _) (by simp)
  have hrow : OS w1 w.heap.size (some ⟨w.heap.size, 0, none⟩) n n (fillTo (code xs) n 0) := by
    refine OS.of ?_
    rw [fillTo_zero]
    have e := toList_madeCells_one (.int .i64 0) n
    simpa [ints, Value.cells, e] using hown
  have Hrow := Lib.hid hrow; clear hown hg hrow
  go_wp2
  go_loopw [4] (fun iv wr => Hid (∃ i : Nat, i ≤ n ∧ iv = .int .i64 i ∧ OS wr w.heap.size (some ⟨w.heap.size, 0, none⟩) n n (fillTo (code xs) n i)) ∧ Below w.heap.size w wr) (fun i _ => n - (intOf i).toNat)
  case atStart => exact ⟨⟨0, Nat.zero_le _, rfl, Hrow.out⟩, hB⟩
  case round =>
    clear Hrow hB
    obtain ⟨HV, hB⟩ := hrel
    obtain ⟨wo, rfl⟩ : ∃ wo : World, wo = wr := ⟨_, rfl⟩
    obtain ⟨i, hi', rfl, ho⟩ := HV.out
    clear HV
    by_cases hlt : i < n
    · rw [← codeAt_start Hn.out hlt] at ho
      have HO := Lib.hid ho; clear ho
      obtain ⟨x, hx⟩ := some_at Hn.out hlt
      have Hx := Lib.hid hx; clear hx
      go_wp2
      go_loopw [5] (fun jv wr => Hid (∃ m : Nat, i + 1 + m ≤ n ∧ jv = .int .i64 (i + 1 + m : Nat) ∧ OS wr w.heap.size (some ⟨w.heap.size, 0, none⟩) n n (codeAt xs n i m)) ∧ Below w.heap.size w wr) (fun j _ => n - (intOf j).toNat)
      case atStart => exact ⟨⟨0, by omega, by go_num, HO.out⟩, hB⟩
      case round =>
        clear HO hB
        obtain ⟨HV, hB⟩ := hrel
        obtain ⟨wq, rfl⟩ : ∃ wq : World, wq = wr := ⟨_, rfl⟩
        obtain ⟨m, hm, rfl, ho⟩ := HV.out
        clear HV
        by_cases hj : i + 1 + m < n
        · obtain ⟨b, off, rfl, hcell⟩ := (hr.below hB).at (k := i) (by rw [Hn.out]; exact hlt)
          obtain ⟨y, hy⟩ := some_at Hn.out hj
          have hcx := hcell i x Hx.out
          have hcy := hcell (i + 1 + m) y hy
          have Hy := Lib.hid hy; clear hy
          clear hcell
          obtain ⟨g, hg0, hBg, ⟨v, hv, hcv⟩, hfv⟩ := OI.cons ho hlt
          obtain rfl : w.heap.size = g := by simpa using hg0
          rw [codeAt_at Hn.out hlt] at hv
          obtain rfl := Option.some.inj hv
          have hle := cnt_le xs i m
          have HO := Lib.hid ho; clear ho hv hg0
          have q0 : (i : Int) < (n : Int) := by omega
          have q1 : ((i + 1 + m : Nat) : Int) < (n : Int) := by omega
          have q2 : (0 : Int) ≤ ((i + 1 + m : Nat) : Int) := by omega
          by_cases hyx : y < x
          · have Hst := Lib.hid (codeAt_less (n := n) Hx.out Hy.out hyx)
            obtain ⟨u, hu⟩ : ∃ u, cnt xs i m = u := ⟨_, rfl⟩
            rw [hu] at hcv hle
            have Hu := Lib.hid hu; clear hu
            go_wp2
            go_quiet (fail)
            have hod := HO.out.below (Drew.below ⟨nq, rfl⟩ wq.heap.size)
            have hBd := hB.trans (Drew.below ⟨nq, rfl⟩ w.heap.size)
            have hcv' : (wq.drewN nq).cell? ⟨w.heap.size, i, none⟩ = some (.int .i64 u) := by simpa using hcv
            have hfv' : (wq.drewN nq).frozen? ⟨w.heap.size, i, none⟩ = false := by simpa using hfv
            obtain ⟨wd, hwd⟩ : ∃ wd, wq.drewN nq = wd := ⟨_, rfl⟩
            rw [hwd] at hod hBd hcv' hfv' ⊢
            have hs := hod.store i ((u : Int) + 1)
            have hs1 : OS (wd.setCell ⟨w.heap.size, i, none⟩ (.int .i64 ((u : Int) + 1))) w.heap.size (some ⟨w.heap.size, 0, none⟩) n n (codeAt xs n i (m + 1)) := by
              rw [← Hst.out, Hu.out]; exact hs.1
            have hB2 := hBd.grown hs.2 hBd.size (by intro q hq; obtain rfl := Option.some.inj hq; exact Nat.le_refl _)
            have HS := Lib.hid hs1; clear hs hs1 hod
            go_wp2
            go_roundw
            case rel => exact ⟨⟨m + 1, by omega, by go_num, HS.out⟩, hB2⟩
            case measure => simp [intOf]; omega
          · have Hst := Lib.hid (codeAt_same (n := n) Hx.out Hy.out hyx)
            go_wp2
            go_quiet (fail)
            go_wp2
            go_roundw
            case rel => exact ⟨⟨m + 1, by omega, by go_num, by rw [← Hst.out]; exact HO.out.below (Drew.below ⟨nq, rfl⟩ _)⟩, hB.trans (Drew.below ⟨nq, rfl⟩ _)⟩
            case measure => simp [intOf]; omega
        · obtain rfl : m = n - 1 - i := by omega
          rw [codeAt_end Hn.out hlt] at ho
          have HO := Lib.hid ho; clear ho
          have hnj : ¬ (((i + 1 + (n - 1 - i) : Nat) : Int) < (n : Int)) := by omega
          go_wp2
          go_roundw
          case rel => exact ⟨⟨i + 1, by omega, by go_num, HO.out⟩, hB⟩
          case measure => simp [intOf]; omega
    · obtain rfl : i = n := by omega
      rw [fillTo_all (by rw [code_length]; exact Hn.out)] at ho
      have HO := Lib.hid (OwI.of ho); clear ho
      go_wp2
      go_ret
      exact ⟨_, _, rfl, HO.out, hB⟩

def codeOf (xs : List Int) : List Int := if isPerm xs then code xs else []
theorem codeOf_length (xs : List Int) : (codeOf xs).length ≤ 7 := by
  unfold codeOf
  split
  · rw [code_length]; exact (perm_len ‹_›).2
  · simp

set_option maxRecDepth 100000 in
set_option maxHeartbeats 1600000 in
theorem codeOf_any (a : Option Addr) (n c : Nat) (xs : List Int) (w : World) (hr : RI w a xs) (hn : xs.length = n) (hb : n ≤ 17592186044416) (hcap : n ≤ c) :
    Calls Tryz.prog 63 #[.slice a n c] w fun e w' => ∃ a' n' c', e = .returned (.slice a' n' c') ∧ OwI w' w.heap.size w'.heap.size a' n' c' (codeOf xs) ∧ Below w.heap.size w w' := by
  have Hn := Lib.hid hn; clear hn
  cases hp : isPerm xs
  · have Hp := Lib.hid hp; clear hp
    go_enter Tryz.func63, Tryz.ntmps63
    go_wp2_with fail
    refine (is (implIsPerm_any _ _ _ xs _ hr Hn.out (by omega)) Hp.out).mono ?_
    rintro e w1 ⟨rfl, hd⟩
    go_wp2
    go_ret
    exact ⟨_, _, _, rfl, by rw [codeOf, Hp.out]; exact OwI.nil0, hd⟩
  have hl := perm_len hp
  rw [Hn.out] at hl
  have Hp := Lib.hid hp; clear hp
  obtain ⟨i0, hi, hz0, hz1, hz2⟩ := info_parts Tryz.info3
  go_enter Tryz.func63, Tryz.ntmps63
  go_wp2_with fail
  refine (is (implIsPerm_any _ _ _ xs _ hr Hn.out (by omega)) Hp.out).mono ?_
  rintro e wi ⟨rfl, hbi⟩
  have hri := hr.below hbi
  have hszi := hbi.size
  go_wp2_with (first | (at_make; refine wpList_make_full _ rfl _ _ 24 rfl wi.heap.size 3 i0 (.int .i64 0) 1 Tryz.underlying24 hi hz0 hz1 .i64 .i64 _ _ n rfl rfl ?m1 ?m2 ?m3 ?m4 ?m5 ?_))
  case m1 => rfl
  case m2 => rfl
  case m3 => rw [hz2]; omega
  case m4 => unfold maxLen; omega
  case m5 => exact Nat.le_refl _
  intro w1 hown hg
  have hB : Below wi.heap.size wi w1 := (Below.refl _ _).grown hg (Nat.le_refl _) (by simp)
  have hrow : OS w1 wi.heap.size (some ⟨wi.heap.size, 0, none⟩) n n (fillTo (code xs) n 0) := by
    refine OS.of ?_
    rw [fillTo_zero]
    have e := toList_madeCells_one (.int .i64 0) n
    simpa [ints, Value.cells, e] using hown
  have Hrow := Lib.hid hrow; clear hown hg hrow
  go_wp2
  go_loopw [15] (fun iv wr => Hid (∃ i : Nat, i ≤ n ∧ iv = .int .i64 i ∧ OS wr wi.heap.size (some ⟨wi.heap.size, 0, none⟩) n n (fillTo (code xs) n i)) ∧ Below wi.heap.size wi wr) (fun i _ => n - (intOf i).toNat)
  case atStart => exact ⟨⟨0, Nat.zero_le _, rfl, Hrow.out⟩, hB⟩
  case round =>
    clear Hrow hB
    obtain ⟨HV, hB⟩ := hrel
    obtain ⟨wo, rfl⟩ : ∃ wo : World, wo = wr := ⟨_, rfl⟩
    obtain ⟨i, hi', rfl, ho⟩ := HV.out
    clear HV
    by_cases hlt : i < n
    · rw [← codeAt_start Hn.out hlt] at ho
      have HO := Lib.hid ho; clear ho
      obtain ⟨x, hx⟩ := some_at Hn.out hlt
      have Hx := Lib.hid hx; clear hx
      obtain ⟨b, off, rfl, _⟩ := hri.at (k := i) (by rw [Hn.out]; exact hlt)
      have q1 : IntKind.i64.wrap ((i : Int) + 1) = ((i + 1 : Nat) : Int) := by rw [IntWalk.i64_in _ (by omega)]; omega
      have q2 : i + 1 ≤ n := by omega
      have q3 : i + 1 ≤ c := by omega
      have q4 : ((i + 1 : Nat) : Int) ≤ (n : Int) := by omega
      by_cases hlast : i + 1 = n
      · have he := codeAt_end Hn.out hlt
        have hz : n - 1 - i = 0 := by omega
        rw [hz] at he
        have He := Lib.hid he; clear he hz
        by_cases hcn : c = n
        · skip
          go_wp2
          go_loop [23] (fun v => v = .int .i64 (0 : Nat)) (fun _ => 0)
          case atStart => rfl
          case round =>
            obtain rfl := hrel
            go_wp2
            go_roundw
            case rel => exact ⟨⟨i + 1, by omega, by go_num, by rw [← He.out]; exact HO.out⟩, hB⟩
            case measure => simp [intOf]; omega
        · skip
          go_wp2
          go_loop [23] (fun v => v = .int .i64 (0 : Nat)) (fun _ => 0)
          case atStart => rfl
          case round =>
            obtain rfl := hrel
            go_wp2
            go_roundw
            case rel => exact ⟨⟨i + 1, by omega, by go_num, by rw [← He.out]; exact HO.out⟩, hB⟩
            case measure => simp [intOf]; omega
      · have hci : ¬ (c = i + 1) := by omega
        go_wp2
        go_loopw [23] (fun jv wr => Hid (∃ m : Nat, m ≤ n - (i + 1) ∧ jv = .int .i64 m ∧ OS wr wi.heap.size (some ⟨wi.heap.size, 0, none⟩) n n (codeAt xs n i m)) ∧ Below wi.heap.size wi wr) (fun j _ => n - (i + 1) - (intOf j).toNat)
        case atStart => exact ⟨⟨0, by omega, by go_num, HO.out⟩, hB⟩
        case round =>
          clear HO hB
          obtain ⟨HV, hB⟩ := hrel
          obtain ⟨wq, rfl⟩ : ∃ wq : World, wq = wr := ⟨_, rfl⟩
          obtain ⟨m, hm, rfl, ho⟩ := HV.out
          clear HV
          by_cases hj : m < n - (i + 1)
          · obtain ⟨b', off', hbo, hcell⟩ := (hri.below hB).at (k := i) (by rw [Hn.out]; exact hlt)
            obtain ⟨rfl, rfl⟩ : b = b' ∧ off = off' := by simpa using hbo
            obtain ⟨y, hy⟩ := some_at (k := i + 1 + m) Hn.out (by omega)
            have hcx := hcell i x Hx.out
            have hcy := hcell (i + 1 + m) y hy
            rw [← Nat.add_assoc] at hcy
            have Hy := Lib.hid hy; clear hy hbo
            clear hcell
            obtain ⟨g, hg0, hBg, ⟨v, hv, hcv⟩, hfv⟩ := OI.cons ho hlt
            obtain rfl : wi.heap.size = g := by simpa using hg0
            rw [codeAt_at Hn.out hlt] at hv
            obtain rfl := Option.some.inj hv
            have hle := cnt_le xs i m
            have HO := Lib.hid ho; clear hv hg0
            have hjI : (m : Int) < ((n - (i + 1) : Nat) : Int) := by omega
            by_cases hyx : y < x
            · have Hst := Lib.hid (codeAt_less (n := n) Hx.out Hy.out hyx)
              obtain ⟨u, hu⟩ : ∃ u, cnt xs i m = u := ⟨_, rfl⟩
              rw [hu] at hcv hle
              have Hu := Lib.hid hu; clear hu
              have hs := ho.store i ((u : Int) + 1)
              have hs1 : OS (wq.setCell ⟨wi.heap.size, i, none⟩ (.int .i64 ((u : Int) + 1))) wi.heap.size (some ⟨wi.heap.size, 0, none⟩) n n (codeAt xs n i (m + 1)) := by
                rw [← Hst.out, Hu.out]; exact hs.1
              have hB2 := hB.grown hs.2 hB.size (by intro q hq; obtain rfl := Option.some.inj hq; exact Nat.le_refl _)
              have HS := Lib.hid hs1; clear hs hs1 ho
              go_wp2
              go_roundw
              case rel => exact ⟨⟨m + 1, by omega, by go_num, HS.out⟩, hB2⟩
              case measure => simp [intOf]; omega
            · have Hst := Lib.hid (codeAt_same (n := n) Hx.out Hy.out hyx)
              clear ho
              go_wp2
              go_roundw
              case rel => exact ⟨⟨m + 1, by omega, by go_num, by rw [← Hst.out]; exact HO.out⟩, hB⟩
              case measure => simp [intOf]; omega
          · obtain rfl : m = n - (i + 1) := by omega
            have he : n - (i + 1) = n - 1 - i := by omega
            rw [he, codeAt_end Hn.out hlt] at ho
            have HO := Lib.hid ho; clear ho he
            go_wp2
            go_roundw
            case rel => exact ⟨⟨i + 1, by omega, by go_num, HO.out⟩, hB⟩
            case measure => simp [intOf]; omega
    · obtain rfl : i = n := by omega
      rw [fillTo_all (by rw [code_length]; exact Hn.out)] at ho
      have HO := Lib.hid (OwI.of ho); clear ho
      go_wp2
      go_ret
      exact ⟨_, _, _, rfl, by rw [codeOf, Hp.out]; exact HO.out.mono hszi (Nat.le_refl _), hbi.trans (hB.mono hszi)⟩
end Go.Proofs.YtomejjbkakpoiaaGreat

namespace Go.Proofs.YtomejjbkakpoiaaGreat
open Go.RowKit

def sumI (xs : List Int) : Int := xs.foldr (· + ·) 0
theorem sumI_nil : sumI [] = 0 := rfl
theorem sumI_cons (x : Int) (xs : List Int) : sumI (x :: xs) = x + sumI xs := rfl
theorem sumI_append (xs ys : List Int) : sumI (xs ++ ys) = sumI xs + sumI ys := by
  induction xs with
  | nil => simp [sumI_nil]
  | cons x xs ih => rw [List.cons_append, sumI_cons, sumI_cons, ih]; omega
theorem sumI_take {xs : List Int} {k : Nat} {x : Int} (h : xs[k]? = some x) : sumI (xs.take (k + 1)) = sumI (xs.take k) + x := by
  obtain ⟨hk, rfl⟩ := List.getElem?_eq_some_iff.1 h
  rw [List.take_succ_eq_append_getElem hk, sumI_append, sumI_cons, sumI_nil]; omega
/-- numbers so small that no sum of them wraps -/
def Small (xs : List Int) : Prop := ∀ x ∈ xs, -1048576 ≤ x ∧ x ≤ 1048576
theorem sumI_bd {xs : List Int} (h : Small xs) : -(1048576 * (xs.length : Int)) ≤ sumI xs ∧ sumI xs ≤ 1048576 * (xs.length : Int) := by
  induction xs with
  | nil => simp [sumI_nil]
  | cons x xs ih =>
    have h1 := h x (by simp)
    have h2 := ih (fun y hy => h y (by simp [hy]))
    rw [sumI_cons, List.length_cons]
    omega
theorem Small.take {xs : List Int} (h : Small xs) (k : Nat) : Small (xs.take k) := fun x hx => h x (List.mem_of_mem_take hx)
theorem Small.at {xs : List Int} (h : Small xs) {k : Nat} {x : Int} (hx : xs[k]? = some x) : -1048576 ≤ x ∧ x ≤ 1048576 := h x (List.mem_of_getElem? hx)

set_option maxHeartbeats 400000 in
theorem l1Sum_any (a : Option Addr) (n c : Nat) (xs : List Int) (w : World) (hr : RI w a xs) (hn : xs.length = n) (hb : n ≤ 1048576) (hs : Small xs) :
    Calls Tryz.prog 106 #[.slice a n c] w fun e w' => e = .returned (.int .i64 (sumI xs)) ∧ w = w' := by
  have Hn := Lib.hid hn; clear hn
  have HS := Lib.hid hs; clear hs
  go_enter Tryz.func106, Tryz.ntmps106
  go_wp2
  go_loop [3, 4] (fun s i => ∃ k : Nat, k ≤ n ∧ i = .int .i64 k ∧ s = .int .i64 (sumI (xs.take k))) (fun _ i => n - (intOf i).toNat)
  case atStart => exact ⟨0, Nat.zero_le _, rfl, rfl⟩
  case round =>
    obtain ⟨k, hk, rfl, rfl⟩ := hrel
    by_cases hlt : k < n
    · obtain ⟨b, off, rfl, hcell⟩ := hr.at (k := k) (by rw [Hn.out]; exact hlt)
      obtain ⟨x, hx⟩ := some_at Hn.out hlt
      have hc := hcell k x hx
      have hxb := HS.out.at hx
      have hsb := sumI_bd (HS.out.take k)
      have hst := Lib.hid (sumI_take hx)
      have hlk : (xs.take k).length = k := by rw [List.length_take, Hn.out]; omega
      rw [hlk] at hsb
      clear hcell hx hlk
      obtain ⟨s, hsv⟩ : ∃ s, sumI (xs.take k) = s := ⟨_, rfl⟩
      rw [hsv] at hsb ⊢
      have Hv := Lib.hid hsv; clear hsv
      go_wp2
      go_round
      case rel => exact ⟨k + 1, by omega, by go_num, by rw [hst.out, Hv.out]⟩
      case measure => simp [intOf]; omega
    · obtain rfl : k = n := by omega
      go_wp2
      go_ret
      exact ⟨ret_int (by rw [List.take_of_length_le (by rw [Hn.out]; omega)]), rfl⟩
end Go.Proofs.YtomejjbkakpoiaaGreat

namespace Go.Proofs.YtomejjbkakpoiaaGreat
open Go.RowKit

theorem isPerm_iff (xs : List Int) : isPerm xs = true ↔ 1 ≤ xs.length ∧ xs.length ≤ 7 ∧ (∀ x ∈ xs, 0 ≤ x ∧ x < xs.length) ∧ xs.Nodup := by
  constructor
  · intro h
    have hl := perm_len h
    refine ⟨hl.1, hl.2, fun x hx => ?_, ?_⟩
    · obtain ⟨i, hi⟩ := List.mem_iff_getElem?.1 hx
      exact perm_at h hi
    · rw [List.nodup_iff_pairwise_ne, List.pairwise_iff_getElem]
      intro i j hi hj hij e
      simp only [isPerm, Bool.and_eq_true, List.all_eq_true] at h
      have := h.2 j (by simpa using hj)
      have hxj : xs[j]? = some xs[j] := List.getElem?_eq_getElem hj
      simp only [permAt, getD_of hxj, Bool.and_eq_true, Bool.not_eq_true'] at this
      have h3 := this.2
      rw [List.contains_eq_mem, decide_eq_false_iff_not] at h3
      refine h3 (List.mem_iff_getElem?.2 ⟨i, ?_⟩)
      rw [List.getElem?_take, if_pos hij, ← e, List.getElem?_eq_getElem hi]
  · rintro ⟨h1, h2, h3, h4⟩
    refine isPerm_true h1 h2 (fun j hj => ?_)
    have hxj : xs[j]? = some xs[j] := List.getElem?_eq_getElem hj
    have hb := h3 xs[j] (List.getElem_mem hj)
    have hnm : ¬ xs[j] ∈ xs.take j := by
      intro hm
      obtain ⟨i, hi⟩ := List.mem_iff_getElem?.1 hm
      rw [List.getElem?_take] at hi
      split at hi
      · rename_i hij
        obtain ⟨hi', e⟩ := List.getElem?_eq_some_iff.1 hi
        rw [List.nodup_iff_pairwise_ne, List.pairwise_iff_getElem] at h4
        exact h4 i j hi' hj hij e
      · cases hi
    simp only [permAt, getD_of hxj, List.contains_eq_mem, hnm]
    simp; omega
theorem swp_perm {xs : List Int} {i j : Nat} (hi : i < xs.length) (hj : j < xs.length) : (swp xs i j).Perm xs := by
  rw [swp_at (List.getElem?_eq_getElem hi) (List.getElem?_eq_getElem hj)]
  exact List.set_set_perm hi hj
theorem isPerm_swp {xs : List Int} {i j : Nat} (h : isPerm xs = true) (hi : i < xs.length) (hj : j < xs.length) : isPerm (swp xs i j) = true := by
  rw [isPerm_iff] at h ⊢
  have hp := swp_perm hi hj
  rw [hp.length_eq]
  exact ⟨h.1, h.2.1, fun x hx => h.2.2.1 x (hp.mem_iff.1 hx), hp.nodup_iff.2 h.2.2.2⟩
theorem isPerm_ident {n : Nat} (h : 1 ≤ n ∧ n ≤ 7) : isPerm (ident n) = true := by
  obtain ⟨h1, h2⟩ := h
  have : n = 1 ∨ n = 2 ∨ n = 3 ∨ n = 4 ∨ n = 5 ∨ n = 6 ∨ n = 7 := by omega
  rcases this with rfl | rfl | rfl | rfl | rfl | rfl | rfl <;> decide
theorem code_nat {xs : List Int} {i : Nat} {x : Int} (h : (code xs)[i]? = some x) : 0 ≤ x ∧ x ≤ (xs.length : Nat) := by
  have hi := (List.getElem?_eq_some_iff.1 h).1
  rw [code_length] at hi
  rw [code_at rfl hi] at h
  obtain rfl := Option.some.inj h
  have := cnt_le xs i (xs.length - 1 - i)
  omega
theorem small_code {xs : List Int} (h : xs.length ≤ 1000) : Small (code xs) := by
  intro x hx
  obtain ⟨i, hi⟩ := List.mem_iff_getElem?.1 hx
  have := code_nat hi
  omega

set_option maxRecDepth 100000 in
set_option maxHeartbeats 800000 in
theorem l1Length_any (a : Option Addr) (n c : Nat) (xs : List Int) (w : World) (hr : RI w a xs) (hn : xs.length = n) (hb : n ≤ 1000) :
    Calls Tryz.prog 67 #[.slice a n c] w fun e w' => e = .returned (.int .i64 (sumI (code xs))) ∧ Below w.heap.size w w' := by
  go_enter Tryz.func67, Tryz.ntmps67
  go_wp2_with fail
  refine (l1Code_any _ _ _ xs _ hr hn (by omega)).mono ?_
  rintro e w1 ⟨a1, c1, rfl, ho, hB⟩
  have hl := Lib.hid ho.len
  have hsm := Lib.hid (small_code (xs := xs) (by omega))
  go_wp2_with fail
  refine (l1Sum_any _ _ _ (code xs) _ ho.rd hl.out (by omega) hsm.out).mono ?_
  rintro e w2 ⟨rfl, rfl⟩
  go_wp2
  go_ret
  exact ⟨rfl, hB⟩

set_option maxRecDepth 100000 in
set_option maxHeartbeats 800000 in
theorem lengthOf_any (a : Option Addr) (n c : Nat) (xs : List Int) (w : World) (hr : RI w a xs) (hn : xs.length = n) (hb : n ≤ 1000) (hcap : n ≤ c) (hp : isPerm xs = true) :
    Calls Tryz.prog 22 #[.slice a n c] w fun e w' => e = .returned (.int .i64 (sumI (code xs))) ∧ Below w.heap.size w w' := by
  have Hn := Lib.hid hn; clear hn
  have Hp := Lib.hid hp
  have hcf : codeOf xs = code xs := by rw [codeOf, hp]; rfl
  have Hcf := Lib.hid hcf; clear hcf hp
  have hsm := Lib.hid (small_code (xs := xs) (by rw [Hn.out]; exact hb))
  go_enter Tryz.func22, Tryz.ntmps22
  go_wp2_with fail
  refine (is (implIsPerm_any _ _ _ xs _ hr Hn.out (by omega)) Hp.out).mono ?_
  rintro e w1 ⟨rfl, hd⟩
  have hr1 := hr.below hd
  go_wp2_with fail
  refine (codeOf_any _ _ _ xs _ hr1 Hn.out (by omega) hcap).mono ?_
  rintro e w2 ⟨a2, n2, c2, rfl, ho, hb2⟩
  rw [Hcf.out] at ho
  have hl := ho.len
  have hl2 : n2 = n := by rw [← hl, code_length, Hn.out]
  subst hl2
  have Hl := Lib.hid hl; clear hl
  have hB := hd.trans (hb2.mono hd.size)
  clear hr1 hb2 hd
  go_wp2
  go_loop [3, 12] (fun s i => Hid (∃ k : Nat, k ≤ n2 ∧ i = .int .i64 k ∧ s = .int .i64 (sumI ((code xs).take k)))) (fun _ i => n2 - (intOf i).toNat)
  case atStart => exact ⟨0, Nat.zero_le _, rfl, rfl⟩
  case round =>
    obtain ⟨k, hk, rfl, rfl⟩ := hrel.out
    by_cases hlt : k < n2
    · obtain ⟨b, off, hab, hcell⟩ := ho.rd.at (k := k) (by rw [Hl.out]; exact hlt)
      subst hab
      obtain ⟨x, hx⟩ := some_at Hl.out hlt
      have hc := hcell k x hx
      have hst := sumI_take hx
      have hbd := sumI_bd (hsm.out.take k)
      have hbx := hsm.out.at hx
      have hlen : (((code xs).take k).length : Int) ≤ 1000 := by rw [List.length_take]; omega
      obtain ⟨s, hs⟩ : ∃ s, sumI ((code xs).take k) = s := ⟨_, rfl⟩
      rw [hs] at hst hbd ⊢
      have Hst := Lib.hid hst; clear hst hx hcell hs
      have hsb : -1048576000 ≤ s ∧ s ≤ 1048576000 := by omega
      clear hbd
      go_wp2
      go_round
      case rel => exact ⟨k + 1, by omega, by go_num, by rw [Hst.out] <;> go_num⟩
      case measure => simp [intOf]; omega
    · obtain rfl : k = n2 := by omega
      go_wp2
      go_ret
      exact ⟨ret_int (by rw [List.take_of_length_le (by rw [Hl.out]; exact Nat.le_refl _)]), hB⟩
end Go.Proofs.YtomejjbkakpoiaaGreat
