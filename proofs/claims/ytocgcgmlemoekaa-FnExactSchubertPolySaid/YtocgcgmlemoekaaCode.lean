/-
  Contracts of l1Code and CodeOf: how many smaller numbers stand behind each.
-/
import Derived.Test.YtocgcgmlemoekaaBuA
import Derived.Test.YtocgcgmlemoekaaPerm
namespace Go.Proofs.Ytocgcgmlemoekaa
open Go.RowKit

theorem OwI.nil0 {w : World} {B S : Nat} : OwI w B S none 0 0 [] := ⟨OS.of ⟨rfl, .inl ⟨rfl, rfl⟩⟩, fun k hk => by simp [Value.ownBlock] at hk⟩
/-- how many of the m numbers behind place i are smaller -/
def cnt (xs : List Int) (i m : Nat) : Nat := ((List.range m).filter fun t => decide (xs.getD (i + 1 + t) 0 < xs.getD i 0)).length
def code (xs : List Int) : List Int := (List.range xs.length).map fun i => (cnt xs i (xs.length - 1 - i) : Int)
theorem cnt_le (xs : List Int) (i m : Nat) : cnt xs i m ≤ m := by
  unfold cnt
  exact Nat.le_trans (List.length_filter_le _ _) (by simp)
theorem cnt_succ {xs : List Int} {i m : Nat} {x y : Int} (hx : xs[i]? = some x) (hy : xs[i + 1 + m]? = some y) : cnt xs i (m + 1) = if y < x then cnt xs i m + 1 else cnt xs i m := by
  unfold cnt
  rw [List.range_succ, List.filter_append, List.length_append, List.filter_cons, List.filter_nil, getD_of hx, getD_of hy]
  by_cases h : y < x <;> simp [h]
theorem code_length (xs : List Int) : (code xs).length = xs.length := by simp [code]
theorem code_at {xs : List Int} {n i : Nat} (hn : xs.length = n) (hi : i < n) : (code xs)[i]? = some (cnt xs i (n - 1 - i) : Int) := by
  subst hn
  simp [code, hi]
theorem fill_zero {C : List Int} {n i : Nat} (hC : C.length = n) (hi : i < n) : (fillTo C n i).set i 0 = fillTo C n i := by
  unfold fillTo
  obtain ⟨d, hd⟩ : ∃ d, n - i = d + 1 := ⟨n - i - 1, by omega⟩
  rw [hd, List.replicate_succ, List.set_append_right _ _ (by simp; omega)]
  have : i - (C.take i).length = 0 := by simp; omega
  rw [this, List.set_cons_zero]
/-- the code as far as place i, of which m are counted -/
def codeAt (xs : List Int) (n i m : Nat) : List Int := (fillTo (code xs) n i).set i (cnt xs i m : Int)
theorem codeAt_start {xs : List Int} {n i : Nat} (hn : xs.length = n) (hi : i < n) : codeAt xs n i 0 = fillTo (code xs) n i := by
  unfold codeAt
  exact fill_zero (by rw [code_length]; exact hn) hi
theorem codeAt_set (xs : List Int) (n i m : Nat) : (codeAt xs n i m).set i (cnt xs i m + 1 : Int) = (fillTo (code xs) n i).set i ((cnt xs i m + 1 : Nat) : Int) := by
  unfold codeAt
  rw [List.set_set]; rfl
theorem codeAt_less {xs : List Int} {n i m : Nat} {x y : Int} (hx : xs[i]? = some x) (hy : xs[i + 1 + m]? = some y) (h : y < x) : (codeAt xs n i m).set i ((cnt xs i m : Int) + 1) = codeAt xs n i (m + 1) := by
  unfold codeAt
  rw [List.set_set, cnt_succ hx hy, if_pos h]; rfl
theorem codeAt_same {xs : List Int} {n i m : Nat} {x y : Int} (hx : xs[i]? = some x) (hy : xs[i + 1 + m]? = some y) (h : ¬ y < x) : codeAt xs n i m = codeAt xs n i (m + 1) := by
  unfold codeAt
  rw [cnt_succ hx hy, if_neg h]
theorem codeAt_end {xs : List Int} {n i : Nat} (hn : xs.length = n) (hi : i < n) : codeAt xs n i (n - 1 - i) = fillTo (code xs) n (i + 1) := by
  unfold codeAt
  exact fillTo_succ (by rw [code_length]; exact hn) hi (code_at hn hi)
theorem codeAt_at {xs : List Int} {n i m : Nat} (hn : xs.length = n) (hi : i < n) : (codeAt xs n i m)[i]? = some (cnt xs i m : Int) := by
  unfold codeAt
  rw [List.getElem?_set, if_pos rfl, if_pos]
  rw [fillTo_length (by rw [code_length]; exact hn) (by omega)]; exact hi

set_option maxRecDepth 100000 in
set_option maxHeartbeats 1600000 in
theorem l1Code_any (a : Option Addr) (n c : Nat) (xs : List Int) (w : World) (hr : RI w a xs) (hn : xs.length = n) (hb : n ≤ 17592186044416) :
    Calls Try.prog 175 #[.slice a n c] w fun e w' => ∃ a' c', e = .returned (.slice a' n c') ∧ OwI w' w.heap.size w'.heap.size a' n c' (code xs) ∧ Below w.heap.size w w' := by
  have Hn := Lib.hid hn; clear hn
  obtain ⟨i0, hi, hz0, hz1, hz2⟩ := info_parts Try.info3
  go_enter Try.func175, Try.ntmps175
  go_wp2_with (first | (at_make; refine wpList_make_full _ rfl _ _ 22 rfl w.heap.size 3 i0 (.int .i64 0) 1 Try.underlying22 hi hz0 hz1 .i64 .i64 _ _ n rfl rfl ?m1 ?m2 ?m3 ?m4 ?m5 ?_))
  case m1 => rfl
  case m2 => rfl
  case m3 => rw [hz2]; omega
  case m4 => unfold maxLen; omega
  case m5 => exact Nat.le_refl _
  intro w1 hown hg
  have hB : Below w.heap.size w w1 := (Below.refl _ _).grown hg (Nat.le_refl _) (by simp)
  have hrow : OS w1 w.heap.size (some ⟨w.heap.size, 0, none⟩) n n (fillTo (code xs) n 0) := by
    refine OS.of ?_
    rw [fillTo_zero]
    have e := toList_madeCells_one (.int .i64 0) n
    simpa [ints, Value.cells, e] using hown
  have Hrow := Lib.hid hrow; clear hown hg hrow
  go_wp2
  go_loopw [4] (fun iv wr => Hid (∃ i : Nat, i ≤ n ∧ iv = .int .i64 i ∧ OS wr w.heap.size (some ⟨w.heap.size, 0, none⟩) n n (fillTo (code xs) n i)) ∧ Below w.heap.size w wr) (fun i _ => n - (intOf i).toNat)
  case atStart => exact ⟨⟨0, Nat.zero_le _, rfl, Hrow.out⟩, hB⟩
  case round =>
    clear Hrow hB
    obtain ⟨HV, hB⟩ := hrel
    obtain ⟨wo, rfl⟩ : ∃ wo : World, wo = wr := ⟨_, rfl⟩
    obtain ⟨i, hi', rfl, ho⟩ := HV.out
    clear HV
    by_cases hlt : i < n
    · rw [← codeAt_start Hn.out hlt] at ho
      have HO := Lib.hid ho; clear ho
      obtain ⟨x, hx⟩ := some_at Hn.out hlt
      have Hx := Lib.hid hx; clear hx
      go_wp2
      go_loopw [5] (fun jv wr => Hid (∃ m : Nat, i + 1 + m ≤ n ∧ jv = .int .i64 (i + 1 + m : Nat) ∧ OS wr w.heap.size (some ⟨w.heap.size, 0, none⟩) n n (codeAt xs n i m)) ∧ Below w.heap.size w wr) (fun j _ => n - (intOf j).toNat)
      case atStart => exact ⟨⟨0, by omega, by go_num, HO.out⟩, hB⟩
      case round =>
        clear HO hB
        obtain ⟨HV, hB⟩ := hrel
        obtain ⟨wq, rfl⟩ : ∃ wq : World, wq = wr := ⟨_, rfl⟩
        obtain ⟨m, hm, rfl, ho⟩ := HV.out
        clear HV
        by_cases hj : i + 1 + m < n
        · obtain ⟨b, off, rfl, hcell⟩ := (hr.below hB).at (k := i) (by rw [Hn.out]; exact hlt)
          obtain ⟨y, hy⟩ := some_at Hn.out hj
          have hcx := hcell i x Hx.out
          have hcy := hcell (i + 1 + m) y hy
          have Hy := Lib.hid hy; clear hy
          clear hcell
          obtain ⟨g, hg0, hBg, ⟨v, hv, hcv⟩, hfv⟩ := OI.cons ho hlt
          obtain rfl : w.heap.size = g := by simpa using hg0
          rw [codeAt_at Hn.out hlt] at hv
          obtain rfl := Option.some.inj hv
          have hle := cnt_le xs i m
          have HO := Lib.hid ho; clear ho hv hg0
          have q0 : (i : Int) < (n : Int) := by omega
          have q1 : ((i + 1 + m : Nat) : Int) < (n : Int) := by omega
          have q2 : (0 : Int) ≤ ((i + 1 + m : Nat) : Int) := by omega
          by_cases hyx : y < x
          · have Hst := Lib.hid (codeAt_less (n := n) Hx.out Hy.out hyx)
            obtain ⟨u, hu⟩ : ∃ u, cnt xs i m = u := ⟨_, rfl⟩
            rw [hu] at hcv hle
            have Hu := Lib.hid hu; clear hu
            go_wp2
            go_quiet (fail)
            have hod := HO.out.below (Drew.below ⟨nq, rfl⟩ wq.heap.size)
            have hBd := hB.trans (Drew.below ⟨nq, rfl⟩ w.heap.size)
            have hcv' : (wq.drewN nq).cell? ⟨w.heap.size, i, none⟩ = some (.int .i64 u) := by simpa using hcv
            have hfv' : (wq.drewN nq).frozen? ⟨w.heap.size, i, none⟩ = false := by simpa using hfv
            obtain ⟨wd, hwd⟩ : ∃ wd, wq.drewN nq = wd := ⟨_, rfl⟩
            rw [hwd] at hod hBd hcv' hfv' ⊢
            have hs := hod.store i ((u : Int) + 1)
            have hs1 : OS (wd.setCell ⟨w.heap.size, i, none⟩ (.int .i64 ((u : Int) + 1))) w.heap.size (some ⟨w.heap.size, 0, none⟩) n n (codeAt xs n i (m + 1)) := by
              rw [← Hst.out, Hu.out]; exact hs.1
            have hB2 := hBd.grown hs.2 hBd.size (by intro q hq; obtain rfl := Option.some.inj hq; exact Nat.le_refl _)
            have HS := Lib.hid hs1; clear hs hs1 hod
            go_wp2
            go_roundw
            case rel => exact ⟨⟨m + 1, by omega, by go_num, HS.out⟩, hB2⟩
            case measure => simp [intOf]; omega
          · have Hst := Lib.hid (codeAt_same (n := n) Hx.out Hy.out hyx)
            go_wp2
            go_quiet (fail)
            go_wp2
            go_roundw
            case rel => exact ⟨⟨m + 1, by omega, by go_num, by rw [← Hst.out]; exact HO.out.below (Drew.below ⟨nq, rfl⟩ _)⟩, hB.trans (Drew.below ⟨nq, rfl⟩ _)⟩
            case measure => simp [intOf]; omega
        · obtain rfl : m = n - 1 - i := by omega
          rw [codeAt_end Hn.out hlt] at ho
          have HO := Lib.hid ho; clear ho
          have hnj : ¬ (((i + 1 + (n - 1 - i) : Nat) : Int) < (n : Int)) := by omega
          go_wp2
          go_roundw
          case rel => exact ⟨⟨i + 1, by omega, by go_num, HO.out⟩, hB⟩
          case measure => simp [intOf]; omega
    · obtain rfl : i = n := by omega
      rw [fillTo_all (by rw [code_length]; exact Hn.out)] at ho
      have HO := Lib.hid (OwI.of ho); clear ho
      go_wp2
      go_ret
      exact ⟨_, _, rfl, HO.out, hB⟩

def codeOf (xs : List Int) : List Int := if isPerm xs then code xs else []
theorem codeOf_length (xs : List Int) : (codeOf xs).length ≤ 7 := by
  unfold codeOf
  split
  · rw [code_length]; exact (perm_len ‹_›).2
  · simp

set_option maxRecDepth 100000 in
set_option maxHeartbeats 1600000 in
theorem codeOf_any (a : Option Addr) (n c : Nat) (xs : List Int) (w : World) (hr : RI w a xs) (hn : xs.length = n) (hb : n ≤ 17592186044416) (hcap : n ≤ c) :
    Calls Try.prog 177 #[.slice a n c] w fun e w' => ∃ a' n' c', e = .returned (.slice a' n' c') ∧ OwI w' w.heap.size w'.heap.size a' n' c' (codeOf xs) ∧ Below w.heap.size w w' := by
  have Hn := Lib.hid hn; clear hn
  cases hp : isPerm xs
  · have Hp := Lib.hid hp; clear hp
    go_enter Try.func177, Try.ntmps177
    go_wp2_with fail
    refine (is (implIsPerm_any _ _ _ xs _ hr Hn.out (by omega)) Hp.out).mono ?_
    rintro e w1 ⟨rfl, hd⟩
    go_wp2
    go_ret
    exact ⟨_, _, _, rfl, by rw [codeOf, Hp.out]; exact OwI.nil0, hd⟩
  have hl := perm_len hp
  rw [Hn.out] at hl
  have Hp := Lib.hid hp; clear hp
  obtain ⟨i0, hi, hz0, hz1, hz2⟩ := info_parts Try.info3
  go_enter Try.func177, Try.ntmps177
  go_wp2_with fail
  refine (is (implIsPerm_any _ _ _ xs _ hr Hn.out (by omega)) Hp.out).mono ?_
  rintro e wi ⟨rfl, hbi⟩
  have hri := hr.below hbi
  have hszi := hbi.size
  go_wp2_with (first | (at_make; refine wpList_make_full _ rfl _ _ 22 rfl wi.heap.size 3 i0 (.int .i64 0) 1 Try.underlying22 hi hz0 hz1 .i64 .i64 _ _ n rfl rfl ?m1 ?m2 ?m3 ?m4 ?m5 ?_))
  case m1 => rfl
  case m2 => rfl
  case m3 => rw [hz2]; omega
  case m4 => unfold maxLen; omega
  case m5 => exact Nat.le_refl _
  intro w1 hown hg
  have hB : Below wi.heap.size wi w1 := (Below.refl _ _).grown hg (Nat.le_refl _) (by simp)
  have hrow : OS w1 wi.heap.size (some ⟨wi.heap.size, 0, none⟩) n n (fillTo (code xs) n 0) := by
    refine OS.of ?_
    rw [fillTo_zero]
    have e := toList_madeCells_one (.int .i64 0) n
    simpa [ints, Value.cells, e] using hown
  have Hrow := Lib.hid hrow; clear hown hg hrow
  go_wp2
  go_loopw [15] (fun iv wr => Hid (∃ i : Nat, i ≤ n ∧ iv = .int .i64 i ∧ OS wr wi.heap.size (some ⟨wi.heap.size, 0, none⟩) n n (fillTo (code xs) n i)) ∧ Below wi.heap.size wi wr) (fun i _ => n - (intOf i).toNat)
  case atStart => exact ⟨⟨0, Nat.zero_le _, rfl, Hrow.out⟩, hB⟩
  case round =>
    clear Hrow hB
    obtain ⟨HV, hB⟩ := hrel
    obtain ⟨wo, rfl⟩ : ∃ wo : World, wo = wr := ⟨_, rfl⟩
    obtain ⟨i, hi', rfl, ho⟩ := HV.out
    clear HV
    by_cases hlt : i < n
    · rw [← codeAt_start Hn.out hlt] at ho
      have HO := Lib.hid ho; clear ho
      obtain ⟨x, hx⟩ := some_at Hn.out hlt
      have Hx := Lib.hid hx; clear hx
      obtain ⟨b, off, rfl, _⟩ := hri.at (k := i) (by rw [Hn.out]; exact hlt)
      have q1 : IntKind.i64.wrap ((i : Int) + 1) = ((i + 1 : Nat) : Int) := by rw [IntWalk.i64_in _ (by omega)]; omega
      have q2 : i + 1 ≤ n := by omega
      have q3 : i + 1 ≤ c := by omega
      have q4 : ((i + 1 : Nat) : Int) ≤ (n : Int) := by omega
      by_cases hlast : i + 1 = n
      · have he := codeAt_end Hn.out hlt
        have hz : n - 1 - i = 0 := by omega
        rw [hz] at he
        have He := Lib.hid he; clear he hz
        by_cases hcn : c = n
        · skip
          go_wp2
          go_loop [23] (fun v => v = .int .i64 (0 : Nat)) (fun _ => 0)
          case atStart => rfl
          case round =>
            obtain rfl := hrel
            go_wp2
            go_roundw
            case rel => exact ⟨⟨i + 1, by omega, by go_num, by rw [← He.out]; exact HO.out⟩, hB⟩
            case measure => simp [intOf]; omega
        · skip
          go_wp2
          go_loop [23] (fun v => v = .int .i64 (0 : Nat)) (fun _ => 0)
          case atStart => rfl
          case round =>
            obtain rfl := hrel
            go_wp2
            go_roundw
            case rel => exact ⟨⟨i + 1, by omega, by go_num, by rw [← He.out]; exact HO.out⟩, hB⟩
            case measure => simp [intOf]; omega
      · have hci : ¬ (c = i + 1) := by omega
        go_wp2
        go_loopw [23] (fun jv wr => Hid (∃ m : Nat, m ≤ n - (i + 1) ∧ jv = .int .i64 m ∧ OS wr wi.heap.size (some ⟨wi.heap.size, 0, none⟩) n n (codeAt xs n i m)) ∧ Below wi.heap.size wi wr) (fun j _ => n - (i + 1) - (intOf j).toNat)
        case atStart => exact ⟨⟨0, by omega, by go_num, HO.out⟩, hB⟩
        case round =>
          clear HO hB
          obtain ⟨HV, hB⟩ := hrel
          obtain ⟨wq, rfl⟩ : ∃ wq : World, wq = wr := ⟨_, rfl⟩
          obtain ⟨m, hm, rfl, ho⟩ := HV.out
          clear HV
          by_cases hj : m < n - (i + 1)
          · obtain ⟨b', off', hbo, hcell⟩ := (hri.below hB).at (k := i) (by rw [Hn.out]; exact hlt)
            obtain ⟨rfl, rfl⟩ : b = b' ∧ off = off' := by simpa using hbo
            obtain ⟨y, hy⟩ := some_at (k := i + 1 + m) Hn.out (by omega)
            have hcx := hcell i x Hx.out
            have hcy := hcell (i + 1 + m) y hy
            rw [← Nat.add_assoc] at hcy
            have Hy := Lib.hid hy; clear hy hbo
            clear hcell
            obtain ⟨g, hg0, hBg, ⟨v, hv, hcv⟩, hfv⟩ := OI.cons ho hlt
            obtain rfl : wi.heap.size = g := by simpa using hg0
            rw [codeAt_at Hn.out hlt] at hv
            obtain rfl := Option.some.inj hv
            have hle := cnt_le xs i m
            have HO := Lib.hid ho; clear hv hg0
            have hjI : (m : Int) < ((n - (i + 1) : Nat) : Int) := by omega
            by_cases hyx : y < x
            · have Hst := Lib.hid (codeAt_less (n := n) Hx.out Hy.out hyx)
              obtain ⟨u, hu⟩ : ∃ u, cnt xs i m = u := ⟨_, rfl⟩
              rw [hu] at hcv hle
              have Hu := Lib.hid hu; clear hu
              have hs := ho.store i ((u : Int) + 1)
              have hs1 : OS (wq.setCell ⟨wi.heap.size, i, none⟩ (.int .i64 ((u : Int) + 1))) wi.heap.size (some ⟨wi.heap.size, 0, none⟩) n n (codeAt xs n i (m + 1)) := by
                rw [← Hst.out, Hu.out]; exact hs.1
              have hB2 := hB.grown hs.2 hB.size (by intro q hq; obtain rfl := Option.some.inj hq; exact Nat.le_refl _)
              have HS := Lib.hid hs1; clear hs hs1 ho
              go_wp2
              go_roundw
              case rel => exact ⟨⟨m + 1, by omega, by go_num, HS.out⟩, hB2⟩
              case measure => simp [intOf]; omega
            · have Hst := Lib.hid (codeAt_same (n := n) Hx.out Hy.out hyx)
              clear ho
              go_wp2
              go_roundw
              case rel => exact ⟨⟨m + 1, by omega, by go_num, by rw [← Hst.out]; exact HO.out⟩, hB⟩
              case measure => simp [intOf]; omega
          · obtain rfl : m = n - (i + 1) := by omega
            have he : n - (i + 1) = n - 1 - i := by omega
            rw [he, codeAt_end Hn.out hlt] at ho
            have HO := Lib.hid ho; clear ho he
            go_wp2
            go_roundw
            case rel => exact ⟨⟨i + 1, by omega, by go_num, HO.out⟩, hB⟩
            case measure => simp [intOf]; omega
    · obtain rfl : i = n := by omega
      rw [fillTo_all (by rw [code_length]; exact Hn.out)] at ho
      have HO := Lib.hid (OwI.of ho); clear ho
      go_wp2
      go_ret
      exact ⟨_, _, _, rfl, by rw [codeOf, Hp.out]; exact HO.out.mono hszi (Nat.le_refl _), hbi.trans (hB.mono hszi)⟩
end Go.Proofs.Ytocgcgmlemoekaa
