/-
  Contracts of StandardCount, the program's and the reference's.
-/
import Derived.Test.YtleehkgfoicmdaaConj
import Derived.Test.YtleehkgfoicmdaaSum
namespace Go.Proofs.Ytleehkgfoicmdaa
open Go.RowKit

def hookAt (xs : List Int) (r c : Nat) : Int := xs.getD r 0 - c + above xs c - r - 1
def rowDiv (xs : List Int) (r : Nat) : Nat → Int → Int
  | 0, N => N
  | c + 1, N => rowDiv xs r c N / hookAt xs r c
def allDiv (xs : List Int) : Nat → Int → Int
  | 0, N => N
  | r + 1, N => rowDiv xs r (xs.getD r 0).toNat (allDiv xs r N)
def stdCount (xs : List Int) : Int := if isShape xs && decide (sumI xs ≤ 20) then allDiv xs xs.length (fact (sumI xs).toNat) else -1

theorem shape_at {xs : List Int} (h : isShape xs = true) {k : Nat} {x : Int} (hx : xs[k]? = some x) : 1 ≤ x ∧ x ≤ 16 := by
  have hk := (List.getElem?_eq_some_iff.1 hx).1
  simp only [isShape, Bool.and_eq_true, List.all_eq_true] at h
  have := h.2 k (by simpa using hk)
  simp only [shapeAt, Bool.and_eq_true, decide_eq_true_eq, getD_of hx] at this
  omega
theorem shape_small {xs : List Int} (h : isShape xs = true) : Small xs := by
  intro x hx
  obtain ⟨i, hi, rfl⟩ := List.mem_iff_getElem.1 hx
  have := shape_at h (k := i) (by rw [List.getElem?_eq_getElem hi])
  omega
theorem shape_sum {xs : List Int} (h : isShape xs = true) : 0 ≤ sumI xs := by
  have H : ∀ (ys : List Int), (∀ y ∈ ys, 0 ≤ y) → 0 ≤ sumI ys := by
    intro ys
    induction ys with
    | nil => intro _; exact Int.le_refl _
    | cons y ys ih => intro hy; rw [sumI_cons]; have := hy y (by simp); have := ih (fun z hz => hy z (by simp [hz])); omega
  refine H xs (fun y hy => ?_)
  obtain ⟨i, hi, rfl⟩ := List.mem_iff_getElem.1 hy
  have := shape_at h (k := i) (by rw [List.getElem?_eq_getElem hi])
  omega
/-- the column c has more than r cells where the row r has more than c -/
theorem above_gt {xs : List Int} (h : isShape xs = true) {r : Nat} {x j : Int} (hx : xs[r]? = some x) (hj : j < x) : r < above xs j := by
  have hr := (List.getElem?_eq_some_iff.1 hx).1
  rcases Nat.lt_or_ge r (above xs j) with h1 | h1
  · exact h1
  · have e : xs = xs.take (r + 1) ++ xs.drop (r + 1) := (List.take_append_drop _ xs).symm
    have h2 : above xs j = ((xs.take (r + 1)).filter fun x => decide (j < x)).length + ((xs.drop (r + 1)).filter fun x => decide (j < x)).length := by
      conv => lhs; unfold above; rw [e]
      rw [List.filter_append, List.length_append]
    have e1 : (xs.take (r + 1)).filter (fun x => decide (j < x)) = xs.take (r + 1) := by
      rw [List.filter_eq_self]
      intro y hy
      obtain ⟨i, hi, rfl⟩ := List.mem_iff_getElem.1 hy
      simp only [List.length_take] at hi
      have := shape_down h (i := i) (k := r) (by omega) hr
      rw [List.getElem_take]
      rw [getD_of hx, List.getD_eq_getElem?_getD, List.getElem?_eq_getElem (by omega)] at this
      simp at this ⊢
      omega
    rw [e1, List.length_take] at h2
    omega
theorem hook_pos {xs : List Int} (h : isShape xs = true) {r c : Nat} {x : Int} (hx : xs[r]? = some x) (hc : (c : Int) < x) : 1 ≤ hookAt xs r c := by
  have := above_gt h hx hc
  unfold hookAt
  rw [getD_of hx]
  omega
theorem div_bd {N D M : Int} (h : 0 ≤ N ∧ N ≤ M) (hD : 1 ≤ D) : 0 ≤ N / D ∧ N / D ≤ M :=
  ⟨Int.ediv_nonneg h.1 (by omega), Int.le_trans (Int.ediv_le_self _ h.1) h.2⟩
theorem rowDiv_bd {xs : List Int} (h : isShape xs = true) {r : Nat} {x : Int} (hx : xs[r]? = some x) {N M : Int} (hN : 0 ≤ N ∧ N ≤ M) : ∀ c : Nat, (c : Int) ≤ x → 0 ≤ rowDiv xs r c N ∧ rowDiv xs r c N ≤ M := by
  intro c
  induction c with
  | zero => intro _; exact hN
  | succ c ih => intro hc; exact div_bd (ih (by omega)) (hook_pos h hx (by omega))
theorem allDiv_bd {xs : List Int} (h : isShape xs = true) {N M : Int} (hN : 0 ≤ N ∧ N ≤ M) : ∀ r : Nat, r ≤ xs.length → 0 ≤ allDiv xs r N ∧ allDiv xs r N ≤ M := by
  intro r
  induction r with
  | zero => intro _; exact hN
  | succ r ih =>
    intro hr
    obtain ⟨x, hx⟩ := some_at rfl (show r < xs.length by omega)
    have := shape_at h hx
    unfold allDiv
    rw [getD_of hx]
    exact rowDiv_bd h hx (ih (by omega)) _ (by omega)
theorem conj_at {xs : List Int} {c : Nat} (h : (c : Int) < xs.getD 0 0) : (conj xs)[c]? = some (above xs c : Int) := by
  unfold conj
  rw [List.getElem?_map, List.getElem?_range (by omega)]
  rfl
theorem row_head {xs : List Int} (h : isShape xs = true) {r : Nat} {x : Int} (hx : xs[r]? = some x) : x ≤ xs.getD 0 0 := by
  have := shape_down h (i := 0) (k := r) (by omega) (List.getElem?_eq_some_iff.1 hx).1
  rw [getD_of hx] at this
  exact this

theorem stdCount_big {xs : List Int} (h : isShape xs = true) {s : Nat} (hs : sumI xs = s) (h20 : 20 < s) : stdCount xs = -1 := by
  unfold stdCount
  rw [h, hs, if_neg]
  simp; omega
theorem stdCount_val {xs : List Int} (h : isShape xs = true) {s n : Nat} {F : Int} (hs : sumI xs = s) (h20 : ¬ 20 < s) (hF : (fact s : Int) = F) (hn : xs.length = n) : stdCount xs = allDiv xs n F := by
  unfold stdCount
  rw [h, hs, if_pos (by simp; omega), hn, Int.toNat_natCast, hF]

set_option maxHeartbeats 1600000 in
theorem specStd_any (a : Option Addr) (n c : Nat) (xs : List Int) (w : World) (hr : RI w a xs) (hn : xs.length = n) (hb : n ≤ 1048576) :
    Calls Try.prog 42 #[.slice a n c] w fun e w' => ∃ r, e = .returned (.int .i64 r) ∧ Hid (r = stdCount xs) ∧ Below w.heap.size w w' := by
  have Hn := Lib.hid hn; clear hn
  cases hsh : isShape xs
  · have Hs := Lib.hid hsh; clear hsh
    go_enter Try.func42, Try.ntmps42
    go_wp2_with fail
    refine (is (specIsShape_any _ _ _ xs _ hr Hn.out (by omega)) Hs.out).mono ?_
    rintro e w1 ⟨rfl, hd⟩
    go_wp2
    go_ret
    exact ⟨_, rfl, by rw [stdCount, Hs.out]; rfl, hd.below _⟩
  · have hsm := shape_small hsh
    have hs0 := shape_sum hsh
    have hlen := shape_bd hsh
    rw [Hn.out] at hlen
    obtain ⟨s, hs⟩ : ∃ s : Nat, sumI xs = s := ⟨(sumI xs).toNat, by omega⟩
    have Hs := Lib.hid hsh; clear hsh
    have HS := Lib.hid hs; clear hs hs0
    have Hsm := Lib.hid hsm; clear hsm
    by_cases h20 : 20 < s
    · go_enter Try.func42, Try.ntmps42
      go_wp2_with fail
      refine (is (specIsShape_any _ _ _ xs _ hr Hn.out (by omega)) Hs.out).mono ?_
      rintro e w1 ⟨rfl, hd⟩
      go_wp2_with fail
      refine (isInt (l1Sum_any _ _ _ xs _ (hr.drew hd) Hn.out hb Hsm.out) HS.out).mono ?_
      rintro e w2 ⟨rfl, rfl⟩
      go_wp2
      go_ret
      exact ⟨_, rfl, (stdCount_big Hs.out HS.out h20).symm, hd.below _⟩
    · go_enter Try.func42, Try.ntmps42
      go_wp2_with fail
      refine (is (specIsShape_any _ _ _ xs _ hr Hn.out (by omega)) Hs.out).mono ?_
      rintro e w1 ⟨rfl, hd⟩
      go_wp2_with fail
      refine (isInt (l1Sum_any _ _ _ xs _ (hr.drew hd) Hn.out hb Hsm.out) HS.out).mono ?_
      rintro e w2 ⟨rfl, rfl⟩
      go_wp2_with fail
      refine (specConj_any _ _ _ xs _ (hr.drew hd) Hn.out (by omega)).mono ?_
      rintro e w2 ⟨a2, n2, c2, rfl, ho2, hb2⟩
      have hB2 := (hd.below w.heap.size).trans (hb2.mono (hd.below w.heap.size).size)
      have hr2 := hr.below hB2
      have hcj : conjugate xs = conj xs := by rw [conjugate, Hs.out]; rfl
      rw [hcj] at ho2
      have hrc := ho2.ri
      have hn2 := ho2.1
      clear hcj ho2
      have HN2 := Lib.hid hn2; clear hn2
      go_wp2_with fail
      refine (isInt (l1Sum_any _ _ _ xs _ hr2 Hn.out hb Hsm.out) HS.out).mono ?_
      rintro e w3 ⟨rfl, rfl⟩
      go_wp2_with fail
      refine (l1Factorial_any _ _ (by omega)).mono ?_
      rintro e w3 ⟨rfl, rfl⟩
      have hF := fact_bd (show s ≤ 20 by omega)
      obtain ⟨F, hFe⟩ : ∃ F : Int, (fact s : Int) = F := ⟨_, rfl⟩
      have hFb : 0 ≤ F ∧ F ≤ 2432902008176640000 := by omega
      rw [hFe]
      have HF := Lib.hid hFe; clear hFe hF
      go_wp2
      go_loopw [4, 5] (fun v i wr => ∃ k : Nat, k ≤ n ∧ i = .int .i64 k ∧ v = .int .i64 (allDiv xs k F) ∧ Drew w2 wr) (fun _ i _ => n - (intOf i).toNat)
      case atStart => exact ⟨0, Nat.zero_le _, rfl, rfl, Drew.refl _⟩
      case round =>
        obtain ⟨k, hk, rfl, rfl, hdw⟩ := hrel
        obtain ⟨wo, rfl⟩ : ∃ wo : World, wo = wr := ⟨_, rfl⟩
        by_cases hlt : k < n
        · obtain ⟨x, hx⟩ := some_at Hn.out hlt
          have hxb := shape_at Hs.out hx
          obtain ⟨N, hNe⟩ : ∃ N, allDiv xs k F = N := ⟨_, rfl⟩
          have hNb : 0 ≤ N ∧ N ≤ 2432902008176640000 := by rw [← hNe]; exact allDiv_bd Hs.out hFb k (by rw [Hn.out]; omega)
          rw [hNe]
          have HN := Lib.hid hNe; clear hNe
          have Hx := Lib.hid hx; clear hx
          go_wp2
          go_loopw [4, 6] (fun v i wr => ∃ m : Nat, (m : Int) ≤ x ∧ i = .int .i64 m ∧ v = .int .i64 (rowDiv xs k m N) ∧ Drew w2 wr) (fun _ i _ => x.toNat - (intOf i).toNat)
          case atStart => exact ⟨0, by omega, rfl, rfl, hdw⟩
          case round =>
            clear hdw
            obtain ⟨m, hm, rfl, rfl, hdw⟩ := hrel
            obtain ⟨b, off, rfl, hcell⟩ := (hr2.drew hdw).at (k := k) (by rw [Hn.out]; exact hlt)
            have hc := hcell k x Hx.out
            clear hcell
            by_cases hmx : (m : Int) < x
            · have hhd := row_head Hs.out Hx.out
              have hcv := conj_at (xs := xs) (c := m) (by omega)
              obtain ⟨b2, off2, rfl, hcell2⟩ := (hrc.drew hdw).at (k := m) (by rw [conj_length]; omega)
              have hc2 := hcell2 m _ hcv
              have habv := above_gt Hs.out Hx.out hmx
              have habl := above_le xs m
              rw [Hn.out] at habl
              have hmn2 : (m : Int) < (n2 : Int) := by rw [← HN2.out, conj_length]; omega
              have hhk := hook_pos Hs.out Hx.out hmx
              have hst : rowDiv xs k (m + 1) N = rowDiv xs k m N / hookAt xs k m := rfl
              rw [hookAt, getD_of Hx.out] at hhk hst
              obtain ⟨R, hRe⟩ : ∃ R, rowDiv xs k m N = R := ⟨_, rfl⟩
              have hRb : 0 ≤ R ∧ R ≤ 2432902008176640000 := by rw [← hRe]; exact rowDiv_bd Hs.out Hx.out hNb m (by omega)
              rw [hRe] at hst ⊢
              obtain ⟨V, hV⟩ : ∃ V : Nat, above xs m = V := ⟨_, rfl⟩
              rw [hV] at hst habl habv hhk hc2
              have HST := Lib.hid hst
              have hkn : (k : Int) < (n : Int) := by omega
              clear hst hRe hV hcell2 hcv hhd
              have q1 : IntKind.i64.wrap (x - (m : Int)) = x - (m : Int) := IntWalk.i64_in _ (by omega)
              have q2 : IntKind.i64.wrap (x - (m : Int) + (V : Int)) = x - (m : Int) + (V : Int) := IntWalk.i64_in _ (by omega)
              have q3 : IntKind.i64.wrap (x - (m : Int) + (V : Int) - (k : Int)) = x - (m : Int) + (V : Int) - (k : Int) := IntWalk.i64_in _ (by omega)
              have q4 : IntKind.i64.wrap (x - (m : Int) + (V : Int) - (k : Int) - 1) = x - (m : Int) + (V : Int) - (k : Int) - 1 := IntWalk.i64_in _ (by omega)
              have q5 : IntKind.i64.wrap (R.tdiv (x - (m : Int) + (V : Int) - (k : Int) - 1)) = R / (x - (m : Int) + (V : Int) - (k : Int) - 1) := IntWalk.i64_quo _ _ (by omega)
              have q6 : (x - (m : Int) + (V : Int) - (k : Int) - 1 == 0) = false := by rw [beq_eq_false_iff_ne]; omega
              go_wp2
              go_quiet (fail)
              clear q1 q2 q3 q4 q5 q6
              go_wp2
              go_roundw
              case rel => exact ⟨m + 1, by omega, by go_num, by rw [HST.out], hdw.trans (Drew.drewN _ _)⟩
              case measure => simp [intOf]; omega
            · go_wp2
              go_roundw
              case rel =>
                refine ⟨k + 1, by omega, by go_num, ?_, hdw⟩
                have : x.toNat = m := by omega
                unfold allDiv
                rw [getD_of Hx.out, this, HN.out]
              case measure => simp [intOf]; omega
        · obtain rfl : k = n := by omega
          go_wp2
          go_ret
          exact ⟨_, rfl, (stdCount_val Hs.out HS.out h20 HF.out Hn.out).symm, hB2.trans (hdw.below _)⟩

theorem fact_step (k : Nat) : fact (k + 1) = (k + 1) * fact k := rfl

set_option maxHeartbeats 1600000 in
theorem implStd_any (a : Option Addr) (n c : Nat) (xs : List Int) (w : World) (hr : RI w a xs) (hn : xs.length = n) (hb : n ≤ 1048576) :
    Calls Try.prog 29 #[.slice a n c] w fun e w' => ∃ r, e = .returned (.int .i64 r) ∧ Hid (r = stdCount xs) ∧ Below w.heap.size w w' := by
  have Hn := Lib.hid hn; clear hn
  cases hsh : isShape xs
  · have Hs := Lib.hid hsh; clear hsh
    go_enter Try.func29, Try.ntmps29
    go_wp2_with fail
    refine (is (implIsShape_any _ _ _ xs _ hr Hn.out (by omega)) Hs.out).mono ?_
    rintro e w1 ⟨rfl, hd⟩
    go_wp2
    go_ret
    exact ⟨_, rfl, by rw [stdCount, Hs.out]; rfl, hd.below _⟩
  · have hsm := shape_small hsh
    have hs0 := shape_sum hsh
    have hlen := shape_bd hsh
    rw [Hn.out] at hlen
    obtain ⟨s, hs⟩ : ∃ s : Nat, sumI xs = s := ⟨(sumI xs).toNat, by omega⟩
    have Hs := Lib.hid hsh; clear hsh
    have HS := Lib.hid hs; clear hs hs0
    have Hsm := Lib.hid hsm; clear hsm
    by_cases h20 : 20 < s
    · go_enter Try.func29, Try.ntmps29
      go_wp2_with fail
      refine (is (implIsShape_any _ _ _ xs _ hr Hn.out (by omega)) Hs.out).mono ?_
      rintro e w1 ⟨rfl, hd⟩
      go_wp2_with fail
      refine (isInt (sumImpl_any _ _ _ xs _ (hr.drew hd) Hn.out hb Hsm.out) HS.out).mono ?_
      rintro e w2 ⟨rfl, rfl⟩
      go_wp2
      go_ret
      exact ⟨_, rfl, (stdCount_big Hs.out HS.out h20).symm, hd.below _⟩
    · go_enter Try.func29, Try.ntmps29
      go_wp2_with fail
      refine (is (implIsShape_any _ _ _ xs _ hr Hn.out (by omega)) Hs.out).mono ?_
      rintro e w1 ⟨rfl, hd⟩
      have hr1 := hr.drew hd
      go_wp2_with fail
      refine (isInt (sumImpl_any _ _ _ xs _ hr1 Hn.out hb Hsm.out) HS.out).mono ?_
      rintro e w2 ⟨rfl, rfl⟩
      go_wp2
      go_loop [3, 4] (fun v i => ∃ k : Nat, k ≤ s + 1 ∧ 1 ≤ k ∧ i = .int .i64 (k + 1) ∧ v = .int .i64 (fact k) ∧ Hid (s ≤ k → fact k = fact s)) (fun _ i => s + 2 - (intOf i).toNat)
      case atStart => exact ⟨1, by omega, by omega, rfl, rfl, fun h => by
        match s, h with
        | 0, _ => rfl
        | 1, _ => rfl⟩
      case round =>
        obtain ⟨k, hk, hk1, rfl, rfl, HF⟩ := hrel
        by_cases hlt : k < s
        · have h1 := fact_bd (show k + 1 ≤ 20 by omega)
          have h2 := fact_bd (show k ≤ 20 by omega)
          have h3 := Lib.hid (fact_step k)
          obtain ⟨F, hF⟩ : ∃ F, fact k = F := ⟨_, rfl⟩
          have hm : (0 : Int) ≤ (F : Int) * ((k : Int) + 1) ∧ (F : Int) * ((k : Int) + 1) ≤ 2432902008176640000 := by
            have e : (F : Int) * ((k : Int) + 1) = ((fact (k + 1) : Nat) : Int) := by rw [h3.out, hF, Nat.mul_comm]; simp
            rw [e]; omega
          rw [hF] at h2 ⊢
          have HFk := Lib.hid hF; clear hF h1
          go_wp2_with fail
          refine (isInt (sumImpl_any _ _ _ xs _ hr1 Hn.out hb Hsm.out) HS.out).mono ?_
          rintro e w2 ⟨rfl, rfl⟩
          go_wp2
          go_round
          case rel => exact ⟨k + 1, by omega, by omega, by go_num, by
                rw [h3.out, HFk.out, Nat.mul_comm]
                simp, fun h => by
                obtain rfl : k + 1 = s := by omega
                rfl⟩
          case measure => simp [intOf]; omega
        · have hF := fact_bd (show s ≤ 20 by omega)
          have hfs : fact k = fact s := HF.out (by omega)
          rw [hfs]
          clear hfs HF
          have hlt' : ¬ ((k : Int) + 1 ≤ s) := by omega
          go_wp2_with fail
          refine (isInt (sumImpl_any _ _ _ xs _ hr1 Hn.out hb Hsm.out) HS.out).mono ?_
          rintro e w2 ⟨rfl, rfl⟩
          go_wp2_with fail
          refine (implConj_any _ _ _ xs _ hr1 Hn.out (by omega)).mono ?_
          rintro e w2 ⟨a2, n2, c2, rfl, ho2, hb2⟩
          have hB2 := (hd.below w.heap.size).trans (hb2.mono (hd.below w.heap.size).size)
          have hr2 := hr.below hB2
          have hcj : conjugate xs = conj xs := by rw [conjugate, Hs.out]; rfl
          rw [hcj] at ho2
          have hrc := ho2.ri
          have hn2 := ho2.1
          clear hcj ho2
          have HN2 := Lib.hid hn2; clear hn2
          obtain ⟨F, hFe⟩ : ∃ F : Int, (fact s : Int) = F := ⟨_, rfl⟩
          have hFb : 0 ≤ F ∧ F ≤ 2432902008176640000 := by omega
          rw [hFe]
          have HF := Lib.hid hFe; clear hFe hF
          go_wp2
          go_loop [3, 30] (fun v i => ∃ k : Nat, k ≤ n ∧ i = .int .i64 k ∧ v = .int .i64 (allDiv xs k F)) (fun _ i => n - (intOf i).toNat)
          case atStart => exact ⟨0, Nat.zero_le _, rfl, rfl⟩
          case round =>
            clear hk hk1 hlt hlt'
            obtain ⟨k, hk, rfl, rfl⟩ := hrel
            by_cases hlt : k < n
            · obtain ⟨x, hx⟩ := some_at Hn.out hlt
              have hxb := shape_at Hs.out hx
              obtain ⟨N, hNe⟩ : ∃ N, allDiv xs k F = N := ⟨_, rfl⟩
              have hNb : 0 ≤ N ∧ N ≤ 2432902008176640000 := by rw [← hNe]; exact allDiv_bd Hs.out hFb k (by rw [Hn.out]; omega)
              rw [hNe]
              have HN := Lib.hid hNe; clear hNe
              obtain ⟨b, off, rfl, hcell⟩ := hr2.at (k := k) (by rw [Hn.out]; exact hlt)
              have hc := hcell k x hx
              clear hcell
              have Hx := Lib.hid hx; clear hx
              go_wp2
              go_loop [3, 36] (fun v i => ∃ m : Nat, (m : Int) ≤ x ∧ i = .int .i64 m ∧ v = .int .i64 (rowDiv xs k m N)) (fun _ i => x.toNat - (intOf i).toNat)
              case atStart => exact ⟨0, by omega, rfl, rfl⟩
              case round =>
                obtain ⟨m, hm, rfl, rfl⟩ := hrel
                by_cases hmx : (m : Int) < x
                · have hhd := row_head Hs.out Hx.out
                  have hcv := conj_at (xs := xs) (c := m) (by omega)
                  obtain ⟨b2, off2, rfl, hcell2⟩ := hrc.at (k := m) (by rw [conj_length]; omega)
                  have hc2 := hcell2 m _ hcv
                  have habv := above_gt Hs.out Hx.out hmx
                  have habl := above_le xs m
                  rw [Hn.out] at habl
                  have hmn2 : (m : Int) < (n2 : Int) := by rw [← HN2.out, conj_length]; omega
                  have hhk := hook_pos Hs.out Hx.out hmx
                  have hst : rowDiv xs k (m + 1) N = rowDiv xs k m N / hookAt xs k m := rfl
                  rw [hookAt, getD_of Hx.out] at hhk hst
                  obtain ⟨R, hRe⟩ : ∃ R, rowDiv xs k m N = R := ⟨_, rfl⟩
                  have hRb : 0 ≤ R ∧ R ≤ 2432902008176640000 := by rw [← hRe]; exact rowDiv_bd Hs.out Hx.out hNb m (by omega)
                  rw [hRe] at hst ⊢
                  obtain ⟨V, hV⟩ : ∃ V : Nat, above xs m = V := ⟨_, rfl⟩
                  rw [hV] at hst habl habv hhk hc2
                  have HST := Lib.hid hst
                  clear hst hRe hV hcell2 hcv hhd
                  go_wp2
                  go_round
                  case rel => exact ⟨m + 1, by omega, by go_num, by rw [HST.out]⟩
                  case measure => simp [intOf]; omega
                · go_wp2
                  go_round
                  case rel =>
                    refine ⟨k + 1, by omega, by go_num, ?_⟩
                    have : x.toNat = m := by omega
                    unfold allDiv
                    rw [getD_of Hx.out, this, HN.out]
                  case measure => simp [intOf]; omega
            · obtain rfl : k = n := by omega
              go_wp2
              go_ret
              exact ⟨_, rfl, (stdCount_val Hs.out HS.out h20 HF.out Hn.out).symm, hB2⟩
end Go.Proofs.Ytleehkgfoicmdaa
