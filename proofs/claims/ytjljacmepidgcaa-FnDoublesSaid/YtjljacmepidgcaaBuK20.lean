/-
  DoubleSchubert of the program.
  Polynomials within the limits: few terms, small exponents, small coefficients. Plain.
-/
import Derived.Test.YtjljacmepidgcaaBuK11
import Derived.Test.YtjljacmepidgcaaBuK19
import Derived.Deep.RegionHeld3
import Derived.Test.YtjljacmepidgcaaBuK12
namespace Go.Proofs.Ytjljacmepidgcaa
open Go.RowKit Go.MapKept Go.ChangeMaps

/-! plain -/
def dblStep (i : Nat) (y : Int) (F : Mons) : Mons := plusM (raisedM i F) (-y) F
def dblIn (ys : List Int) (i : Nat) (F : Mons) : Nat → Mons
  | 0 => F
  | m + 1 => dblStep i (ys.getD m 0) (dblIn ys i F m)
def dblTo (n : Nat) (ys : List Int) : Nat → Mons
  | 0 => [(0, 1)]
  | k + 1 => dblIn ys k (dblTo n ys k) (n - 1 - k)
def dblM (xs ys : List Int) : Mons := (ups xs).foldr dividedM (dblTo xs.length ys xs.length)
theorem dblStep_eqv {i : Nat} {y : Int} {F G : Mons} (h : Eqv F G) : Eqv (dblStep i y F) (dblStep i y G) := plusM_eqv (raisedM_eqv h) h
/-- the exponents after i rows and j columns of the next -/
def db (n i j : Nat) (t : Nat) : Nat := if t < i then n - 1 - t else if t = i then j else 0
theorem Bv.dblStep {n i j : Nat} {y : Int} {F : Mons} (hi : i ≤ 6) (hj : j ≤ 100) (h : Bv (db n i j) F) : Bv (db n i (j + 1)) (Go.Proofs.Ytjljacmepidgcaa.dblStep i y F) := by
  refine Bv.plus (h.raised hi (by unfold db; simp; omega) (fun t _ hne => by unfold db; simp [hne]) (by unfold db; simp)) (h.mono fun t _ => ?_)
  unfold db
  split
  · omega
  · split <;> omega
theorem Bv.dblIn {n i : Nat} {ys : List Int} {F : Mons} (hi : i ≤ 6) (h : Bv (db n i 0) F) : ∀ m, m ≤ 100 → Bv (db n i m) (Go.Proofs.Ytjljacmepidgcaa.dblIn ys i F m) := by
  intro m
  induction m with
  | zero => intro _; exact h
  | succ m ih => intro hm; exact (ih (by omega)).dblStep hi (by omega)
theorem Bv.dblTo {n : Nat} {ys : List Int} (hn : n ≤ 7) : ∀ k, k ≤ n → Bv (db n k 0) (Go.Proofs.Ytjljacmepidgcaa.dblTo n ys k) := by
  intro k
  induction k with
  | zero =>
    intro _ p hp
    rw [Go.Proofs.Ytjljacmepidgcaa.dblTo, List.mem_singleton] at hp
    subst hp
    refine ⟨by unfold inK; omega, fun j _ => ?_⟩
    have : dig 0 j = 0 := by unfold dig; simp
    rw [this]
    omega
  | succ k ih =>
    intro hk
    refine ((ih (by omega)).dblIn (by omega) (n - 1 - k) (by omega)).mono fun t _ => ?_
    unfold db
    split
    · rw [if_pos (by omega)]; exact Nat.le_refl _
    · split
      · rename_i h1; subst h1; rw [if_pos (by omega)]; exact Nat.le_refl _
      · exact Nat.zero_le _
theorem Bv.dblTop {n : Nat} {ys : List Int} (hn : n ≤ 7) : Bv (sb n) (Go.Proofs.Ytjljacmepidgcaa.dblTo n ys n) := (Bv.dblTo hn n (Nat.le_refl _)).mono fun t _ => by
  unfold db sb
  split
  · omega
  · split <;> omega
theorem sb_low {n : Nat} (hn : n ≤ 7) {F : Mons} (h : Bv (sb n) F) : ∀ l : List Nat, (∀ k ∈ l, k + 1 < n) → Bv (sb n) (l.foldr dividedM F) := by
  intro l
  induction l with
  | nil => intro _; exact h
  | cons k l ih =>
    intro hl
    have hk := hl k List.mem_cons_self
    exact (ih fun q hq => hl q (List.mem_cons_of_mem _ hq)).sb_divided (by omega) hk
def In9 (ys : List Int) : Prop := ∀ y ∈ ys, -9 ≤ y ∧ y ≤ 9
def dblIok (xs ys : List Int) : Bool := isPerm xs && decide (xs.length ≤ 5) && decide (ys.length = xs.length) && ys.all fun y => decide (-9 ≤ y ∧ y ≤ 9)
def dblT (xs ys : List Int) : List (List Int × Int) := if dblIok xs ys = true then closedT (dblM xs ys) else []
def dblOk (xs ys : List Int) : Bool := dblIok xs ys && polyOk (termsM (dblM xs ys))
theorem dbl_no {xs ys : List Int} (h : dblIok xs ys = false) : dblT xs ys = [] ∧ dblOk xs ys = false := by
  unfold dblT dblOk
  rw [h]
  exact ⟨rfl, rfl⟩
theorem dbl_yes {xs ys : List Int} (h : dblIok xs ys = true) : dblT xs ys = closedT (dblM xs ys) ∧ dblOk xs ys = polyOk (termsM (dblM xs ys)) := by
  unfold dblT dblOk
  rw [h]
  exact ⟨if_pos rfl, rfl⟩
theorem dblT_cases (xs ys : List Int) : dblT xs ys = [] ∨ ∃ F, dblT xs ys = closedT F := by
  unfold dblT
  split
  · exact .inr ⟨_, rfl⟩
  · exact .inl rfl
theorem dblT_len (xs ys : List Int) : (dblT xs ys).length ≤ 1048576 := by
  rcases dblT_cases xs ys with e | ⟨F, e⟩
  · rw [e]; exact Nat.zero_le _
  · rw [e]; have := closedT_len F; omega
theorem dblT_sz (xs ys : List Int) : sz_T (dblT xs ys) ≤ 1099511627776 := by
  rcases dblT_cases xs ys with e | ⟨F, e⟩
  · rw [e]; exact Nat.zero_le _
  · rw [e, sz_T_sevens closedT_each]; have := closedT_len F; omega
theorem dblT_short (xs ys : List Int) : ∀ p ∈ dblT xs ys, p.1.length ≤ 1048576 := by
  rcases dblT_cases xs ys with e | ⟨F, e⟩
  · rw [e]; simp
  · rw [e]; intro p hp; rw [closedT_each p hp]; omega
theorem dblIok_false {xs ys : List Int} (h : isPerm xs = false ∨ 5 < xs.length ∨ ys.length ≠ xs.length ∨ ∃ (k : Nat) (y : Int), ys[k]? = some y ∧ ¬ (-9 ≤ y ∧ y ≤ 9)) : dblIok xs ys = false := by
  cases hk : dblIok xs ys with
  | false => rfl
  | true =>
    unfold dblIok at hk
    simp only [Bool.and_eq_true, decide_eq_true_eq, List.all_eq_true] at hk
    rcases h with h | h | h | ⟨k, y, hy, h⟩
    · rw [h] at hk; cases hk.1.1.1
    · omega
    · exact absurd hk.1.2 h
    · exact absurd (hk.2 y (List.mem_of_getElem? hy)) h
theorem dblIok_true {xs ys : List Int} (hp : isPerm xs = true) (h5 : xs.length ≤ 5) (hl : ys.length = xs.length) (h9 : In9 ys) : dblIok xs ys = true := by
  unfold dblIok
  simp only [Bool.and_eq_true, decide_eq_true_eq, List.all_eq_true]
  exact ⟨⟨⟨hp, h5⟩, hl⟩, h9⟩

/-! the program -/
theorem kV_zero : kV 0 = .agg #[.int .i64 0, .int .i64 0, .int .i64 0, .int .i64 0, .int .i64 0, .int .i64 0, .int .i64 0] := by
  unfold kV
  have : ∀ j, dig 0 j = 0 := fun j => by unfold dig; simp
  simp only [this]
def in9 (y : Int) : Bool := decide (-9 ≤ y ∧ y ≤ 9)
set_option maxRecDepth 100000 in
set_option maxHeartbeats 1600000 in
theorem shiftsOk_any (a : Option Addr) (n c m : Nat) (ys : List Int) (w : World) (hr : RI w a ys) (hn : ys.length = n) (hb : n ≤ 1048576) :
    Calls Try.prog 20 #[.slice a n c, .int .i64 m] w fun e w' => e = .returned (.bool (ys.all in9 && decide (n = m))) ∧ w = w' := by
  have Hn := Lib.hid hn; clear hn
  go_enter Try.func20, Try.ntmps20
  go_wp2
  go_loop [9] (fun kv => ∃ k : Nat, kv = .int .i64 k ∧ k ≤ n ∧ Hid (∀ (j : Nat) (y : Int), j < k → ys[j]? = some y → in9 y = true)) (fun kv => n - (intOf kv).toNat)
  case atStart => exact ⟨0, rfl, Nat.zero_le _, fun j _ hj => by omega⟩
  case round =>
    obtain ⟨k, rfl, hk, H9⟩ := hrel
    by_cases hlt : k < n
    · obtain ⟨x, hx⟩ := some_at Hn.out hlt
      obtain ⟨b1, off, rfl, hcell⟩ := hr.at (k := k) (by rw [Hn.out]; omega)
      have p1 := hcell k x hx
      have q3 : (k : Int) < (n : Int) := by omega
      have Hx := Lib.hid hx
      clear hcell hx
      have bad : ¬ (-9 ≤ x ∧ x ≤ 9) → Hid (false = (ys.all in9 && decide (n = m))) := fun h => by
        have : ys.all in9 = false := by
          rw [List.all_eq_false]
          exact ⟨x, List.mem_of_getElem? Hx.out, by simp [in9]; omega⟩
        rw [this]
        exact rfl
      have Hbad := Lib.hid bad
      clear bad
      by_cases hx0 : x < -9
      · have HF := Hbad.out (by omega)
        clear Hbad
        go_wp2
        go_ret
        exact ⟨ret_bool HF.out, rfl⟩
      · by_cases hx4 : 9 < x
        · have HF := Hbad.out (by omega)
          clear Hbad
          go_wp2
          go_ret
          exact ⟨ret_bool HF.out, rfl⟩
        · have H42 := Lib.hid (show ∀ (j : Nat) (y : Int), j < k + 1 → ys[j]? = some y → in9 y = true from fun j y hj hy => by
            rcases Nat.lt_or_ge j k with h | h
            · exact H9.out j y h hy
            · obtain rfl : j = k := by omega
              rw [Hx.out] at hy
              obtain rfl := Option.some.inj hy
              simp [in9]
              omega)
          clear Hbad
          go_wp2
          go_round
          case rel => exact ⟨k + 1, by go_num, by omega, H42.out⟩
          case measure => simp [intOf]; omega
    · obtain rfl : k = n := by omega
      have Hall := Lib.hid (show ys.all in9 = true by
        rw [List.all_eq_true]
        intro y hy
        obtain ⟨j, hj⟩ := List.getElem?_of_mem hy
        exact H9.out j y (by have := lt_of_some hj; rw [Hn.out] at this; exact this) hj)
      go_wp2
      go_ret
      refine ⟨ret_bool ?_, rfl⟩
      rw [Hall.out, Bool.true_and]
      by_cases e : k = m
      · subst e; simp
      · have e' : ¬ (k : Int) = (m : Int) := by omega
        simp [e, e']

set_option maxRecDepth 100000 in
set_option maxHeartbeats 3200000 in
theorem implDouble_any (a : Option Addr) (n c : Nat) (xs : List Int) (a' : Option Addr) (n' c' : Nat) (ys : List Int) (w : World) (hr : RI w a xs) (hn : xs.length = n) (hb : n ≤ 5) (hr' : RI w a' ys) (hn' : ys.length = n) (hnn : n' = n) (h9 : In9 ys) :
    Calls Try.prog 22 #[.slice a n c, .slice a' n' c'] w fun e w' => ∃ r, e = .returned (.map (some r)) ∧ PF w' r (dblM xs ys) ∧ Below w.heap.size w w' := by
  subst hnn
  have Hn := Lib.hid hn
  have Hn' := Lib.hid hn'
  have H9 := Lib.hid h9
  have hmm := @run_makeMap Try.prog
  obtain ⟨U, hU⟩ : ∃ U, w.alloc (.map #[] 0) = U := ⟨_, rfl⟩
  have hBU : Below w.heap.size w U := by rw [← hU]; exact (Below.refl _ _).alloc (Nat.le_refl _) _
  have hM : PF U w.heap.size [] := by rw [← hU]; exact PF.made w
  obtain ⟨w3, hup, hM3, hg3⟩ := hM.store (k := 0) (c := 1) (by unfold inK; omega) (by unfold in64; omega) (by decide) (coef_miss (by simp))
  have HB3 := Lib.hid (below_of_grown hBU hg3 hBU.size (Nat.le_refl _))
  have HM3 := Lib.hid hM3
  rw [kV_zero] at hup
  have hq : n' ≤ 5 := hb
  clear hM3 hM hg3 hBU hn hn' h9 hb
  go_enter Try.func22, Try.ntmps22
  go_wp2
  go_loopw [6, 15] (fun tv iv wr => Hid (∃ (i r : Nat), iv = .int .i64 i ∧ i ≤ n' ∧ tv = .map (some r) ∧ PF wr r (dblTo n' ys i)) ∧ Below w.heap.size w wr) (fun _ iv _ => n' - (intOf iv).toNat)
  case atStart => exact ⟨⟨0, _, rfl, Nat.zero_le _, rfl, HM3.out⟩, HB3.out⟩
  case round =>
    clear HM3 HB3 hup hU
    obtain ⟨HV, hB⟩ := hrel
    obtain ⟨wo, rfl⟩ : ∃ wo : World, wo = wr := ⟨_, rfl⟩
    obtain ⟨i, r, rfl, hi, rfl, hF⟩ := HV.out
    clear HV
    by_cases hlt : i < n'
    · have HF := Lib.hid hF
      clear hF
      obtain ⟨m, hm⟩ : ∃ m, n' - 1 - i = m := ⟨_, rfl⟩
      have q1 : (i : Int) < (n' : Int) := by omega
      have q3 : (n' : Int) - 1 - (i : Int) = (m : Int) := by omega
      have q4 : IntKind.i64.wrap ((n' : Int) - 1 - (i : Int)) = (m : Int) := by rw [IntWalk.i64_in _ (by omega)]; omega
      have hm6 : m ≤ 6 := by omega
      have hmn : m ≤ n' := by omega
      have HD := Lib.hid (show dblTo n' ys (i + 1) = dblIn ys i (dblTo n' ys i) m by rw [dblTo, hm])
      have HBv := Lib.hid (show Bv (db n' i 0) (dblTo n' ys i) from Bv.dblTo (by omega) i hi)
      clear hm
      go_wp2
      clear q3 q4
      go_loopw [6, 22] (fun tv jv wr => Hid (∃ (j r : Nat), jv = .int .i64 j ∧ j ≤ m ∧ tv = .map (some r) ∧ PF wr r (dblIn ys i (dblTo n' ys i) j)) ∧ Below w.heap.size w wr) (fun _ jv _ => m - (intOf jv).toNat)
      case atStart => exact ⟨⟨0, r, rfl, Nat.zero_le _, rfl, HF.out⟩, hB⟩
      case round =>
        clear HF hB
        obtain ⟨HV, hB⟩ := hrel
        obtain ⟨wi, rfl⟩ : ∃ wi : World, wi = wr := ⟨_, rfl⟩
        obtain ⟨j, r, rfl, hj, rfl, hF⟩ := HV.out
        clear HV
        by_cases hlt2 : j < m
        · obtain ⟨y, hy⟩ := some_at Hn'.out (show j < n' by omega)
          obtain ⟨b1, off, rfl, hcell⟩ := (hr'.below hB).at (k := j) (by rw [Hn'.out]; omega)
          have p1 := hcell j y hy
          have hy9 := H9.out y (List.mem_of_getElem? hy)
          have q2 : (j : Int) < (m : Int) := by omega
          have q5 : (j : Int) < (n' : Int) := by omega
          have q6 : (0 : Int) ≤ (j : Int) := by omega
          have q7 : IntKind.i64.wrap (-y) = -y := IntWalk.i64_in _ (by omega)
          have hbz : b1 < wi.heap.size := World.block_lt_of_cell? _ _ p1
          have S_of : ∀ w2, Below wi.heap.size wi w2 → w2.cell? ⟨b1, off + j, none⟩ = some (.int .i64 y) := by
            intro w2 hb2
            rw [hb2.cell (p := ⟨b1, off + j, none⟩) hbz]; exact p1
          have HSt := Lib.hid (show dblIn ys i (dblTo n' ys i) (j + 1) = dblStep i y (dblIn ys i (dblTo n' ys i) j) by rw [dblIn, getD_of hy])
          have HBj := Lib.hid (HBv.out.dblIn (ys := ys) (by omega) j (by omega))
          have Htop := Lib.hid (show ∀ p ∈ canon (dblIn ys i (dblTo n' ys i) j), dig p.1 i ≤ 126 from fun p hp => Int.le_trans ((HBj.out.canon p hp).2 i (by omega)) (by unfold db; simp; omega))
          have HF := Lib.hid (fun w2 (h : Below wi.heap.size wi w2) => hF.below h)
          have d0 : Below wi.heap.size wi wi := Below.refl _ _
          have d1 : Below wi.heap.size wi wi.drew := Drew.below ⟨1, rfl⟩ _
          clear hcell hy hF
          go_wp2
          go_region_held3 (fun w' => w'.cell? ⟨b1, off + j, none⟩ = some (.int .i64 y)) ((first | exact S_of _ d0 | exact S_of _ d1 | exact S_of _ ‹_›))
            ((first | (go_at_call 39; refine (raised_any r i _ _ _ (HF.out _ (by first | exact d0 | exact d1)) rfl (by omega) Htop.out).mono ?_; rintro e w1 ⟨r1, rfl, _, hF1, hb1⟩; have d2 := Below.trans d1 (hb1.mono (Below.size d1))) | (go_at_call 38; refine (plus_any _ _ _ _ _ _ hF1 (HF.out _ d2)).mono ?_; rintro e w2 ⟨r2, rfl, _, hF2, hb2⟩; have d3 := d2.trans (hb2.mono d2.size))))
          have hB2 := hB.trans (d3.mono hB.size)
          have HF2 := Lib.hid (show PF w2 r2 (dblIn ys i (dblTo n' ys i) (j + 1)) by rw [HSt.out]; exact hF2)
          clear hF2 hF1 S_of d0 d1 d2 d3 hb1 hb2
          go_wp2
          go_roundw
          case rel => exact ⟨⟨j + 1, _, by go_num, by omega, rfl, HF2.out⟩, hB2⟩
          case measure => simp [intOf]; omega
        · obtain rfl : j = m := by omega
          have HF := Lib.hid (show PF wi r (dblTo n' ys (i + 1)) by rw [HD.out]; exact hF)
          clear hF
          go_wp2
          go_roundw
          case rel => exact ⟨⟨i + 1, r, by go_num, by omega, rfl, HF.out⟩, hB⟩
          case measure => simp [intOf]; omega
    · obtain rfl : i = n' := by omega
      have hr2 := hr.below hB
      have HF := Lib.hid hF
      have HS := Lib.hid (Bv.dblTop (n := i) (ys := ys) (by omega))
      clear hF
      go_wp2_with fail
      refine (lowered_any 41 (fun args w => by kernel_rfl) dividedM (Bv (sb i)) i (by omega) (fun k F hk h => h.sb_divided (by omega) hk) (fun b k I F w hF hI hk _ => divided_any b k I F w hF hI (by omega)) (nin xs + 1) _ _ _ xs _ r _ (Nat.lt_succ_self _) hr2 Hn.out (Nat.le_refl _) HF.out HS.out).mono ?_
      rintro e w4 ⟨r4, rfl, hF4, _, hb4⟩
      have hB4 := hB.trans (hb4.mono hB.size)
      have HF4 := Lib.hid (show PF w4 r4 (dblM xs ys) by unfold dblM; rw [Hn.out]; exact hF4)
      clear hF4
      go_wp2
      go_ret
      exact ⟨_, rfl, HF4.out, hB4⟩
end Go.Proofs.Ytjljacmepidgcaa

namespace Go.Proofs.Ytjljacmepidgcaa
open Go.RowKit

theorem canon_len_eqv {F G : Mons} (h : Eqv F G) : (canon F).length = (canon G).length := by rw [canon_eqv h]
theorem canon_length (F : Mons) : (canon F).length = (keysOf F).length := by simp [canon]
theorem raw_app (F G : Mons) (k : Int) : raw (F ++ G) k = raw F k + raw G k := wsum_append F G _
theorem coef_app_zero {F G : Mons} {k : Int} (h1 : coef F k = 0) (h2 : coef G k = 0) : coef (F ++ G) k = 0 := by
  unfold coef at *
  rw [raw_app, ← wrap_addl, ← wrap_addr, h1, h2]
  exact wrap_zero
theorem canon_len_append (F G : Mons) : (canon (F ++ G)).length ≤ (canon F).length + (canon G).length := by
  rw [canon_length, canon_length, canon_length, ← List.length_append]
  refine (keysOf_nodup (F ++ G)).length_le_of_subset fun k hk => ?_
  rw [mem_keysOf] at hk
  rw [List.mem_append, mem_keysOf, mem_keysOf]
  rcases Decidable.em (coef F k = 0) with h1 | h1
  · rcases Decidable.em (coef G k = 0) with h2 | h2
    · exact absurd (coef_app_zero h1 h2) hk
    · exact .inr h2
  · exact .inl h1
theorem wsum_scale (c : Int) (F : Mons) (v : Int → Int) : wsum (scaleM c F) v = c * wsum F v := by
  induction F with
  | nil => simp [scaleM, wsum]
  | cons p F ih =>
    have e : scaleM c (p :: F) = (p.1, c * p.2) :: scaleM c F := rfl
    rw [e, wsum, ih, wsum, Int.mul_add, Int.mul_assoc]
theorem coef_scale_zero {F : Mons} {c k : Int} (h : coef F k = 0) : coef (scaleM c F) k = 0 := by
  unfold coef raw at *
  rw [wsum_scale, ← wrap_mul, h, Int.mul_zero]
  exact wrap_zero
theorem canon_len_scale (c : Int) (F : Mons) : (canon (scaleM c F)).length ≤ (canon F).length := by
  rw [canon_length, canon_length]
  refine (keysOf_nodup (scaleM c F)).length_le_of_subset fun k hk => ?_
  rw [mem_keysOf] at hk ⊢
  exact fun h => hk (coef_scale_zero h)
structure GoodM (n C : Nat) (F : Mons) : Prop where
  bd : Bd 24 F
  few : (canon F).length ≤ n
  low : ∀ k, -(C : Int) ≤ raw F k ∧ raw F k ≤ C
theorem GoodM.mono {n C m D : Nat} {F : Mons} (h : GoodM n C F) (hn : n ≤ m) (hC : C ≤ D) : GoodM m D F :=
  ⟨h.bd, Nat.le_trans h.few hn, fun k => by have := h.low k; omega⟩
theorem GoodM.nil : GoodM 0 0 [] := ⟨fun p hp => (by cases hp), by simp [canon, keysOf, uniq], fun k => by simp [raw, wsum]⟩
theorem GoodM.append {n C m D : Nat} {F G : Mons} (h : GoodM n C F) (h' : GoodM m D G) : GoodM (n + m) (C + D) (F ++ G) :=
  ⟨h.bd.append h'.bd, Nat.le_trans (canon_len_append F G) (Nat.add_le_add h.few h'.few), fun k => by
    have := h.low k
    have := h'.low k
    rw [raw_app]
    omega⟩
theorem mul_range {a b : Int} {C D : Nat} (ha : -(C : Int) ≤ a ∧ a ≤ C) (hb : -(D : Int) ≤ b ∧ b ≤ D) : -((C * D : Nat) : Int) ≤ a * b ∧ a * b ≤ ((C * D : Nat) : Int) := by
  have h1 : a.natAbs ≤ C := by omega
  have h2 : b.natAbs ≤ D := by omega
  have h3 : (a * b).natAbs ≤ C * D := by rw [Int.natAbs_mul]; exact Nat.mul_le_mul h1 h2
  omega
theorem GoodM.scale {n C D : Nat} {F : Mons} (h : GoodM n C F) {c : Int} (hc : -(D : Int) ≤ c ∧ c ≤ D) : GoodM n (D * C) (scaleM c F) :=
  ⟨h.bd.scale, Nat.le_trans (canon_len_scale c F) h.few, fun k => by
    unfold raw
    rw [wsum_scale]
    exact mul_range hc (h.low k)⟩
theorem GoodM.plus {n C m D E : Nat} {F G : Mons} (h : GoodM n C F) (h' : GoodM m D G) {c : Int} (hc : -(E : Int) ≤ c ∧ c ≤ E) : GoodM (n + m) (C + E * D) (plusM F c G) := h.append (h'.scale hc)
theorem GoodM.canon {n C : Nat} {F : Mons} (h : GoodM n C F) (hC : C ≤ 1000000) : GoodM n C (canon F) :=
  ⟨h.bd.canon, by rw [canon_len_eqv (canon_self F)]; exact h.few, fun k => by
    have e : raw (Go.Proofs.Ytjljacmepidgcaa.canon F) k = coef F k := by
      unfold Go.Proofs.Ytjljacmepidgcaa.canon
      rw [raw_map (keysOf_nodup F)]
      split
      · rfl
      · rename_i hk
        rw [mem_keysOf] at hk
        exact (Decidable.not_not.1 hk).symm
    rw [e]
    have := h.low k
    unfold coef
    rw [wrap_self (by omega)]
    exact this⟩
theorem termsM_at {F : Mons} {k : Nat} {t : List Int × Int} (h : (termsM F)[k]? = some t) : ∃ p, (canon F)[k]? = some p ∧ t = term p := by
  unfold termsM at h
  rw [List.getElem?_map] at h
  cases hp : (canon F)[k]? with
  | none => rw [hp] at h; cases h
  | some p => rw [hp] at h; exact ⟨p, rfl, by simpa using h.symm⟩
theorem GoodM.ok {F : Mons} (h : GoodM 600 1000000 F) : polyOk (termsM F) = true := by
  unfold polyOk
  rw [Bool.and_eq_true, decide_eq_true_eq, List.all_eq_true]
  refine ⟨by unfold termsM; rw [List.length_map]; exact h.few, fun k hk => ?_⟩
  rw [List.mem_range] at hk
  obtain ⟨t, ht⟩ : ∃ t, (termsM F)[k]? = some t := ⟨_, List.getElem?_eq_getElem hk⟩
  obtain ⟨p, hp, rfl⟩ := termsM_at ht
  have hb := h.bd.canon p (List.mem_of_getElem? hp)
  obtain ⟨hc1, hc2⟩ := canon_mem.1 (List.mem_of_getElem? hp)
  have hl := h.low p.1
  have hc3 : p.2 = raw F p.1 := by rw [hc2]; unfold coef; rw [wrap_self (by omega)]
  unfold termAt
  rw [termOf_at ht, Bool.and_eq_true, Bool.and_eq_true]
  refine ⟨⟨?_, ?_⟩, ?_⟩
  · unfold headOk coefOk term
    simp only [digs_length, Bool.and_eq_true, decide_eq_true_eq]
    exact ⟨trivial, hc1, by omega, by omega⟩
  · rw [List.all_eq_true]
    intro x hx
    unfold term digs at hx
    simp only [List.mem_map, List.mem_range] at hx
    obtain ⟨i, hi, rfl⟩ := hx
    have h1 := hb.2 i hi
    have h2 := dig_range p.1 i
    unfold small
    rw [decide_eq_true_eq]
    omega
  · cases k with
    | zero => rfl
    | succ k =>
      obtain ⟨t', ht'⟩ : ∃ t, (termsM F)[k]? = some t := ⟨_, List.getElem?_eq_getElem (by omega)⟩
      obtain ⟨q, hq, rfl⟩ := termsM_at ht'
      have hb' := h.bd.canon q (List.mem_of_getElem? hq)
      rw [Nat.add_sub_cancel, termOf_at ht']
      unfold term
      simp only
      rw [keyL_digs hb.1, keyL_digs hb'.1]
      obtain ⟨hk1, e1⟩ := List.getElem?_eq_some_iff.1 hp
      obtain ⟨hk2, e2⟩ := List.getElem?_eq_some_iff.1 hq
      have := List.pairwise_iff_getElem.1 (canon_sorted F) k (k + 1) hk2 hk1 (by omega)
      rw [e1, e2] at this
      simp [this]
theorem monsOf_terms {F : Mons} (h : Bd 24 F) : monsOf (termsM F) = canon F := by
  unfold monsOf termsM
  rw [List.map_map]
  conv => rhs; rw [← List.map_id (canon F)]
  refine List.map_congr_left fun p hp => ?_
  have := (h.canon p hp).1
  simp only [Function.comp, term, id]
  rw [keyL_digs this]
/-- a polynomial within the limits -/
structure OKp (F : Mons) : Prop where
  bd : Bd 24 F
  ok : polyOk (termsM F) = true
theorem GoodM.okp {F : Mons} {n C : Nat} (h : GoodM n C F) (hn : n ≤ 600) (hC : C ≤ 1000000) : OKp F := ⟨h.bd, (h.mono hn hC).ok⟩
theorem OKp.len {F : Mons} (h : OKp F) : (termsM F).length ≤ 600 := polyOk_len h.ok
theorem termsM_eqv {F G : Mons} (h : Eqv F G) : termsM F = termsM G := by unfold termsM; rw [canon_eqv h]
theorem termsM_op {op : Mons → Mons} (hop : ∀ {F G : Mons}, Eqv F G → Eqv (op F) (op G)) {F : Mons} (h : OKp F) : termsM (op (monsOf (termsM F))) = termsM (op F) := by
  rw [monsOf_terms h.bd]
  exact termsM_eqv (hop (canon_self F))
theorem closedT_op {op : Mons → Mons} (hop : ∀ {F G : Mons}, Eqv F G → Eqv (op F) (op G)) {F : Mons} (h : OKp F) (hR : OKp (op F)) : closedT (op (monsOf (termsM F))) = termsM (op F) := by
  have e := termsM_op (fun h => hop h) h
  rw [closedT_ok (by rw [e]; exact hR.ok), e]
end Go.Proofs.Ytjljacmepidgcaa
