/-
  KeyPoly of the program.
-/
import Derived.Test.YtocgcgmlemoekaaAppZ
import Derived.Test.YtocgcgmlemoekaaBuS
namespace Go.Proofs.Ytocgcgmlemoekaa
open Go.RowKit Go.MapKept

def keyIn (xs : List Int) : Bool := decide (1 ≤ xs.length) && decide (xs.length ≤ 5) && xs.all fun x => decide (0 ≤ x ∧ x ≤ 4)
def keyM (xs : List Int) : Mons := (ups xs).foldr demM [(keyL (fell xs), 1)]
def keyT (xs : List Int) : List (List Int × Int) := if keyIn xs = true then closedT (keyM xs) else []
def keyOk (xs : List Int) : Bool := keyIn xs && polyOk (termsM (keyM xs))
theorem key_no {xs : List Int} (h : keyIn xs = false) : keyT xs = [] ∧ keyOk xs = false := by
  unfold keyT keyOk
  rw [h]
  exact ⟨rfl, rfl⟩
theorem key_yes {xs : List Int} (h : keyIn xs = true) : keyT xs = closedT (keyM xs) ∧ keyOk xs = polyOk (termsM (keyM xs)) := by
  unfold keyT keyOk
  rw [h]
  exact ⟨if_pos rfl, rfl⟩
theorem keyT_cases (xs : List Int) : keyT xs = [] ∨ ∃ F, keyT xs = closedT F := by
  unfold keyT
  split
  · exact .inr ⟨_, rfl⟩
  · exact .inl rfl
theorem keyT_len (xs : List Int) : (keyT xs).length ≤ 1048576 := by
  rcases keyT_cases xs with e | ⟨F, e⟩
  · rw [e]; exact Nat.zero_le _
  · rw [e]; have := closedT_len F; omega
theorem keyT_sz (xs : List Int) : sz_T (keyT xs) ≤ 1099511627776 := by
  rcases keyT_cases xs with e | ⟨F, e⟩
  · rw [e]; exact Nat.zero_le _
  · rw [e, sz_T_sevens closedT_each]; have := closedT_len F; omega
theorem keyT_short (xs : List Int) : ∀ p ∈ keyT xs, p.1.length ≤ 1048576 := by
  rcases keyT_cases xs with e | ⟨F, e⟩
  · rw [e]; simp
  · rw [e]; intro p hp; rw [closedT_each p hp]; omega
def In4 (xs : List Int) : Prop := ∀ x ∈ xs, 0 ≤ x ∧ x ≤ 4
theorem keyIn_false {xs : List Int} (h : ¬ (1 ≤ xs.length ∧ xs.length ≤ 5) ∨ ∃ (k : Nat) (x : Int), xs[k]? = some x ∧ ¬ (0 ≤ x ∧ x ≤ 4)) : keyIn xs = false := by
  cases hk : keyIn xs with
  | false => rfl
  | true =>
    unfold keyIn at hk
    simp only [Bool.and_eq_true, decide_eq_true_eq, List.all_eq_true] at hk
    rcases h with h | ⟨k, x, hx, h⟩
    · exact absurd hk.1 h
    · exact absurd (hk.2 x (List.mem_of_getElem? hx)) h
theorem keyIn_true {xs : List Int} (h : 1 ≤ xs.length ∧ xs.length ≤ 5) (h4 : In4 xs) : keyIn xs = true := by
  unfold keyIn
  simp only [Bool.and_eq_true, decide_eq_true_eq, List.all_eq_true]
  exact ⟨h, h4⟩
theorem In4.digs {xs : List Int} (h : In4 xs) : Digs xs := fun x hx => by have := h x hx; unfold isD; omega
theorem In4.perm {xs ys : List Int} (h : In4 xs) (hp : ys.Perm xs) : In4 ys := fun x hx => h x (hp.mem_iff.1 hx)
theorem keyL_zeros (xs : List Int) (n : Nat) : keyL (xs ++ List.replicate n 0) = keyL xs := by
  have hz : ∀ n, keyL (List.replicate n 0) = 0 := by
    intro n
    induction n with
    | zero => rfl
    | succ n ih => rw [List.replicate_succ, keyL, ih]; rfl
  induction xs with
  | nil => exact hz n
  | cons a l ih => rw [List.cons_append, keyL, keyL, ih]
/-- exponents up to 4 at the first n places -/
def kb (n : Nat) (j : Nat) : Nat := if j < n then 4 else 0
theorem kb_le (n j : Nat) : kb n j ≤ 4 := by unfold kb; split <;> omega
theorem Bv.kb_start {xs : List Int} {n : Nat} (hn : xs.length = n) (h7 : n ≤ 7) (h : In4 xs) : Bv (kb n) [(keyL xs, 1)] := fun p hp => by
  rw [List.mem_singleton] at hp
  subst hp
  refine ⟨keyL_small h.digs (by omega), fun j hj => ?_⟩
  have hp7 : (xs ++ List.replicate (7 - n) 0).length = 7 := by simp; omega
  have hd : Digs (xs ++ List.replicate (7 - n) 0) := fun x hx => by
    rcases List.mem_append.1 hx with hx | hx
    · exact h.digs x hx
    · rw [List.eq_of_mem_replicate hx]; unfold isD; omega
  have := dig_keyL hp7 hd hj
  rw [keyL_zeros] at this
  show dig (keyL xs) j ≤ _
  unfold kb
  rcases Nat.lt_or_ge j n with hjn | hjn
  · rw [if_pos hjn]
    rw [List.getElem?_append_left (by omega)] at this
    exact (h _ (List.mem_of_getElem? this)).2
  · rw [if_neg (by omega)]
    rw [List.getElem?_append_right (by omega), List.getElem?_replicate] at this
    split at this
    · rw [← Option.some.inj this]; exact Int.le_refl _
    · cases this
theorem Bv.kb_dem {n : Nat} {F : Mons} (h : Bv (kb n) F) {i : Nat} (hi : i ≤ 5) (hin : i + 1 < n) : Bv (kb n) (demM i F) :=
  h.dem_same hi (by have := kb_le n i; omega) (by unfold kb; rw [if_pos hin, if_pos (by omega)])
theorem kb_low {n : Nat} (hn : n ≤ 7) {F : Mons} (h : Bv (kb n) F) : ∀ l : List Nat, (∀ k ∈ l, k + 1 < n) → Bv (kb n) (l.foldr demM F) := by
  intro l
  induction l with
  | nil => intro _; exact h
  | cons k l ih =>
    intro hl
    have hk := hl k List.mem_cons_self
    exact (ih fun q hq => hl q (List.mem_cons_of_mem _ hq)).kb_dem (by omega) hk
theorem kb_count {n : Nat} (h5 : n ≤ 5) {F : Mons} (h : Bv (kb n) F) : (canon F).length ≤ 3125 := by
  have : Bv (kb 5) F := h.mono fun j _ => by unfold kb; split <;> split <;> omega
  exact this.count

/-! the program -/
theorem polyOk_one {s : List Int} (h7 : s.length = 7) (hs : s.all small = true) : polyOk [(s, 1)] = true := by
  refine polyOk_true (by simp) fun j hj => ?_
  obtain rfl : j = 0 := by simpa using hj
  exact termAt_first rfl (by simp [headOk, h7, coefOk]) hs
theorem RP.one {w : World} {b : Option Addr} {d : Nat} {s : List Int} {x : Int} (hr : RI w b s) (hd : s.length ≤ d) : RP (w.alloc (.cells #[.slice b s.length d, .int .i64 x] 83)) (some ⟨w.heap.size, 0, none⟩) [(s, x)] := by
  have hB : Below w.heap.size w (w.alloc (.cells #[.slice b s.length d, .int .i64 x] 83)) := (Below.refl _ _).alloc (Nat.le_refl _) _
  refine .inr ⟨_, 0, rfl, fun k p hp => ?_⟩
  rcases k with _ | k
  · obtain rfl : (s, x) = p := by simpa using hp
    have g := heap_alloc_new w (.cells #[.slice b s.length d, .int .i64 x] 83)
    exact ⟨b, d, by rw [cell_of_row _ _ 0 _ _ (0, 0) g]; rfl, by rw [cell_of_row _ _ 1 _ _ (0, 0) g]; rfl, hr.below hB, hd⟩
  · simp at hp
set_option maxRecDepth 100000 in
set_option maxHeartbeats 1600000 in
theorem mono_any (a : Option Addr) (n c : Nat) (xs : List Int) (w : World) (hr : RI w a xs) (hn : xs.length = n) (h1 : 1 ≤ n) (h5 : n ≤ 5) (h4 : In4 xs) :
    Calls Try.prog 164 #[.slice a n c] w fun e w' => ∃ a' c', e = .returned (.slice a' 1 c') ∧ RP w' a' [(xs ++ List.replicate (7 - n) 0, 1)] ∧ Below w.heap.size w w' := by
  have Hn := Lib.hid hn
  obtain ⟨k, hk⟩ : ∃ k, 7 - n = k := ⟨_, rfl⟩
  have hkn : n + k = 7 := by omega
  have Hok := Lib.hid (polyOk_one (s := xs ++ List.replicate k 0) (by simp; omega) (by
    rw [List.all_eq_true]
    intro x hx
    rcases List.mem_append.1 hx with hx | hx
    · have := h4 x hx; simp [small]; omega
    · rw [List.eq_of_mem_replicate hx]; simp [small]))
  rw [hk]
  have Hs7 := Lib.hid (show (xs ++ List.replicate k 0).length = 7 by simp; omega)
  have q0 : IntKind.i64.wrap (7 - (n : Int)) = (k : Int) := by rw [IntWalk.i64_in _ (by omega)]; omega
  have q1 : (n : Int) ≤ 7 := by omega
  have q2 : (7 : Int) - (n : Int) = (k : Int) := by omega
  have hk0 : 0 < k := by omega
  have hkb : n + k ≤ 1000 := by omega
  clear hk hn h4
  go_enter Try.func164, Try.ntmps164
  go_wp2_with fail
  refine (cloneI_any _ _ _ xs _ hr Hn.out (by omega)).mono ?_
  rintro e w1 ⟨a1, c1, rfl, ho1, hb1⟩
  have Ho1 := Lib.hid ho1
  have hz1 := hb1.size
  clear ho1
  go_wp2_with (first | (at_builtin; go_loud (refine wpList_appZ (by rfl) _ _ (by rfl) Ho1.out (by rfl) (by rfl) (by omega) hk0 hkb hz1 ?_)))
  intro a2 c2 w2 ho2 hg2
  try rw [hkn] at ho2
  have hB2 : Below w.heap.size w w2 := below_grown hb1 hg2 hz1 Ho1.out.1.lo
  have hlt := ho2.1.lt
  have hr2 := ho2.rd
  have hR : RP (w2.alloc (.cells #[.slice a2 7 c2, .int .i64 1] 83)) (some ⟨w2.heap.size, 0, none⟩) [(xs ++ List.replicate k 0, 1)] := by
    have := RP.one (x := 1) hr2 (d := c2) (by rw [Hs7.out]; exact hlt)
    rw [Hs7.out] at this
    exact this
  have hBa : Below w2.heap.size w2 (w2.alloc (.cells #[.slice a2 7 c2, .int .i64 1] 83)) := (Below.refl _ _).alloc (Nat.le_refl _) _
  have hB3 := hB2.trans (hBa.mono hB2.size)
  have HR := Lib.hid hR
  have e7 : n + k = 7 := hkn
  clear ho2 hg2 hr2 hR hBa hB2 q0 q2 Ho1
  try rw [e7]
  go_wp2_with fail
  refine (is (implPolyOk_any _ 1 _ _ _ HR.out rfl (by omega)) Hok.out).mono ?_
  rintro e w4 ⟨rfl, hb4⟩
  have hB4 := hB3.trans (hb4.mono hB3.size)
  have HR4 := Lib.hid (HR.out.below hb4)
  clear HR
  go_wp2
  go_ret
  exact ⟨_, _, rfl, HR4.out, hB4⟩

set_option maxRecDepth 100000 in
set_option maxHeartbeats 3200000 in
theorem implKey_any : ∀ (N : Nat) (a : Option Addr) (n c : Nat) (xs : List Int) (w : World), nin xs < N → RI w a xs → xs.length = n → 1 ≤ n → n ≤ 5 → In4 xs →
    Calls Try.prog 78 #[.slice a n c] w fun e w' => ∃ r, e = .returned (.map (some r)) ∧ PF w' r (keyM xs) ∧ Below w.heap.size w w' := by
  intro N
  induction N with
  | zero =>
    intro a n c xs w hN
    omega
  | succ N ih =>
    intro a n c xs w hN hr hn h1 h5 h4
    have Hn := Lib.hid hn
    have IH := Lib.hid ih
    have H4 := Lib.hid h4
    have Hu := Lib.hid (show ∀ k ∈ ups xs, k + 1 < n from fun k hk => by have := ups_lt xs k hk; rw [hn] at this; exact this)
    clear ih hn h4
    go_enter Try.func78, Try.ntmps78
    go_wp2
    go_loopw [3] (fun kv wr => ∃ k : Nat, kv = .int .i64 k ∧ 1 ≤ k ∧ k ≤ n ∧ Hid (flat xs (k - 1)) ∧ Drew w wr) (fun kv _ => n - (intOf kv).toNat)
    case atStart => exact ⟨1, rfl, Nat.le_refl _, h1, fun j _ _ hj => by omega, Drew.refl _⟩
    case round =>
      obtain ⟨k, rfl, hk1, hk, Hfl, hd⟩ := hrel
      obtain ⟨wo, rfl⟩ : ∃ wo : World, wo = wr := ⟨_, rfl⟩
      have hB := hd.below w.heap.size
      obtain ⟨j, hj⟩ : ∃ j, k = j + 1 := ⟨k - 1, by omega⟩
      have HJ := Lib.hid hj
      have Hfl' := Lib.hid (show flat xs j from by have := Hfl.out; rw [hj] at this; exact this)
      by_cases hlt : k < n
      · obtain ⟨x, hx⟩ := some_at Hn.out (show j < n by omega)
        obtain ⟨y, hy⟩ := some_at Hn.out hlt
        obtain ⟨b1, off, rfl, hcell⟩ := (hr.below hB).at (k := k) (by rw [Hn.out]; omega)
        have p1 := hcell j x hx
        have p2 := hcell k y hy
        have q1 : (j : Int) < (n : Int) := by omega
        have q2 : (k : Int) < (n : Int) := by omega
        have q3 : IntKind.i64.wrap ((k : Int) - 1) = (j : Int) := by rw [IntWalk.i64_in _ (by omega)]; omega
        have q4 : (0 : Int) ≤ (j : Int) := by omega
        have Hx := Lib.hid hx
        have Hy := Lib.hid (show xs[j + 1]? = some y by rw [← hj]; exact hy)
        clear hcell hx hy hj
        by_cases hxy : x < y
        · have Hasc := Lib.hid (asc_at Hx.out Hy.out hxy Hfl'.out)
          have Hnin := Lib.hid (nin_sw Hasc.out)
          have Hus := Lib.hid (ups_some Hasc.out)
          have hjn : j + 1 < n := by have := HJ.out; omega
          have Hsw := Lib.hid (sw_swp (w := xs) (k := j) (by rw [Hn.out]; exact hjn))
          have Hkj := Lib.hid (show ((k : Int)) = ((j + 1 : Nat) : Int) by have := HJ.out; omega)
          have HD := Lib.hid (fun d : Nat => hd.trans (Drew.drewN wo d))
          have Hr := Lib.hid hr
          have hg : decide (x < y) = true := by simp [hxy]
          have hN2 := Lib.hid hN
          clear hd hB hr hN
          go_wp2
          go_quiet (fail)
          clear q3
          go_wp2_with fail
          refine (exchanged_any _ _ _ xs j (j + 1) _ _ _ (Hr.out.below ((HD.out _).below _)) Hn.out (by omega) (by have := Hkj.out; omega) Hkj.out (by omega) hjn (by omega)).mono ?_
          rintro e w2 ⟨a3, c3, rfl, ho3, hb3⟩
          rw [Hsw.out] at ho3
          have hB2 := ((HD.out _).below w.heap.size).trans (hb3.mono ((HD.out _).below w.heap.size).size)
          have Ho3 := Lib.hid ho3
          have Hl3 := Lib.hid (show (sw xs j).length = n by rw [sw_length, Hn.out])
          have Hn3 := Lib.hid (show nin (sw xs j) < N by have := Hnin.out; have := hN2.out; omega)
          have H43 := Lib.hid (H4.out.perm (sw_perm xs j))
          clear ho3 hb3
          go_wp2_with fail
          refine (IH.out _ _ _ (sw xs j) _ Hn3.out Ho3.out.rd Hl3.out h1 h5 H43.out).mono ?_
          rintro e w3 ⟨r3, rfl, hF3, hb3⟩
          have hB3 := hB2.trans (hb3.mono hB2.size)
          have HF3 := Lib.hid hF3
          have HT := Lib.hid (show Bv (kb n) (keyM (sw xs j)) from kb_low (by omega) (Bv.kb_start (by rw [(fell_perm _).length_eq, Hl3.out]) (by omega) (H43.out.perm (fell_perm _))) _ (fun q hq => by have := ups_lt _ q hq; rw [Hl3.out] at this; exact this))
          clear hF3 hb3
          go_wp2_with fail
          refine (implDem_any r3 j _ _ _ HF3.out (by have := Hkj.out; omega) (by omega) (fun p hp => Int.le_trans ((HT.out.canon p hp).2 j (by omega)) (by have := kb_le n j; omega))).mono ?_
          rintro e w4 ⟨r4, rfl, _, hF4, hb4⟩
          have hB4 := hB3.trans (hb4.mono hB3.size)
          have HF4 := Lib.hid (show PF w4 r4 (keyM xs) by unfold keyM; rw [Hus.out.1, Hus.out.2]; exact hF4)
          clear hF4 hb4
          go_wp2
          go_ret
          exact ⟨_, rfl, HF4.out, hB4⟩
        · have Hfl2 := Lib.hid (show flat xs (k + 1 - 1) from fun i p q hi hp hq => by
            have hkj := HJ.out
            rcases Nat.lt_or_ge i j with h | h
            · exact Hfl'.out i p q h hp hq
            · obtain rfl : i = j := by omega
              rw [Hx.out] at hp
              rw [Hy.out] at hq
              obtain rfl := Option.some.inj hp
              obtain rfl := Option.some.inj hq
              exact hxy)
          have HD := Lib.hid (fun d : Nat => hd.trans (Drew.drewN wo d))
          have hg : decide (x < y) = false := by simp [hxy]
          clear hd hB
          go_wp2
          go_quiet (fail)
          clear q3
          go_wp2
          go_roundw
          case rel => exact ⟨k + 1, by go_num, by omega, by omega, Hfl2.out, HD.out _⟩
          case measure => simp [intOf]; omega
      · have Hnone := Lib.hid (ups_none (asc_all (w := xs) (fun i p q hp hq => by
          have := (List.getElem?_eq_some_iff.1 hq).1
          rw [Hn.out] at this
          have hkj := HJ.out
          exact Hfl'.out i p q (by omega) hp hq)))
        have q1 : ¬ (k : Int) < (n : Int) := by omega
        have hr2 := hr.below hB
        have Hok := Lib.hid (polyOk_one (s := xs ++ List.replicate (7 - n) 0) (by simp [Hn.out]; omega) (by
          rw [List.all_eq_true]
          intro x hx
          rcases List.mem_append.1 hx with hx | hx
          · have := H4.out x hx; simp [small]; omega
          · rw [List.eq_of_mem_replicate hx]; simp [small]))
        clear hr hj
        go_wp2_with fail
        refine (mono_any _ _ _ xs _ hr2 Hn.out h1 h5 H4.out).mono ?_
        rintro e w2 ⟨a2, c2, rfl, hR2, hb2⟩
        have hB2 := hB.trans (hb2.mono hB.size)
        have HR2 := Lib.hid hR2
        clear hR2
        go_wp2_with fail
        refine (open_any _ 1 _ _ _ HR2.out rfl Hok.out).mono ?_
        rintro e w3 ⟨r3, rfl, _, hF3, hb3⟩
        have hB3 := hB2.trans (hb3.mono hB2.size)
        have HF3 := Lib.hid (show PF w3 r3 (keyM xs) by
          unfold keyM
          rw [Hnone.out.1, Hnone.out.2]
          have : monsOf [(xs ++ List.replicate (7 - n) 0, 1)] = [(keyL xs, 1)] := by unfold monsOf; simp [keyL_zeros]
          rw [this] at hF3
          exact hF3)
        clear hF3
        go_wp2
        go_ret
        exact ⟨_, rfl, HF3.out, hB3⟩

/-- terms of the call's own, and whether they are fine -/
def PostT (w : World) (T : List (List Int × Int)) (ok : Bool) (e : Ending) (w' : World) : Prop :=
  ∃ a' n' c' r, e = .returned (.tuple #[.slice a' n' c', .bool r]) ∧ TO w' w.heap.size w'.heap.size a' n' c' T ∧ Hid (r = ok) ∧ Below w.heap.size w w'
set_option maxRecDepth 100000 in
set_option maxHeartbeats 1600000 in
theorem implKeyPoly_post (a : Option Addr) (n c : Nat) (xs : List Int) (w : World) (hr : RI w a xs) (hn : xs.length = n) (hb : n ≤ 1048576) :
    Calls Try.prog 24 #[.slice a n c] w (PostT w (keyT xs) (keyOk xs)) := by
  have Hn := Lib.hid hn
  by_cases h1 : n < 1
  · have H0 := Lib.hid (key_no (keyIn_false (xs := xs) (.inl (by omega))))
    have q1 : (n : Int) < 1 := by omega
    clear hn
    go_enter Try.func24, Try.ntmps24
    go_wp2
    go_ret2
    exact ⟨_, _, _, _, rfl, by rw [H0.out.1]; exact TO.nil, H0.out.2.symm, Below.refl _ _⟩
  by_cases h5 : 5 < n
  · have H0 := Lib.hid (key_no (keyIn_false (xs := xs) (.inl (by omega))))
    have q1 : ¬ (n : Int) < 1 := by omega
    have q2 : (5 : Int) < (n : Int) := by omega
    clear hn
    go_enter Try.func24, Try.ntmps24
    go_wp2
    go_ret2
    exact ⟨_, _, _, _, rfl, by rw [H0.out.1]; exact TO.nil, H0.out.2.symm, Below.refl _ _⟩
  have q1 : ¬ (n : Int) < 1 := by omega
  have q2 : ¬ (5 : Int) < (n : Int) := by omega
  clear hn
  go_enter Try.func24, Try.ntmps24
  go_wp2
  go_loop [16] (fun kv => ∃ k : Nat, kv = .int .i64 k ∧ k ≤ n ∧ Hid (∀ (j : Nat) (x : Int), j < k → xs[j]? = some x → 0 ≤ x ∧ x ≤ 4)) (fun kv => n - (intOf kv).toNat)
  case atStart => exact ⟨0, rfl, Nat.zero_le _, fun j _ hj => by omega⟩
  case round =>
    obtain ⟨k, rfl, hk, H4⟩ := hrel
    by_cases hlt : k < n
    · obtain ⟨x, hx⟩ := some_at Hn.out hlt
      obtain ⟨b1, off, rfl, hcell⟩ := hr.at (k := k) (by rw [Hn.out]; omega)
      have p1 := hcell k x hx
      have q3 : (k : Int) < (n : Int) := by omega
      have Hx := Lib.hid hx
      clear hcell hx
      by_cases hx0 : x < 0
      · have H0 := Lib.hid (key_no (keyIn_false (xs := xs) (.inr ⟨k, x, Hx.out, by omega⟩)))
        go_wp2
        go_ret2
        exact ⟨_, _, _, _, rfl, by rw [H0.out.1]; exact TO.nil, H0.out.2.symm, Below.refl _ _⟩
      · by_cases hx4 : 4 < x
        · have H0 := Lib.hid (key_no (keyIn_false (xs := xs) (.inr ⟨k, x, Hx.out, by omega⟩)))
          go_wp2
          go_ret2
          exact ⟨_, _, _, _, rfl, by rw [H0.out.1]; exact TO.nil, H0.out.2.symm, Below.refl _ _⟩
        · have H42 := Lib.hid (show ∀ (j : Nat) (y : Int), j < k + 1 → xs[j]? = some y → 0 ≤ y ∧ y ≤ 4 from fun j y hj hy => by
            rcases Nat.lt_or_ge j k with h | h
            · exact H4.out j y h hy
            · obtain rfl : j = k := by omega
              rw [Hx.out] at hy
              obtain rfl := Option.some.inj hy
              omega)
          go_wp2
          go_round
          case rel => exact ⟨k + 1, by go_num, by omega, H42.out⟩
          case measure => simp [intOf]; omega
    · obtain rfl : k = n := by omega
      have HI : Hid (In4 xs) := fun x hx => by
        obtain ⟨j, hj⟩ := List.getElem?_of_mem hx
        exact H4.out j x (by have := lt_of_some hj; rw [Hn.out] at this; exact this) hj
      have H0 := Lib.hid (key_yes (keyIn_true (xs := xs) (by rw [Hn.out]; omega) HI.out))
      go_wp2_with fail
      refine (implKey_any (nin xs + 1) _ _ _ xs _ (Nat.lt_succ_self _) hr Hn.out (by omega) (by omega) HI.out).mono ?_
      rintro e w4 ⟨r4, rfl, hF4, hB4⟩
      have HF4 := Lib.hid hF4
      clear hF4
      go_wp2_with fail
      refine (closed_any r4 _ _ HF4.out).mono ?_
      rintro e w9 ⟨a9, n9, c9, r9, rfl, ho9, hh9, hb9⟩
      have hB9 := hB4.trans (hb9.mono hB4.size)
      have Ho9 := Lib.hid (ho9.mono (B' := w.heap.size) (S' := w9.heap.size) hB4.size (Nat.le_refl _))
      clear ho9
      go_wp2
      go_ret2
      exact ⟨_, _, _, _, rfl, by rw [H0.out.1]; exact Ho9.out, by rw [H0.out.2]; exact hh9, hB9⟩
theorem implKeyPoly_any (a : Option Addr) (n c : Nat) (xs : List Int) (w : World) (hr : RI w a xs) (hn : xs.length = n) (hb : n ≤ 1048576) :
    Calls Try.prog 24 #[.slice a n c] w fun e w' => ∃ a' n' c' r, e = .returned (.tuple #[.slice a' n' c', .bool r]) ∧ TO w' w.heap.size w'.heap.size a' n' c' (keyT xs) ∧ Hid (r = keyOk xs) ∧ Below w.heap.size w w' :=
  (implKeyPoly_post a n c xs w hr hn hb).mono fun _ _ h => h
end Go.Proofs.Ytocgcgmlemoekaa
