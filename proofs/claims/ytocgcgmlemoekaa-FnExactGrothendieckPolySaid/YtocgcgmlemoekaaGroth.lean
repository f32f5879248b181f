/-
  GrothendieckPoly, both.
-/
import Derived.Test.YtocgcgmlemoekaaBuS
namespace Go.Proofs.Ytocgcgmlemoekaa
open Go.RowKit

def groM (xs : List Int) (n : Nat) : Mons := (ups xs).foldr isoM [(partK n n, 1)]
theorem gro_low {n : Nat} (hn : n ≤ 7) {F : Mons} (h : Bv (sb n) F) : ∀ l : List Nat, (∀ k ∈ l, k + 1 < n) → Bv (sb n) (l.foldr isoM F) := by
  intro l
  induction l with
  | nil => intro _; exact h
  | cons k l ih =>
    intro hl
    have hk := hl k List.mem_cons_self
    exact (ih fun q hq => hl q (List.mem_cons_of_mem _ hq)).sb_iso hn (by omega) hk
theorem sb_mono {n m : Nat} (h : n ≤ m) {F : Mons} (hF : Bv (sb n) F) : Bv (sb m) F := hF.mono fun j _ => by unfold sb; omega
theorem sb5_count {n : Nat} (h : n ≤ 5) {F : Mons} (hF : Bv (sb n) F) : (canon F).length ≤ 120 := (sb_mono h hF).count
theorem sb_bd {n : Nat} (h : n ≤ 7) {F : Mons} (hF : Bv (sb n) F) : Bd 126 F := hF.bd fun j _ => by unfold sb; omega
def groT (xs : List Int) : List (List Int × Int) := if isPerm xs = true ∧ xs.length ≤ 5 then closedT (groM xs xs.length) else []
def groOk (xs : List Int) : Bool := isPerm xs && decide (xs.length ≤ 5) && polyOk (termsM (groM xs xs.length))
theorem gro_no {xs : List Int} (h : isPerm xs = false ∨ 5 < xs.length) : groT xs = [] ∧ groOk xs = false := by
  unfold groT groOk
  rcases h with h | h
  · rw [h]
    exact ⟨rfl, rfl⟩
  · have h' : ¬ xs.length ≤ 5 := by omega
    simp [h']
theorem gro_yes {xs : List Int} (h : isPerm xs = true) (h5 : xs.length ≤ 5) : groT xs = closedT (groM xs xs.length) ∧ groOk xs = polyOk (termsM (groM xs xs.length)) := by
  unfold groT groOk
  simp [h, h5]
theorem groT_cases (xs : List Int) : groT xs = [] ∨ ∃ F, groT xs = closedT F := by
  unfold groT
  split
  · exact .inr ⟨_, rfl⟩
  · exact .inl rfl
theorem groT_len (xs : List Int) : (groT xs).length ≤ 1048576 := by
  rcases groT_cases xs with e | ⟨F, e⟩
  · rw [e]; exact Nat.zero_le _
  · rw [e]; have := closedT_len F; omega
theorem groT_sz (xs : List Int) : sz_T (groT xs) ≤ 1099511627776 := by
  rcases groT_cases xs with e | ⟨F, e⟩
  · rw [e]; exact Nat.zero_le _
  · rw [e, sz_T_sevens closedT_each]; have := closedT_len F; omega
theorem groT_short (xs : List Int) : ∀ p ∈ groT xs, p.1.length ≤ 1048576 := by
  rcases groT_cases xs with e | ⟨F, e⟩
  · rw [e]; simp
  · rw [e]; intro p hp; rw [closedT_each p hp]; omega

set_option maxRecDepth 100000 in
set_option maxHeartbeats 3200000 in
theorem specGro_any (a : Option Addr) (n c : Nat) (xs : List Int) (w : World) (hr : RI w a xs) (hn : xs.length = n) (hb : n ≤ 1048576) (hc : n ≤ c) :
    Calls Try.prog 25 #[.slice a n c] w fun e w' => ∃ a' n' c' r, e = .returned (.tuple #[.slice a' n' c', .bool r]) ∧ TO w' w.heap.size w'.heap.size a' n' c' (groT xs) ∧ Hid (r = groOk xs) ∧ Below w.heap.size w w' := by
  have Hn := Lib.hid hn
  cases hp : isPerm xs
  · have H0 := Lib.hid (gro_no (.inl hp))
    have Hp := Lib.hid hp
    clear hp hn
    go_enter Try.func25, Try.ntmps25
    go_wp2_with fail
    refine (is (specIsPerm_any _ _ _ xs _ hr Hn.out (by omega) hc) Hp.out).mono ?_
    rintro e w1 ⟨rfl, hd1⟩
    have hB1 := hd1.below w.heap.size
    go_wp2
    go_ret2
    exact ⟨_, _, _, _, rfl, by rw [H0.out.1]; exact TO.nil, H0.out.2.symm, hB1⟩
  have Hp := Lib.hid hp
  by_cases h5 : n ≤ 5
  · have H0 := Lib.hid (gro_yes hp (by rw [hn]; exact h5))
    rw [hn] at H0
    have q5 : ¬ (5 : Int) < (n : Int) := by omega
    have HS := Lib.hid (Bv.stair (n := n) (by omega))
    have Hu := Lib.hid (show ∀ k ∈ ups xs, k + 1 < n from fun k hk => by have := ups_lt xs k hk; rw [hn] at this; exact this)
    have h49 := nin_small (v := xs) (by omega)
    have HNv := Lib.hid (show nin xs ≤ 1000000 by omega)
    have hL : (ups xs).length ≤ 1000000 := by have := upf_le (nin xs) xs; unfold ups; omega
    have HL0 := Lib.hid hL
    clear hp hn h49 hL
    go_enter Try.func25, Try.ntmps25
    go_wp2_with fail
    refine (is (specIsPerm_any _ _ _ xs _ hr Hn.out (by omega) hc) Hp.out).mono ?_
    rintro e w1 ⟨rfl, hd1⟩
    have hB1 := hd1.below w.heap.size
    have hr1 := hr.below hB1
    go_wp2_with fail
    refine (l3Stair_any n _ (by omega)).mono ?_
    rintro e w2 ⟨a2, c2, rfl, ho2, hb2⟩
    have hB2 := hB1.trans (hb2.mono hB1.size)
    have Ho2 := Lib.hid ho2
    have hr2 := hr.below hB2
    clear ho2 hr1
    go_wp2_with fail
    refine (l3Up_any _ _ _ xs _ hr2 Hn.out (by omega) HNv.out).mono ?_
    rintro e w3 ⟨a3, L, c3, rfl, ho3, hb3⟩
    have hB3 := hB2.trans (hb3.mono hB2.size)
    have Hr3 := Lib.hid ho3.rd
    have Hl3 := Lib.hid (show (ups xs).length = L by have := ho3.len; simpa [natI] using this)
    have HF0 := Lib.hid (show MO w3 w.heap.size w3.heap.size a2 1 c2 (canon (((ups xs).drop L).foldr isoM [(partK n n, 1)])) by
      rw [List.drop_of_length_le (by rw [Hl3.out]; exact Nat.le_refl _), List.foldr_nil, canon_one (by decide) (by unfold in64; omega)]
      exact (Ho2.out.below hb3).mono hB1.size hb3.size)
    have hL : L ≤ 1000000 := by have := HL0.out; have h2 := Hl3.out; omega
    clear ho3 Ho2 hr2
    have q0 : IntKind.i64.wrap ((L : Int) - 1) = (L : Int) - 1 := IntWalk.i64_in _ (by omega)
    go_wp2
    go_loopw [4, 6] (fun fv iv wr => Hid (∃ (j : Nat) (a' : Option Addr) (n' c' : Nat), j ≤ L ∧ iv = .int .i64 ((j : Int) - 1) ∧ fv = .slice a' n' c' ∧ MO wr w.heap.size wr.heap.size a' n' c' (canon (((ups xs).drop j).foldr isoM [(partK n n, 1)]))) ∧ Below w3.heap.size w3 wr) (fun _ iv _ => (intOf iv + 1).toNat)
    case atStart => exact ⟨⟨L, _, _, _, Nat.le_refl _, rfl, rfl, HF0.out⟩, Below.refl _ _⟩
    case round =>
      clear HF0 q0
      obtain ⟨HV, hB⟩ := hrel
      obtain ⟨wo, rfl⟩ : ∃ wo : World, wo = wr := ⟨_, rfl⟩
      obtain ⟨j, a4, n4, c4, hj, rfl, rfl, hM⟩ := HV.out
      clear HV
      have hBw := hB3.trans (hB.mono hB3.size)
      rcases j with _ | j
      · rw [List.drop_zero] at hM
        have HM := Lib.hid hM
        have HK := Lib.hid (show ∀ p ∈ canon ((ups xs).foldr isoM [(partK n n, 1)]), inK p.1 from fun p hp => ((gro_low (by omega) HS.out _ Hu.out).canon p hp).1)
        clear hM
        go_wp2_with fail
        refine (l2Shut_any _ _ _ _ _ HM.out.rd HM.out.len HK.out).mono ?_
        rintro e w9 ⟨a9, n9, c9, r9, rfl, ho9, hh9, hb9⟩
        have hB9 := hBw.trans (hb9.mono hBw.size)
        have Ho9 := Lib.hid (ho9.mono (B' := w.heap.size) (S' := w9.heap.size) hBw.size (Nat.le_refl _))
        clear ho9
        go_wp2
        go_ret2
        exact ⟨_, _, _, _, rfl, by rw [H0.out.1]; exact Ho9.out, by rw [H0.out.2]; exact hh9, hB9⟩
      · obtain ⟨k, hk⟩ : ∃ k, (ups xs)[j]? = some k := ⟨(ups xs)[j]'(by rw [Hl3.out]; omega), List.getElem?_eq_getElem _⟩
        have hk5 := Hu.out k (List.mem_of_getElem? hk)
        obtain ⟨b, off, rfl, hcell⟩ := (Hr3.out.below hB).at (k := j) (by rw [natI, List.length_map, Hl3.out]; omega)
        have p1 := hcell j (k : Int) (by rw [natI, List.getElem?_map, hk]; rfl)
        have hF7 : Bv (sb n) (((ups xs).drop (j + 1)).foldr isoM [(partK n n, 1)]) := gro_low (by omega) HS.out _ (fun q hq => Hu.out q (List.mem_of_mem_drop hq))
        have Hst := Lib.hid (show canon (isoM k (canon (((ups xs).drop (j + 1)).foldr isoM [(partK n n, 1)]))) = canon (((ups xs).drop j).foldr isoM [(partK n n, 1)]) by
          rw [drop_at hk, List.foldr_cons]
          exact canon_eqv (isoM_eqv (canon_self _)))
        have hcnt := sb5_count h5 hF7
        rw [hM.len] at hcnt
        have HBd := Lib.hid (sb_bd (by omega) hF7.canon)
        have H64 := Lib.hid (canon_64 (((ups xs).drop (j + 1)).foldr isoM [(partK n n, 1)]))
        have HM := Lib.hid hM
        clear hM hk hcell hF7
        have e1 : ((j + 1 : Nat) : Int) - 1 = (j : Int) := by omega
        rw [e1]
        have q1 : (j : Int) < (L : Int) := by omega
        have q2 : (0 : Int) ≤ (j : Int) := by omega
        have q6 : IntKind.i64.wrap ((j : Int) - 1) = (j : Int) - 1 := IntWalk.i64_in _ (by omega)
        clear e1
        go_wp2_with fail
        refine (l2Isobaric_any _ _ _ _ _ k _ _ _ HM.out (by omega) rfl (by omega) HBd.out H64.out).mono ?_
        rintro e w5 ⟨a5, n5, c5, rfl, ho5, hb5⟩
        rw [Hst.out] at ho5
        have HM5 := Lib.hid (ho5.mono (B' := w.heap.size) (S' := w5.heap.size) hBw.size (Nat.le_refl _))
        have hB5 := hB.trans (hb5.mono hB.size)
        clear ho5 hb5 HM
        go_wp2
        go_roundw
        case rel => exact ⟨⟨j, _, _, _, by omega, rfl, rfl, HM5.out⟩, hB5⟩
        case measure => clear q6; simp [intOf]
  · have H0 := Lib.hid (gro_no (xs := xs) (.inr (by omega)))
    have q5 : (5 : Int) < (n : Int) := by omega
    clear hp hn
    go_enter Try.func25, Try.ntmps25
    go_wp2_with fail
    refine (is (specIsPerm_any _ _ _ xs _ hr Hn.out (by omega) hc) Hp.out).mono ?_
    rintro e w1 ⟨rfl, hd1⟩
    have hB1 := hd1.below w.heap.size
    go_wp2
    go_ret2
    exact ⟨_, _, _, _, rfl, by rw [H0.out.1]; exact TO.nil, H0.out.2.symm, hB1⟩

set_option maxRecDepth 100000 in
set_option maxHeartbeats 1600000 in
theorem implGro_any (a : Option Addr) (n c : Nat) (xs : List Int) (w : World) (hr : RI w a xs) (hn : xs.length = n) (hb : n ≤ 1048576) (_hc : n ≤ c) :
    Calls Try.prog 26 #[.slice a n c] w fun e w' => ∃ a' n' c' r, e = .returned (.tuple #[.slice a' n' c', .bool r]) ∧ TO w' w.heap.size w'.heap.size a' n' c' (groT xs) ∧ Hid (r = groOk xs) ∧ Below w.heap.size w w' := by
  have Hn := Lib.hid hn
  cases hp : isPerm xs
  · have H0 := Lib.hid (gro_no (.inl hp))
    have Hp := Lib.hid hp
    clear hp hn
    go_enter Try.func26, Try.ntmps26
    go_wp2_with fail
    refine (is (implIsPerm_any _ _ _ xs _ hr Hn.out (by omega)) Hp.out).mono ?_
    rintro e w1 ⟨rfl, hB1⟩
    go_wp2
    go_ret2
    exact ⟨_, _, _, _, rfl, by rw [H0.out.1]; exact TO.nil, H0.out.2.symm, hB1⟩
  have Hp := Lib.hid hp
  by_cases h5 : n ≤ 5
  · have H0 := Lib.hid (gro_yes hp (by rw [hn]; exact h5))
    rw [hn] at H0
    have q5 : ¬ (5 : Int) < (n : Int) := by omega
    have HS := Lib.hid (Bv.stair (n := n) (by omega))
    clear hp hn
    go_enter Try.func26, Try.ntmps26
    go_wp2_with fail
    refine (is (implIsPerm_any _ _ _ xs _ hr Hn.out (by omega)) Hp.out).mono ?_
    rintro e w1 ⟨rfl, hB1⟩
    go_wp2_with fail
    refine (implStair_any n _ (by omega)).mono ?_
    rintro e w2 ⟨r2, rfl, hF2, hb2⟩
    have hB2 := hB1.trans (hb2.mono hB1.size)
    have hr2 := hr.below hB2
    have HF2 := Lib.hid hF2
    clear hF2
    go_wp2_with fail
    refine (lowered_any 84 (fun args w => by kernel_rfl) isoM (Bv (sb n)) n (by omega) (fun i F hi h => h.sb_iso (by omega) (by omega) hi) (fun b i I F w hF hI hi hB => implIso_any b i I F w hF hI (by omega) (fun p hp => Int.le_trans ((hB.canon p hp).2 (i + 1) (by omega)) (by unfold sb; omega))) (nin xs + 1) _ _ _ xs _ r2 _ (Nat.lt_succ_self _) hr2 Hn.out (Nat.le_refl _) HF2.out HS.out).mono ?_
    rintro e w4 ⟨r4, rfl, hF4, _, hb4⟩
    have hB4 := hB2.trans (hb4.mono hB2.size)
    have HF4 := Lib.hid hF4
    clear hF4
    go_wp2_with fail
    refine (closed_any r4 _ _ HF4.out).mono ?_
    rintro e w9 ⟨a9, n9, c9, r9, rfl, ho9, hh9, hb9⟩
    have hB9 := hB4.trans (hb9.mono hB4.size)
    have Ho9 := Lib.hid (ho9.mono (B' := w.heap.size) (S' := w9.heap.size) hB4.size (Nat.le_refl _))
    clear ho9
    go_wp2
    go_ret2
    exact ⟨_, _, _, _, rfl, by rw [H0.out.1]; exact Ho9.out, by rw [H0.out.2]; exact hh9, hB9⟩
  · have H0 := Lib.hid (gro_no (xs := xs) (.inr (by omega)))
    have q5 : (5 : Int) < (n : Int) := by omega
    clear hp hn
    go_enter Try.func26, Try.ntmps26
    go_wp2_with fail
    refine (is (implIsPerm_any _ _ _ xs _ hr Hn.out (by omega)) Hp.out).mono ?_
    rintro e w1 ⟨rfl, hB1⟩
    go_wp2
    go_ret2
    exact ⟨_, _, _, _, rfl, by rw [H0.out.1]; exact TO.nil, H0.out.2.symm, hB1⟩
end Go.Proofs.Ytocgcgmlemoekaa
