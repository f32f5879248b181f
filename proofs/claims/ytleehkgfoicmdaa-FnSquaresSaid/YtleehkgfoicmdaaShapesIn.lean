/-
  Contracts of ShapesIn, the program's and the reference's.
-/
import Derived.Test.YtleehkgfoicmdaaApp
import Derived.Test.YtleehkgfoicmdaaL1In
namespace Go.Proofs.Ytleehkgfoicmdaa
open Go.RowKit

/-- the shapes of at most r rows, each of at most c: those with x + 1 in front, for x below k -/
def shapesBy (f : Nat → List (List Int)) : Nat → List (List Int)
  | 0 => [[]]
  | k + 1 => shapesBy f k ++ (f (k + 1)).map fun l => ((k : Int) + 1) :: l
def shapes : Nat → Nat → List (List Int)
  | 0, _ => [[]]
  | r + 1, c => shapesBy (shapes r) c
theorem shapes_few : ∀ r, r ≤ 6 → ∀ c, c ≤ 6 → (shapes r c).length ≤ 924 ∧ sz_II (shapes r c) ≤ 5544 ∧ (shapes r c).all (fun l => decide (l.length ≤ 6)) = true := by
  have h : (List.range 7).all (fun r => (List.range 7).all fun c => decide ((shapes r c).length ≤ 924) && decide (sz_II (shapes r c) ≤ 5544) && (shapes r c).all (fun l => decide (l.length ≤ 6))) = true := by decide +kernel
  intro r hr c hc
  rw [List.all_eq_true] at h
  have h1 := h r (by simp; omega)
  rw [List.all_eq_true] at h1
  have h2 := h1 c (by simp; omega)
  simp only [Bool.and_eq_true, decide_eq_true_eq] at h2
  exact ⟨h2.1.1, h2.1.2, h2.2⟩

theorem IIO.one (w : World) : IIO ((w.alloc (.cells #[] 3)).alloc (.cells #[.slice (some ⟨w.heap.size, 0, none⟩) 0 0] 22)) w.heap.size
    ((w.alloc (.cells #[] 3)).alloc (.cells #[.slice (some ⟨w.heap.size, 0, none⟩) 0 0] 22)).heap.size (some ⟨w.heap.size + 1, 0, none⟩) 1 1 [[]] := by
  have h0 : (w.alloc (.cells #[] 3)).ownsRow w.heap.size 3 1 (.slice (some ⟨w.heap.size, 0, none⟩) 0 0) 0 [] := World.ownsRow_made _ #[] 0 (Nat.le_refl _) (Nat.zero_le _) rfl
  have h1 : OwI (w.alloc (.cells #[] 3)) w.heap.size (w.alloc (.cells #[] 3)).heap.size (some ⟨w.heap.size, 0, none⟩) 0 0 [] := OwI.mk h0
  have h2 := World.ownsRow_lit (base := w.heap.size) (e := 22) (size := 1) (w.alloc (.cells #[] 3)) #[.slice (some ⟨w.heap.size, 0, none⟩) 0 0] 1 (by simp) (by unfold maxLen; omega) rfl
  refine ⟨[.slice (some ⟨w.heap.size, 0, none⟩) 0 0], by simpa using h2, fun k hk => ?_, rfl, ?_, ?_⟩
  · simp [Value.ownBlock] at hk; simp; omega
  · intro k xs hx
    have hk0 : k = 0 := by have := lt_of_some hx; simp at this; omega
    subst hk0
    obtain rfl : [] = xs := by simpa using hx
    exact ⟨_, _, rfl, (h1.below ((Below.refl _ _).alloc (Nat.le_refl _) _)).mono (Nat.le_refl _) (by simp)⟩
  · intro i j u v g hu hv _ _
    have := lt_of_some hu
    have := lt_of_some hv
    simp at *
    omega

set_option maxHeartbeats 1600000 in
theorem shapesIn_rec (r : Nat) : ∀ (c : Nat) (R C : Int) (w : World), R = r → C = c → r ≤ 6 → c ≤ 6 →
    Calls Try.prog 70 #[.int .i64 R, .int .i64 C] w fun e w' => ∃ a' n' c', e = .returned (.slice a' n' c') ∧ IIO w' w.heap.size w'.heap.size a' n' c' (shapes r c) ∧ Below w.heap.size w w' := by
  induction r with
  | zero =>
    intro c R C w hR hC _ hc
    subst hR hC
    have h1 := IIO.one w
    have H1 := Lib.hid h1; clear h1
    go_enter Try.func70, Try.ntmps70
    go_wp2_with fail
    refine wp_loop_rounds 1 ?_
    rw [rounds_succ]
    go_wp2_with fail
    go_ret
    exact ⟨_, _, _, rfl, H1.out, ((Below.refl _ _).alloc (Nat.le_refl _) _).alloc (by simp) _⟩
  | succ r ih =>
    intro c R C w hR hC hr hc
    subst hC
    have hRb : 1 ≤ R ∧ R ≤ 6 := by omega
    have HR := Lib.hid hR; clear hR
    have h1 := IIO.one w
    have H1 := Lib.hid h1; clear h1
    have IH := Lib.hid ih; clear ih
    go_enter Try.func70, Try.ntmps70
    go_wp2_with fail
    go_loopw [5, 6] (fun v x wr => ∃ k : Nat, k ≤ c ∧ x = .int .i64 ((k : Int) + 1) ∧ (∃ a' n' c', v = .slice a' n' c' ∧ IIO wr w.heap.size wr.heap.size a' n' c' (shapesBy (shapes r) k)) ∧ Below w.heap.size w wr) (fun _ x _ => c + 1 - (intOf x).toNat)
    case atStart => exact ⟨0, Nat.zero_le _, by simp, ⟨_, _, _, rfl, H1.out⟩, ((Below.refl _ _).alloc (Nat.le_refl _) _).alloc (by simp) _⟩
    case round =>
      obtain ⟨k, hk, rfl, ⟨a1, n1, c1, rfl, ho⟩, hbel⟩ := hrel
      obtain ⟨wo, rfl⟩ : ∃ wo : World, wo = wr := ⟨_, rfl⟩
      by_cases hlt : k < c
      · have hx1 : (k : Int) + 1 ≤ (c : Int) := by omega
        have hf1 := (shapes_few r (by omega) (k + 1) (by omega))
        have hf2 := (shapes_few (r + 1) hr c hc).1
        have hpl : (shapesBy (shapes r) k).length ≤ 924 := (shapes_few (r + 1) hr k (by omega)).1
        have hn1 := ho.len
        have HF := Lib.hid hf1; clear hf1 hf2
        have HN1 := Lib.hid hn1; clear hn1
        have hn1b : n1 ≤ 924 := by rw [← HN1.out]; exact hpl
        clear hpl
        go_wp2_with fail
        refine (IH.out (k + 1) (R - 1) ((k : Int) + 1) wo (by rw [HR.out]; omega) (by omega) (by omega) (by omega)).mono ?_
        rintro e w1 ⟨al, nl, cl, rfl, hol, hb1⟩
        have hnl := hol.len
        have hnlb : nl ≤ 924 := by rw [← hnl]; exact HF.out.1
        have HNl := Lib.hid hnl; clear hnl
        have ho1 := ho.below hb1
        have hB1 := hbel.trans (hb1.mono hbel.size)
        have hs0 := hbel.size
        have hs1 := hb1.size
        clear ho hbel
        go_wp2_with fail
        go_loopw [5, 25] (fun v i wr => ∃ j : Nat, j ≤ nl ∧ i = .int .i64 j ∧ (∃ a' c', v = .slice a' (n1 + j) c' ∧ IIO wr w.heap.size wr.heap.size a' (n1 + j) c' (shapesBy (shapes r) k ++ ((shapes r (k + 1)).map fun l => ((k : Int) + 1) :: l).take j) ∧ Grows w1 wr (.slice a1 n1 c1) (.slice a' (n1 + j) c'))) (fun _ i _ => nl - (intOf i).toNat)
        case atStart => exact ⟨0, Nat.zero_le _, rfl, a1, c1, rfl, by simpa using ho1.mono hs1, Grows.refl _ _⟩
        case round =>
          obtain ⟨j, hj, rfl, a2, c2, rfl, hoj, hgr⟩ := hrel
          obtain ⟨wi, rfl⟩ : ∃ wi : World, wi = wr := ⟨_, rfl⟩
          have honly : Only w.heap.size wo.heap.size w1 wi := hgr.only (fun q hq => (ho1.choose_spec.1.lt q hq).1) (fun q hq => ho1.choose_spec.2.1 q hq)
          have hs2 := hgr.grown.size
          by_cases hjl : j < nl
          · obtain ⟨l, hl⟩ := some_of (show j < (shapes r (k + 1)).length by rw [HNl.out]; exact hjl)
            have hll : l.length ≤ 6 := by
              have := HF.out.2.2
              rw [List.all_eq_true] at this
              simpa using this l (List.mem_of_getElem? hl)
            have holi := hol.only honly (.inr (Nat.le_refl _))
            obtain ⟨b, off, rfl, hcell⟩ := holi.rd.at (k := j) (by rw [HNl.out]; exact hjl)
            obtain ⟨aj, cj, hc, hrl⟩ := hcell j l hl
            have htk := Lib.hid (take_at (xs := (shapes r (k + 1)).map fun l => ((k : Int) + 1) :: l) (i := j) (x := ((k : Int) + 1) :: l) (by rw [List.getElem?_map, hl]; rfl))
            clear hcell hl
            obtain ⟨m, hm⟩ : ∃ m, l.length = m := ⟨_, rfl⟩
            rw [hm] at hc hll
            have HM := Lib.hid hm; clear hm
            have hone : OwI (wi.alloc (.cells #[.int .i64 ((k : Int) + 1)] 3)) wi.heap.size (wi.alloc (.cells #[.int .i64 ((k : Int) + 1)] 3)).heap.size (some ⟨wi.heap.size, 0, none⟩) 1 1 [(k : Int) + 1] :=
              OwI.mk (World.ownsRow_lit (base := wi.heap.size) (e := 3) (size := 1) wi #[.int .i64 ((k : Int) + 1)] 1 (Nat.le_refl _) (by unfold maxLen; omega) rfl)
            have hbw : Below wi.heap.size wi (wi.alloc (.cells #[.int .i64 ((k : Int) + 1)] 3)) := (Below.refl _ _).alloc (Nat.le_refl _) _
            have hrl1 := hrl.below hbw
            have hoj1 := hoj.below hbw
            have HONE := Lib.hid hone; clear hone
            go_wp2_with (first | (at_builtin; go_loud (refine wpList_appI (by rfl) _ _ (by rfl) HONE.out (by rfl) hrl1 HM.out (by rfl) (by omega) (by simp) ?_)))
            intro a3 c3 w3 ho3 hg3
            have hon3 : Only wi.heap.size (wi.heap.size + 1) (wi.alloc (.cells #[.int .i64 ((k : Int) + 1)] 3)) w3 := hg3.only (fun q hq => by simp [Value.ownBlock] at hq; omega) (fun q hq => by simp [Value.ownBlock] at hq; omega)
            have hs3 : wi.heap.size + 1 ≤ w3.heap.size := by simpa using hg3.grown.size
            have hoj3 := hoj1.only hon3 (.inl (Nat.le_refl _))
            have hB3 : Below wi.heap.size wi w3 := hon3.below hbw (Nat.le_refl _) (by simp)
            clear hoj1 hrl1 HONE hbw hg3 hon3
            have HSH := Lib.hid htk; clear htk
            go_wp2_with (first | (at_builtin; go_loud (refine wpList_pushII (by rfl) (by rfl) _ _ (by rfl) hoj3 (by rfl) ho3 (by omega) (by rfl) (by omega) (by omega) (by omega) (Nat.le_refl _) ?_)))
            intro a4 c4 w4 ho4 hg4
            have hgr4 := (hgr.trans (Grows.of_below (.slice a2 (n1 + j) c2) hB3)).trans hg4
            clear hoj3 ho3 hB3 hg4
            go_wp2
            go_roundw
            case rel =>
              refine ⟨j + 1, by omega, by go_num, a4, c4, rfl, ?_, hgr4⟩
              rw [HSH.out.out]
              exact ho4
            case measure => simp [intOf]; omega
          · obtain rfl : j = nl := by omega
            rw [List.take_of_length_le (by rw [List.length_map, HNl.out]; omega)] at hoj
            go_wp2_with fail
            go_roundw
            case rel =>
              exact ⟨k + 1, by omega, by go_num, ⟨_, _, _, rfl, hoj⟩, hB1.trans (honly.below (Below.refl _ _) (Nat.le_refl _) (by omega))⟩
            case measure => simp [intOf]; omega
      · obtain rfl : k = c := by omega
        go_wp2_with fail
        go_ret
        exact ⟨_, _, _, rfl, ho, hbel⟩

def shapesIn (R C : Int) : List (List Int) := if 0 ≤ R ∧ R ≤ 6 ∧ 0 ≤ C ∧ C ≤ 6 then shapes R.toNat C.toNat else []
theorem shapesIn_yes {R C : Int} (h : 0 ≤ R ∧ R ≤ 6 ∧ 0 ≤ C ∧ C ≤ 6) : shapesIn R C = shapes R.toNat C.toNat := if_pos h
theorem shapesIn_no {R C : Int} (h : ¬ (0 ≤ R ∧ R ≤ 6 ∧ 0 ≤ C ∧ C ≤ 6)) : shapesIn R C = [] := if_neg h
theorem shapesIn_few (R C : Int) : (shapesIn R C).length ≤ 924 ∧ sz_II (shapesIn R C) ≤ 5544 ∧ ShortII (shapesIn R C) := by
  by_cases h : 0 ≤ R ∧ R ≤ 6 ∧ 0 ≤ C ∧ C ≤ 6
  · rw [shapesIn_yes h]
    have := shapes_few R.toNat (by omega) C.toNat (by omega)
    refine ⟨this.1, this.2.1, fun xs hx => ?_⟩
    have h2 := this.2.2
    rw [List.all_eq_true] at h2
    have := h2 xs hx
    simp at this
    omega
  · rw [shapesIn_no h]
    exact ⟨by simp, by simp [sz_II], by simp [ShortII]⟩

set_option maxHeartbeats 800000 in
theorem implShapesIn_any (R C : Int) (w : World) (hl0 : -9223372036854775808 ≤ R) (hu0 : R ≤ 9223372036854775807) (hl1 : -9223372036854775808 ≤ C) (hu1 : C ≤ 9223372036854775807) :
    Calls Try.prog 27 #[.int .i64 R, .int .i64 C] w fun e w' => ∃ a' n' c', e = .returned (.slice a' n' c') ∧ IIO w' w.heap.size w'.heap.size a' n' c' (shapesIn R C) ∧ Below w.heap.size w w' := by
  by_cases h : 0 ≤ R ∧ R ≤ 6 ∧ 0 ≤ C ∧ C ≤ 6
  · have H := Lib.hid h
    obtain ⟨h1, h2, h3, h4⟩ := h
    go_enter Try.func27, Try.ntmps27
    go_wp2_with fail
    refine (shapesIn_rec R.toNat C.toNat R C w (by omega) (by omega) (by omega) (by omega)).mono ?_
    rintro e w1 ⟨a1, n1, c1, rfl, ho, hb⟩
    go_wp2
    go_ret
    exact ⟨_, _, _, rfl, by rw [shapesIn_yes H.out]; exact ho, hb⟩
  · have H := Lib.hid h
    have hd : R < 0 ∨ (0 ≤ R ∧ 6 < R) ∨ (0 ≤ R ∧ R ≤ 6 ∧ C < 0) ∨ (0 ≤ R ∧ R ≤ 6 ∧ 0 ≤ C ∧ 6 < C) := by omega
    clear h
    rcases hd with h | ⟨h, h2⟩ | ⟨h, h2, h3⟩ | ⟨h, h2, h3, h4⟩
    all_goals
      go_enter Try.func27, Try.ntmps27
      go_wp2
      go_ret
      exact ⟨_, _, _, rfl, by rw [shapesIn_no H.out]; exact IIO.nil, Below.refl _ _⟩

set_option maxHeartbeats 400000 in
theorem l1Ints_any (a : Option Addr) (n c : Nat) (xs : List Int) (w : World) (hr : RI w a xs) (hn : xs.length = n) (hb : n ≤ 1048576) :
    Calls Try.prog 119 #[.slice a n c] w fun e w' => ∃ a' c', e = .returned (.slice a' n c') ∧ OwI w' w.heap.size w'.heap.size a' n c' xs ∧ Below w.heap.size w w' := by
  have Hn := Lib.hid hn; clear hn
  have hemp : (w.alloc (.cells #[] 3)).ownsRow w.heap.size 3 1 (.slice (some ⟨w.heap.size, 0, none⟩) 0 0) 0 [] := World.ownsRow_made _ #[] 0 (Nat.le_refl _) (Nat.zero_le _) rfl
  have h1 : OwI (w.alloc (.cells #[] 3)) w.heap.size (w.alloc (.cells #[] 3)).heap.size (some ⟨w.heap.size, 0, none⟩) 0 0 [] := OwI.mk hemp
  have hB0 : Below w.heap.size w (w.alloc (.cells #[] 3)) := (Below.refl _ _).alloc (Nat.le_refl _) _
  have hr0 := hr.below hB0
  have H1 := Lib.hid h1; clear h1 hemp
  go_enter Try.func119, Try.ntmps119
  go_wp2_with (first | (at_builtin; go_loud (refine wpList_appI (by rfl) _ _ (by rfl) H1.out (by rfl) hr0 Hn.out (by rfl) (by omega) (by simp) ?_)))
  intro a2 c2 w2 ho2 hg2
  have hB2 : Below w.heap.size w w2 := hg2.below hB0 (by simp) (fun k hk => by simp [Value.ownBlock] at hk; omega)
  go_wp2
  go_ret
  exact ⟨a2, c2, by simp, by simpa using ho2, hB2⟩


theorem shapesBy_map (f : Nat → List (List Int)) (fr : List Int) (k : Nat) : (shapesBy f (k + 1)).map (fun s => fr ++ s) = (shapesBy f k).map (fun s => fr ++ s) ++ (f (k + 1)).map fun s => (fr ++ [(k : Int) + 1]) ++ s := by
  rw [shapesBy, List.map_append, List.map_map]
  congr 1
  apply List.map_congr_left
  intro s _
  simp
theorem shapesBy_mono (f : Nat → List (List Int)) {k c : Nat} (h : k ≤ c) : (shapesBy f k).length ≤ (shapesBy f c).length := by
  induction c with
  | zero => obtain rfl : k = 0 := (by omega); exact Nat.le_refl _
  | succ c ih =>
    rcases Nat.lt_or_ge k (c + 1) with h1 | h1
    · have := ih (by omega)
      rw [shapesBy, List.length_append]; omega
    · obtain rfl : k = c + 1 := (by omega); exact Nat.le_refl _
theorem shapesBy_succ_length (f : Nat → List (List Int)) (k : Nat) : (shapesBy f (k + 1)).length = (shapesBy f k).length + (f (k + 1)).length := by
  rw [shapesBy, List.length_append, List.length_map]

set_option maxHeartbeats 1600000 in
theorem l4Shapes_rec (r : Nat) : ∀ (c : Nat) (R C : Int) (B Sf Sl : Nat) (af : Option Addr) (nf cf : Nat) (fr : List Int) (al : Option Addr) (nl cl : Nat) (xss : List (List Int)) (w : World), R = r → C = c → r ≤ 6 → c ≤ 6 →
    OwI w B Sf af nf cf fr → nf + r ≤ 100 → IIS w B Sl al nl cl xss → nl + (shapes r c).length ≤ 1048576 → B ≤ w.heap.size → Sl ≤ w.heap.size → Sf ≤ w.heap.size →
    Calls Try.prog 72 #[.slice af nf cf, .int .i64 R, .int .i64 C, .slice al nl cl] w fun e w' => ∃ a' n' c', e = .returned (.slice a' n' c') ∧ IIS w' B w'.heap.size a' n' c' (xss ++ (shapes r c).map fun s => fr ++ s) ∧ Grows w w' (.slice al nl cl) (.slice a' n' c') := by
  induction r with
  | zero =>
    intro c R C B Sf Sl af nf cf fr al nl cl xss w hR hC _ hc hf hnf hl hlen hB hSl hSf
    subst hR hC
    have hlen' : nl + 1 ≤ 1048576 := hlen
    go_enter Try.func72, Try.ntmps72
    go_wp2_with (first | (at_builtin; go_loud (refine wpList_pushIIS (by rfl) (by rfl) _ _ (by rfl) hl (by rfl) hf (by rfl) (by omega) hB hSl hSf ?_)))
    intro a2 c2 w2 ho2 hg2
    go_wp2
    go_ret
    exact ⟨_, _, _, rfl, by simpa [shapes] using ho2, hg2⟩
  | succ r ih =>
    intro c R C B Sf Sl af nf cf fr al nl cl xss w hR hC hr hc hf hnf hl hlen hB hSl hSf
    subst hC
    have hRb : 1 ≤ R ∧ R ≤ 6 := by omega
    have HR := Lib.hid hR; clear hR
    have IH := Lib.hid ih; clear ih
    have hlen0 : (shapes (r + 1) c).length = (shapesBy (shapes r) c).length := rfl
    have hmono := Lib.hid (fun k (h : k ≤ c) => shapesBy_mono (shapes r) h)
    obtain ⟨L, hL⟩ : ∃ L, (shapesBy (shapes r) c).length = L := ⟨_, rfl⟩
    have h1L : 1 ≤ L := by rw [← hL]; exact hmono.out 0 (by omega)
    rw [hlen0, hL] at hlen
    have HL := Lib.hid hL; clear hL hlen0
    have hR0 : (R == 0) = false := by simp; omega
    go_enter Try.func72, Try.ntmps72
    go_wp2_with (first | (at_builtin; go_loud (refine wpList_pushIIS (by rfl) (by rfl) _ _ (by rfl) hl (by rfl) hf (by rfl) (by omega) hB hSl hSf ?_)))
    intro a2 c2 w2 ho2 hg2
    obtain ⟨vs0, hvs0, _, _⟩ := hl
    have hf2 := hf.grows hg2 hvs0
    have hs2 := hg2.grown.size
    go_wp2_with fail
    go_loopw [3, 9] (fun v x wr => ∃ k : Nat, k ≤ c ∧ x = .int .i64 ((k : Int) + 1) ∧ (∃ a' n' c', v = .slice a' n' c' ∧ Hid (n' = nl + (shapesBy (shapes r) k).length) ∧ IIS wr B wr.heap.size a' n' c' (xss ++ (shapesBy (shapes r) k).map fun s => fr ++ s) ∧ Grows w wr (.slice al nl cl) (.slice a' n' c')) ∧ OwI wr B Sf af nf cf fr) (fun _ x _ => c + 1 - (intOf x).toNat)
    case atStart => exact ⟨0, Nat.zero_le _, by simp, ⟨_, _, _, rfl, rfl, by simpa [shapesBy] using ho2, hg2⟩, hf2⟩
    case round =>
      clear ho2 hg2 hf2 hs2 hf hvs0 hR0
      obtain ⟨k, hk, rfl, ⟨a3, n3, c3, rfl, hn3, ho3, hg3⟩, hf3⟩ := hrel
      obtain ⟨wo, rfl⟩ : ∃ wo : World, wo = wr := ⟨_, rfl⟩
      have hs3 := hg3.grown.size
      by_cases hlt : k < c
      · have hx1 : (k : Int) + 1 ≤ (c : Int) := by omega
        have hfl := hf3.len
        have hlk : n3 + (shapes r (k + 1)).length ≤ nl + L := by
          have h2 := shapesBy_succ_length (shapes r) k
          have h3 := hmono.out (k + 1) (by omega)
          have h6 := HL.out
          have h7 := hn3.out
          omega
        have HFL := Lib.hid hfl; clear hfl
        have HLK := Lib.hid hlk; clear hlk
        go_wp2_with fail
        refine (l1Ints_any _ _ _ fr _ hf3.rd HFL.out (by omega)).mono ?_
        rintro e w4 ⟨a4, c4, rfl, ho4, hb4⟩
        have hs4 := hb4.size
        have ho34 := ho3.below hb4
        have hf34 := hf3.below hb4
        go_wp2_with (first | (at_builtin; go_loud (refine wpList_pushI (by rfl) (by rfl) _ _ (by rfl) ho4 (by rfl) (by rfl) (by omega) hs4 ?_)))
        intro a5 c5 w5 ho5 hg5
        have hs5 := hg5.grown.size
        have hon5 : Only wo.heap.size w4.heap.size w4 w5 := hg5.only (fun q hq => ho4.1.lo q hq) (fun q hq => ho4.2 q hq)
        have ho35 := ho34.only hon5 (.inl (Nat.le_refl _))
        have hf35 := hf34.only hon5 (.inl (by omega))
        have hb5 : Below wo.heap.size wo w5 := hon5.below hb4 (Nat.le_refl _) hs4
        have HS3 := Lib.hid ho3.len
        clear ho34 hf34 hon5 ho4 hb4 hg5 ho3 hf3
        go_wp2_with fail
        refine (IH.out (k + 1) (R - 1) ((k : Int) + 1) B w5.heap.size wo.heap.size _ _ _ (fr ++ [(k : Int) + 1]) _ _ _ _ w5 (by rw [HR.out]; omega) (by omega) (by omega) (by omega) (ho5.mono (by omega) (Nat.le_refl _)) (by omega) ho35 (by have := HLK.out; omega) (by omega) (by omega) (Nat.le_refl _)).mono ?_
        rintro e w6 ⟨a6, n6, c6, rfl, ho6, hg6⟩
        obtain ⟨vs3, hvs3, _, _⟩ := ho35
        have hf6 := hf35.grows hg6 hvs3
        have hg36 := (hg3.trans (Grows.of_below (.slice a3 n3 c3) hb5)).trans hg6
        have hlen6 := ho6.len
        have hst := Lib.hid (shapesBy_map (shapes r) fr k)
        have HN6 := Lib.hid (show n6 = nl + (shapesBy (shapes r) (k + 1)).length by
          rw [← hlen6, List.length_append, List.length_map, shapesBy_succ_length]
          have h1 := hn3.out
          have h2 := HS3.out
          omega)
        clear hf35 hvs3 hg3 hb5 hg6 ho5 hlen6
        go_wp2_with fail
        go_roundw
        case rel =>
          refine ⟨k + 1, by omega, by go_num, ⟨a6, n6, c6, rfl, HN6, ?_, hg36⟩, hf6⟩
          rw [hst.out]
          simpa using ho6
        case measure => simp [intOf]; omega
      · obtain rfl : k = c := by omega
        go_wp2_with fail
        go_ret
        exact ⟨_, _, _, rfl, ho3, hg3⟩

set_option maxHeartbeats 800000 in
theorem specShapesIn_any (R C : Int) (w : World) (hl0 : -9223372036854775808 ≤ R) (hu0 : R ≤ 9223372036854775807) (hl1 : -9223372036854775808 ≤ C) (hu1 : C ≤ 9223372036854775807) :
    Calls Try.prog 31 #[.int .i64 R, .int .i64 C] w fun e w' => ∃ a' n' c', e = .returned (.slice a' n' c') ∧ IIS w' w.heap.size w'.heap.size a' n' c' (shapesIn R C) ∧ Below w.heap.size w w' := by
  by_cases hR : 0 ≤ R ∧ R ≤ 6
  · by_cases hC : 0 ≤ C ∧ C ≤ 6
    · have hy := Lib.hid (shapesIn_yes (R := R) (C := C) ⟨hR.1, hR.2, hC.1, hC.2⟩)
      go_enter Try.func31, Try.ntmps31
      go_wp2_with fail
      refine (l1In_yes _ _ _ _ hR).mono ?_
      rintro e w1 ⟨rfl, hd1⟩
      go_wp2_with fail
      refine (l1In_yes _ _ _ _ hC).mono ?_
      rintro e w2 ⟨rfl, hd2⟩
      have hb2 : Below w.heap.size w w2 := (hd1.trans hd2).below _
      have hs2 := hb2.size
      have e1 : (w2.alloc (.cells #[] 3)).ownsRow w2.heap.size 3 1 (.slice (some ⟨w2.heap.size, 0, none⟩) 0 0) 0 [] := World.ownsRow_made _ #[] 0 (Nat.le_refl _) (Nat.zero_le _) rfl
      have e2 : ((w2.alloc (.cells #[] 3)).alloc (.cells #[] 22)).ownsRow w2.heap.size 22 1 (.slice (some ⟨(w2.alloc (.cells #[] 3)).heap.size, 0, none⟩) 0 0) 0 [] := World.ownsRow_made _ #[] 0 (by simp) (Nat.zero_le _) rfl
      have hf : OwI ((w2.alloc (.cells #[] 3)).alloc (.cells #[] 22)) w2.heap.size (w2.heap.size + 1) (some ⟨w2.heap.size, 0, none⟩) 0 0 [] := by
        have := (OwI.mk (xs := []) e1).below (w' := (w2.alloc (.cells #[] 3)).alloc (.cells #[] 22)) ((Below.refl _ _).alloc (Nat.le_refl _) _)
        exact this.mono (Nat.le_refl _) (by simp)
      have hl : IIS ((w2.alloc (.cells #[] 3)).alloc (.cells #[] 22)) w2.heap.size (w2.heap.size + 2) (some ⟨w2.heap.size + 1, 0, none⟩) 0 0 [] :=
        ⟨[], by simpa using e2, fun k hk => by simp [Value.ownBlock] at hk; omega, rfl, by simp⟩
      have hbb : Below w.heap.size w ((w2.alloc (.cells #[] 3)).alloc (.cells #[] 22)) := (hb2.alloc hs2 _).alloc (by simp; omega) _
      have hfew := shapes_few R.toNat (by omega) C.toNat (by omega)
      have hlen : 0 + (shapes R.toNat C.toNat).length ≤ 1048576 := by omega
      have HL := Lib.hid hl; clear hl e1 e2
      have HF := Lib.hid hf; clear hf
      have HLen := Lib.hid hlen; clear hlen hfew
      go_wp2_with fail
      refine (l4Shapes_rec R.toNat C.toNat R C w2.heap.size _ _ _ _ _ _ _ _ _ _ _ (by omega) (by omega) (by omega) (by omega) HF.out (by omega) HL.out HLen.out (by simp; omega) (by simp) (by simp)).mono ?_
      rintro e w3 ⟨a3, n3, c3, rfl, ho3, hg3⟩
      have hB3 := hg3.below hbb (by simp; omega) (fun k hk => by simp [Value.ownBlock] at hk; omega)
      go_wp2
      go_ret
      refine ⟨_, _, _, rfl, ?_, hB3⟩
      rw [hy.out]
      obtain ⟨vs, h1, h2, h3, h4⟩ := ho3
      refine ⟨vs, ownsRow_base h1 hs2, h2, by simpa using h3, fun k xs hx => ?_⟩
      obtain ⟨a, c, q1, q2⟩ := h4 k xs (by simpa using hx)
      exact ⟨a, c, q1, q2.mono hs2 (Nat.le_refl _)⟩
    · have hno := Lib.hid (shapesIn_no (R := R) (C := C) (by omega))
      go_enter Try.func31, Try.ntmps31
      go_wp2_with fail
      refine (l1In_yes _ _ _ _ hR).mono ?_
      rintro e w1 ⟨rfl, hd1⟩
      go_wp2_with fail
      refine (l1In_no _ _ _ _ (by omega)).mono ?_
      rintro e w2 ⟨rfl, hd2⟩
      go_wp2
      go_ret
      exact ⟨_, _, _, rfl, by rw [hno.out]; exact IIO.nil.toS, (hd1.trans hd2).below _⟩
  · have hno := Lib.hid (shapesIn_no (R := R) (C := C) (by omega))
    go_enter Try.func31, Try.ntmps31
    go_wp2_with fail
    refine (l1In_no _ _ _ _ (by omega)).mono ?_
    rintro e w1 ⟨rfl, hd1⟩
    go_wp2
    go_ret
    exact ⟨_, _, _, rfl, by rw [hno.out]; exact IIO.nil.toS, hd1.below _⟩
end Go.Proofs.Ytleehkgfoicmdaa
