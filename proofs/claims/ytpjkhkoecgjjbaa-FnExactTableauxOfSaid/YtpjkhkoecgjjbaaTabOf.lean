/-
  Contracts of TableauxOf, the program's and the reference's.
-/
import Derived.Test.YtpjkhkoecgjjbaaFillI
import Derived.Test.YtpjkhkoecgjjbaaL4Fill
import Derived.Test.YtpjkhkoecgjjbaaSum
import Derived.Test.YtpjkhkoecgjjbaaL1In
namespace Go.Proofs.Ytpjkhkoecgjjbaa
open Go.RowKit

def smOk (xs : List Int) : Bool := isShape xs && decide (sumI xs ≤ 8)
theorem small_of_shape {xs : List Int} (h : isShape xs = true) : Small xs := by
  intro x hx
  obtain ⟨i, hi, rfl⟩ := List.mem_iff_getElem.1 hx
  have := (shOk_of h).pos i hi
  rw [List.getD_eq_getElem?_getD, List.getElem?_eq_getElem hi] at this
  simp at this
  omega

set_option maxHeartbeats 800000 in
theorem implSmall_any (a : Option Addr) (n c : Nat) (xs : List Int) (w : World) (hr : RI w a xs) (hn : xs.length = n) (hb : n ≤ 1048576) :
    Calls Try.prog 19 #[.slice a n c] w fun e w' => e = .returned (.bool (smOk xs)) ∧ Drew w w' := by
  have Hn := Lib.hid hn; clear hn
  cases hsh : isShape xs
  · have Hs := Lib.hid hsh; clear hsh
    go_enter Try.func19, Try.ntmps19
    go_wp2_with fail
    refine (is (implIsShape_any _ _ _ xs _ hr Hn.out (by omega)) Hs.out).mono ?_
    rintro e w1 ⟨rfl, hd⟩
    go_wp2
    go_ret
    exact ⟨ret_bool (by rw [smOk, Hs.out]; rfl), hd⟩
  · have Hsm := Lib.hid (small_of_shape hsh)
    have Hs := Lib.hid hsh; clear hsh
    obtain ⟨s, hs⟩ : ∃ s, sumI xs = s := ⟨_, rfl⟩
    have HS := Lib.hid hs; clear hs
    go_enter Try.func19, Try.ntmps19
    go_wp2_with fail
    refine (is (implIsShape_any _ _ _ xs _ hr Hn.out (by omega)) Hs.out).mono ?_
    rintro e w1 ⟨rfl, hd⟩
    go_wp2_with fail
    refine (isInt (sumImpl_any _ _ _ xs _ (hr.drew hd) Hn.out hb Hsm.out) HS.out).mono ?_
    rintro e w2 ⟨rfl, rfl⟩
    go_wp2
    go_ret
    exact ⟨ret_bool (by rw [smOk, Hs.out, HS.out]; rfl), hd⟩

def tabIn (xs : List Int) (x : Int) : Bool := smOk xs && decide (0 ≤ x ∧ x ≤ 7)
def tabM (xs : List Int) (x : Int) : List (List (List Int)) := if tabIn xs x = true ∧ (tabsOf xs x []).length ≤ 400 then tabsOf xs x [] else []
def tabB (xs : List Int) (x : Int) : Bool := tabIn xs x && decide ((tabsOf xs x []).length ≤ 400)
theorem tab_out {xs : List Int} {x : Int} (h : tabIn xs x = false) : tabM xs x = [] ∧ tabB xs x = false := by
  unfold tabM tabB
  rw [h]
  simp
/-- what the cut search has found, and what is answered -/
theorem tab_cut {xs : List Int} {x : Int} {L' : List (List (List Int))} (h : tabIn xs x = true) (hc : Cut [] (tabsOf xs x []) L') :
    (L'.length ≤ 400 → tabM xs x = L' ∧ tabB xs x = true) ∧ (¬ L'.length ≤ 400 → tabM xs x = [] ∧ tabB xs x = false) := by
  obtain ⟨h1, h2, h3⟩ := hc
  simp only [List.length_nil, Nat.zero_add, List.nil_append] at h1 h2 h3
  unfold tabM tabB
  rw [h]
  rcases Nat.lt_or_ge 400 (tabsOf xs x []).length with h4 | h4
  · have := h3 h4
    refine ⟨fun h5 => by omega, fun _ => ?_⟩
    rw [if_neg (by omega), decide_eq_false (by omega)]
    exact ⟨rfl, rfl⟩
  · have := h2 h4
    subst this
    refine ⟨fun h5 => ?_, fun h5 => absurd h4 h5⟩
    rw [if_pos ⟨rfl, h4⟩, decide_eq_true h4]
    exact ⟨rfl, rfl⟩
theorem tabs_ok {shape : List Int} {n : Int} (hs : ShOk shape) (hn : n ≤ 7) : ∀ (f : Nat) (t : List (List Int)), TOk shape t → ∀ t' ∈ tabs shape n f t, TOk shape t'
  | 0, _, _, t', h => by cases h
  | f + 1, t, ht, t', h => by
    rw [tabs] at h
    by_cases hf : fullT shape t = true
    · rw [if_pos hf] at h
      by_cases hl : t.length = shape.length
      · rw [if_pos hl, List.mem_singleton] at h
        subst h
        exact ht
      · rw [if_neg hl] at h
        exact tabs_ok hs hn f _ (ht.row hs hf hl) t' h
    · rw [if_neg hf] at h
      rw [Bool.not_eq_true] at hf
      obtain ⟨x, hx, h2⟩ := List.mem_flatMap.1 h
      have hx2 := numsOf_mem hx
      have h0 := (lowT_range ht).1
      exact tabs_ok hs hn f _ (ht.put (notFull ht hf).1 hf (by omega)) t' h2
theorem sz_II_short : ∀ (t : List (List Int)), (∀ r ∈ t, r.length ≤ 16) → sz_II t ≤ t.length * 16
  | [], _ => Nat.le_refl _
  | r :: t, h => by
    rw [sz_II, List.length_cons]
    have h1 := h r (by simp)
    have h2 := sz_II_short t fun q hq => h q (by simp [hq])
    omega
theorem sz_III_short : ∀ (L : List (List (List Int))), (∀ t ∈ L, sz_II t ≤ 256) → sz_III L ≤ L.length * 256
  | [], _ => Nat.le_refl _
  | t :: L, h => by
    rw [sz_III, List.length_cons]
    have h1 := h t (by simp)
    have h2 := sz_III_short L fun q hq => h q (by simp [hq])
    omega
theorem TOk.rows {shape : List Int} {t : List (List Int)} (hs : ShOk shape) (h : TOk shape t) : ∀ r ∈ t, r.length ≤ 16 := by
  intro row hr
  obtain ⟨i, hi, he⟩ := List.getElem_of_mem hr
  have hri : rowAt t i = row := by unfold rowAt; rw [List.getD_eq_getElem?_getD, List.getElem?_eq_getElem hi, he]; rfl
  have hlen := h.len
  have hp := (hs.pos i (by omega)).2
  rcases Nat.lt_or_ge (i + 1) t.length with h1 | h1
  · have := h.full i h1
    rw [hri] at this
    omega
  · have := h.last (by omega)
    have e : lastT t = row := by unfold lastT; rw [show t.length - 1 = i by omega]; exact hri
    rw [e, show t.length - 1 = i by omega] at this
    omega
theorem tabM_mem {xs : List Int} {x : Int} {t : List (List Int)} (h : t ∈ tabM xs x) : t.length ≤ 16 ∧ ∀ r ∈ t, r.length ≤ 16 := by
  unfold tabM at h
  split at h
  · next hc =>
    have h1 := hc.1
    unfold tabIn smOk at h1
    simp only [Bool.and_eq_true, decide_eq_true_eq] at h1
    have hs := shOk_of h1.1.1
    have := tabs_ok hs h1.2.2 _ [] (TOk.nil xs) t h
    exact ⟨by have := this.len; have := hs.few; omega, this.rows hs⟩
  · cases h
theorem tabM_few (xs : List Int) (x : Int) : (tabM xs x).length ≤ 400 := by
  unfold tabM
  split
  · next h => exact h.2
  · simp
theorem tabM_sz (xs : List Int) (x : Int) : sz_III (tabM xs x) ≤ 1099511627776 := by
  have h1 := sz_III_short (tabM xs x) fun t ht => by
    have := tabM_mem ht
    have := sz_II_short t this.2
    omega
  have := tabM_few xs x
  omega
theorem tabM_len (xs : List Int) (x : Int) : (tabM xs x).length ≤ 1048576 := Nat.le_trans (tabM_few xs x) (by omega)
theorem tabM_short (xs : List Int) (x : Int) : ShortIII (tabM xs x) := fun t ht => by
  have := tabM_mem ht
  exact ⟨by omega, fun r hr => by have := this.2 r hr; omega⟩

theorem IIO.made (w : World) : IIO (w.alloc (.cells #[] 22)) w.heap.size (w.alloc (.cells #[] 22)).heap.size (some ⟨w.heap.size, 0, none⟩) 0 0 [] :=
  ⟨[], World.ownsRow_made w #[] 0 (Nat.le_refl _) (Nat.zero_le _) rfl, fun k hk => by simp [Value.ownBlock] at hk; simp; omega, rfl, by simp, by simp⟩
/-- what both return -/
def TabPost (w : World) (xs : List Int) (x : Int) (e : Ending) (w' : World) : Prop :=
  ∃ a' n' c' r, e = .returned (.tuple #[.slice a' n' c', .bool r]) ∧ IIIO w' w.heap.size w'.heap.size a' n' c' (tabM xs x) ∧ Hid (r = tabB xs x) ∧ Below w.heap.size w w'
theorem ShB.of_ri {w : World} {a : Option Addr} {xs : List Int} (h : RI w a xs) : ShB w w.heap.size a xs := by
  refine ⟨h, ?_⟩
  rcases h with h | ⟨b, off, ha, hc⟩
  · exact .inl h
  · cases hx : xs with
    | nil => exact .inl rfl
    | cons x r =>
      refine .inr fun ad had => ?_
      rw [ha] at had
      obtain rfl := Option.some.inj had
      exact World.block_lt_of_cell? _ _ (hc 0 x (by rw [hx]; rfl))

set_option maxHeartbeats 3200000 in
theorem specTab_any (a : Option Addr) (n c : Nat) (xs : List Int) (x : Int) (w : World) (hr : RI w a xs) (hn : xs.length = n) (hb : n ≤ 1048576) (hl : -9223372036854775808 ≤ x) (hu : x ≤ 9223372036854775807) :
    Calls Try.prog 5 #[.slice a n c, .int .i64 x] w (TabPost w xs x) := by
  have Hn := Lib.hid hn; clear hn
  cases hsh : isShape xs
  · have Hs := Lib.hid hsh
    have HM := Lib.hid (tab_out (xs := xs) (x := x) (by rw [tabIn, smOk, hsh]; rfl))
    clear hsh
    go_enter Try.func5, Try.ntmps5
    go_wp2_with fail
    refine (is (specIsShape_any _ _ _ xs _ hr Hn.out (by omega)) Hs.out).mono ?_
    rintro e w1 ⟨rfl, hd⟩
    go_wp2
    go_ret2
    exact ⟨none, 0, 0, false, rfl, by rw [HM.out.1]; exact IIIO.nil, Lib.hid HM.out.2.symm, hd.below _⟩
  · have Hsm := Lib.hid (small_of_shape hsh)
    have Hok := Lib.hid (shOk_of hsh)
    have Hs := Lib.hid hsh
    obtain ⟨s, hs⟩ : ∃ s, sumI xs = s := ⟨_, rfl⟩
    have HS := Lib.hid hs
    by_cases h8 : 8 < s
    · have HM := Lib.hid (tab_out (xs := xs) (x := x) (by rw [tabIn, smOk, hsh, hs, decide_eq_false (show ¬ s ≤ 8 by omega)]; rfl))
      clear hsh hs
      go_enter Try.func5, Try.ntmps5
      go_wp2_with fail
      refine (is (specIsShape_any _ _ _ xs _ hr Hn.out (by omega)) Hs.out).mono ?_
      rintro e w1 ⟨rfl, hd⟩
      go_wp2_with fail
      refine (isInt (l1Sum_any _ _ _ xs _ (hr.drew hd) Hn.out hb Hsm.out) HS.out).mono ?_
      rintro e w2 ⟨rfl, rfl⟩
      go_wp2
      go_ret2
      exact ⟨none, 0, 0, false, rfl, by rw [HM.out.1]; exact IIIO.nil, Lib.hid HM.out.2.symm, hd.below _⟩
    · by_cases hx : 0 ≤ x ∧ x ≤ 7
      · have HI := Lib.hid (show tabIn xs x = true by rw [tabIn, smOk, hsh, hs, decide_eq_true (show s ≤ 8 by omega), decide_eq_true hx]; rfl)
        clear hsh hs
        go_enter Try.func5, Try.ntmps5
        go_wp2_with fail
        refine (is (specIsShape_any _ _ _ xs _ hr Hn.out (by omega)) Hs.out).mono ?_
        rintro e w1 ⟨rfl, hd⟩
        go_wp2_with fail
        refine (isInt (l1Sum_any _ _ _ xs _ (hr.drew hd) Hn.out hb Hsm.out) HS.out).mono ?_
        rintro e w2 ⟨rfl, rfl⟩
        go_wp2_with fail
        refine (l1In_yes _ _ _ _ hx).mono ?_
        rintro e w2 ⟨rfl, hd2⟩
        have hb2 : Below w.heap.size w w2 := (hd.trans hd2).below _
        have hs2 := hb2.size
        have HT := Lib.hid (IIO.made w2)
        have hsz1 : (w2.alloc (.cells #[] 22)).heap.size = w2.heap.size + 1 := by simp
        have hsz2 : ((w2.alloc (.cells #[] 22)).alloc (.cells #[] 38)).heap.size = w2.heap.size + 2 := by simp
        have hbt : Below (w2.alloc (.cells #[] 22)).heap.size (w2.alloc (.cells #[] 22)) ((w2.alloc (.cells #[] 22)).alloc (.cells #[] 38)) := (Below.refl _ _).alloc (Nat.le_refl _) _
        have HBB := Lib.hid (show Below w.heap.size w ((w2.alloc (.cells #[] 22)).alloc (.cells #[] 38)) from (hb2.alloc hs2 _).alloc (by rw [hsz1]; omega) _)
        have HP := Lib.hid (show FillPre xs w.heap.size w2.heap.size (w2.heap.size + 1) a n (some ⟨w2.heap.size, 0, none⟩) 0 0 [] (some ⟨w2.heap.size + 1, 0, none⟩) 0 0 [] ((w2.alloc (.cells #[] 22)).alloc (.cells #[] 38)) from
          ⟨(ShB.of_ri hr).below HBB.out, Hn.out, by have := HT.out.below hbt; rw [hsz1] at this; exact this, by rw [hsz2]; omega, hs2, by have := IIIO.made (w2.alloc (.cells #[] 22)); rw [hsz1] at this; exact this.mono (by omega) (Nat.le_refl _), fun q hq => by simp [Value.ownBlock] at hq; omega, by rw [hsz2]; omega, TOk.nil xs, by omega⟩)
        clear hbt HT
        go_wp2_with fail
        refine (l4Fill_any xs x Hok.out hx (leftT xs [] + 1) w.heap.size w2.heap.size (w2.heap.size + 1) a n c _ 0 0 [] _ 0 0 [] _ HP.out (Nat.lt_succ_self _)).mono ?_
        rintro e w3 ⟨a3, k3, c3, L3, rfl, ho3, hc3, hg3⟩
        have hlen := ho3.len
        have hk3 : k3 ≤ 401 := by rw [← hlen]; exact hc3.out.1
        have hC := tab_cut HI.out hc3.out
        have HB3 := Lib.hid (show Below w.heap.size w w3 from hg3.below HBB.out (by rw [hsz2]; omega) (fun q hq => by simp [Value.ownBlock] at hq; omega))
        have HO3 := Lib.hid ho3
        by_cases h4 : k3 ≤ 400
        · have h4I : ¬ (400 : Int) < (k3 : Int) := by omega
          have HM := Lib.hid (hC.1 (by omega))
          clear hg3 hc3 ho3 hlen hC
          go_wp2
          go_ret2
          exact ⟨a3, k3, c3, true, rfl, by rw [HM.out.1]; exact HO3.out.mono (Nat.le_refl _) (Nat.le_refl _), Lib.hid HM.out.2.symm, HB3.out⟩
        · have h4I : (400 : Int) < (k3 : Int) := by omega
          have HM := Lib.hid (hC.2 (by omega))
          clear hg3 hc3 ho3 hlen hC
          go_wp2
          go_ret2
          exact ⟨none, 0, 0, false, rfl, by rw [HM.out.1]; exact IIIO.nil, Lib.hid HM.out.2.symm, HB3.out⟩
      · have HM := Lib.hid (tab_out (xs := xs) (x := x) (by rw [tabIn, decide_eq_false hx]; simp))
        clear hsh hs
        go_enter Try.func5, Try.ntmps5
        go_wp2_with fail
        refine (is (specIsShape_any _ _ _ xs _ hr Hn.out (by omega)) Hs.out).mono ?_
        rintro e w1 ⟨rfl, hd⟩
        go_wp2_with fail
        refine (isInt (l1Sum_any _ _ _ xs _ (hr.drew hd) Hn.out hb Hsm.out) HS.out).mono ?_
        rintro e w2 ⟨rfl, rfl⟩
        go_wp2_with fail
        refine (l1In_no _ _ _ _ (by omega)).mono ?_
        rintro e w2 ⟨rfl, hd2⟩
        go_wp2
        go_ret2
        exact ⟨none, 0, 0, false, rfl, by rw [HM.out.1]; exact IIIO.nil, Lib.hid HM.out.2.symm, (hd.trans hd2).below _⟩

set_option maxHeartbeats 3200000 in
theorem implTab_any (a : Option Addr) (n c : Nat) (xs : List Int) (x : Int) (w : World) (hr : RI w a xs) (hn : xs.length = n) (hb : n ≤ 1048576) (hl : -9223372036854775808 ≤ x) (hu : x ≤ 9223372036854775807) :
    Calls Try.prog 7 #[.slice a n c, .int .i64 x] w (TabPost w xs x) := by
  have Hn := Lib.hid hn; clear hn
  cases hsh : smOk xs
  · have Hs := Lib.hid hsh
    have HM := Lib.hid (tab_out (xs := xs) (x := x) (by rw [tabIn, hsh]; rfl))
    clear hsh
    go_enter Try.func7, Try.ntmps7
    go_wp2_with fail
    refine (is (implSmall_any _ _ _ xs _ hr Hn.out (by omega)) Hs.out).mono ?_
    rintro e w1 ⟨rfl, hd⟩
    go_wp2
    go_ret2
    exact ⟨none, 0, 0, false, rfl, by rw [HM.out.1]; exact IIIO.nil, Lib.hid HM.out.2.symm, hd.below _⟩
  · have Hok := Lib.hid (shOk_of (show isShape xs = true by unfold smOk at hsh; rw [Bool.and_eq_true] at hsh; exact hsh.1))
    have Hs := Lib.hid hsh
    by_cases hx : 0 ≤ x ∧ x ≤ 7
    · have HI := Lib.hid (show tabIn xs x = true by rw [tabIn, hsh, decide_eq_true hx]; rfl)
      clear hsh
      go_enter Try.func7, Try.ntmps7
      go_wp2_with fail
      refine (is (implSmall_any _ _ _ xs _ hr Hn.out (by omega)) Hs.out).mono ?_
      rintro e w1 ⟨rfl, hd⟩
      have hb1 : Below w.heap.size w w1 := hd.below _
      have hs1 := hb1.size
      have hsz1 : (w1.alloc (.cells #[] 38)).heap.size = w1.heap.size + 1 := by simp
      have hsz2 : ((w1.alloc (.cells #[] 38)).alloc (.cells #[.slice (some ⟨w1.heap.size, 0, none⟩) 0 0] 23)).heap.size = w1.heap.size + 2 := by simp
      have hbt : Below (w1.alloc (.cells #[] 38)).heap.size (w1.alloc (.cells #[] 38)) ((w1.alloc (.cells #[] 38)).alloc (.cells #[.slice (some ⟨w1.heap.size, 0, none⟩) 0 0] 23)) := (Below.refl _ _).alloc (Nat.le_refl _) _
      have HBB := Lib.hid (show Below w.heap.size w ((w1.alloc (.cells #[] 38)).alloc (.cells #[.slice (some ⟨w1.heap.size, 0, none⟩) 0 0] 23)) from (hb1.alloc hs1 _).alloc (by rw [hsz1]; omega) _)
      have hsh0 := (ShB.of_ri hr).below HBB.out
      have HP := Lib.hid (show FillPreI xs (w1.heap.size + 1) (w1.heap.size + 2) (w1.heap.size + 2) a n none 0 0 [] (some ⟨w1.heap.size, 0, none⟩) 0 0 [] ((w1.alloc (.cells #[] 38)).alloc (.cells #[.slice (some ⟨w1.heap.size, 0, none⟩) 0 0] 23)) from
        ⟨⟨hsh0.1, hsh0.2.imp id fun h ad had => Nat.lt_of_lt_of_le (h ad had) hs1⟩, Hn.out, IIS.nil _ _ _, by omega, by rw [hsz2]; omega, Nat.le_refl _, by rw [hsz2]; omega, .inr ⟨rfl, rfl, rfl, by omega, rfl, ((IIIO.made w1).below hbt).mono (Nat.le_refl _) (by rw [hsz1]; omega)⟩, by simp, by simp, by simp [Value.ownBlock], TOk.nil xs, by omega⟩)
      clear hbt hsh0
      go_wp2_with fail
      refine (fill_any xs x Hok.out hx (leftT xs [] + 1) (w1.heap.size + 1) (w1.heap.size + 2) (w1.heap.size + 2) a n c none 0 0 [] _ 0 0 [] _ HP.out (Nat.lt_succ_self _)).mono ?_
      rintro e w3 ⟨a3, k3, c3, L3, rfl, hbox, hfz, hl3, hc3, hbut, _⟩
      have hlen := hl3.len
      have hk3 : k3 ≤ 401 := by rw [← hlen]; exact hc3.out.1
      have hC := tab_cut HI.out hc3.out
      have hs3 := hbut.size
      have HB3 := Lib.hid (show Below w.heap.size w w3 from HBB.out.trans ⟨hbut.os, hbut.tape, hbut.output, hbut.size, fun q hq => hbut.block q (by omega) fun h => by
        rcases h with rfl | h | h
        · omega
        · simp [Value.ownBlock] at h; omega
        · simp [Value.ownBlock] at h⟩)
      have HO3 := Lib.hid (hl3.weak (by omega))
      by_cases h4 : k3 ≤ 400
      · rw [decide_eq_true (show (k3 : Int) ≤ 400 by omega)]
        have HM := Lib.hid (hC.1 (by omega))
        clear hbut hc3 hl3 hlen hC
        go_wp2
        go_ret2
        exact ⟨a3, k3, c3, true, rfl, by rw [HM.out.1]; exact HO3.out.mono (by omega) (Nat.le_refl _), Lib.hid HM.out.2.symm, HB3.out⟩
      · rw [decide_eq_false (show ¬ (k3 : Int) ≤ 400 by omega)]
        have HM := Lib.hid (hC.2 (by omega))
        clear hbut hc3 hl3 hlen hC
        go_wp2
        go_ret2
        exact ⟨none, 0, 0, false, rfl, by rw [HM.out.1]; exact IIIO.nil, Lib.hid HM.out.2.symm, HB3.out⟩
    · have HM := Lib.hid (tab_out (xs := xs) (x := x) (by rw [tabIn, decide_eq_false hx]; simp))
      have hxx : x < 0 ∨ (0 ≤ x ∧ 7 < x) := by omega
      clear hsh hx
      rcases hxx with h | ⟨h, h2⟩
      all_goals
        go_enter Try.func7, Try.ntmps7
        go_wp2_with fail
        refine (is (implSmall_any _ _ _ xs _ hr Hn.out (by omega)) Hs.out).mono ?_
        rintro e w1 ⟨rfl, hd⟩
        go_wp2
        go_ret2
        exact ⟨none, 0, 0, false, rfl, by rw [HM.out.1]; exact IIIO.nil, Lib.hid HM.out.2.symm, hd.below _⟩
end Go.Proofs.Ytpjkhkoecgjjbaa
