/-
  Contracts of ConjugateShape, the program's and the reference's.
-/
import Derived.Test.YtleehkgfoicmdaaShape
import Derived.Test.YtleehkgfoicmdaaL4At
namespace Go.Proofs.Ytleehkgfoicmdaa
open Go.RowKit

/-- how many of the numbers are above j -/
def above (xs : List Int) (j : Int) : Nat := (xs.filter fun x => decide (j < x)).length
def conj (xs : List Int) : List Int := (List.range (xs.getD 0 0).toNat).map fun (j : Nat) => (above xs j : Int)
def conjugate (xs : List Int) : List Int := if isShape xs then conj xs else []
theorem above_le (xs : List Int) (j : Int) : above xs j ≤ xs.length := List.length_filter_le _ _
theorem above_take (xs : List Int) (j : Int) (k : Nat) {x : Int} (hx : xs[k]? = some x) : above (xs.take (k + 1)) j = above (xs.take k) j + if j < x then 1 else 0 := by
  obtain ⟨h, rfl⟩ := List.getElem?_eq_some_iff.1 hx
  unfold above
  rw [List.take_succ_eq_append_getElem h, List.filter_append, List.length_append]
  by_cases h1 : j < xs[k] <;> simp [h1]
theorem conj_take (xs : List Int) (j : Nat) (h : j < (xs.getD 0 0).toNat) : (conj xs).take j ++ [(above xs j : Int)] = (conj xs).take (j + 1) := by
  rw [List.take_succ_eq_append_getElem (by simpa [conj] using h)]
  congr 1
  simp [conj]
theorem conj_length (xs : List Int) : (conj xs).length = (xs.getD 0 0).toNat := by simp [conj]
theorem head_bd {xs : List Int} (h : isShape xs = true) : 0 ≤ xs.getD 0 0 ∧ xs.getD 0 0 ≤ 16 := by
  by_cases h0 : xs.length = 0
  · obtain rfl := List.eq_nil_of_length_eq_zero h0; simp
  · simp only [isShape, Bool.and_eq_true, List.all_eq_true] at h
    have := h.2 0 (by simp; omega)
    simp only [shapeAt, Bool.and_eq_true, decide_eq_true_eq] at this
    omega
theorem shape_bd {xs : List Int} (h : isShape xs = true) : xs.length ≤ 16 := by simp [isShape] at h; exact h.1

set_option maxHeartbeats 800000 in
theorem specConj_any (a : Option Addr) (n c : Nat) (xs : List Int) (w : World) (hr : RI w a xs) (hn : xs.length = n) (hb : n ≤ 17592186044416) :
    Calls Try.prog 35 #[.slice a n c] w fun e w' => ∃ a' n' c', e = .returned (.slice a' n' c') ∧ OS w' w.heap.size a' n' c' (conjugate xs) ∧ Below w.heap.size w w' := by
  have Hn := Lib.hid hn; clear hn
  cases hsh : isShape xs
  · have Hs := Lib.hid hsh; clear hsh
    go_enter Try.func35, Try.ntmps35
    go_wp2_with fail
    refine (is (specIsShape_any _ _ _ xs _ hr Hn.out (by omega)) Hs.out).mono ?_
    rintro e w1 ⟨rfl, hd⟩
    go_wp2
    go_ret
    exact ⟨none, 0, 0, rfl, by rw [conjugate, Hs.out]; exact ⟨rfl, World.ownsRow_nil _ _ _ _⟩, hd.below _⟩
  · have hbd := head_bd hsh
    obtain ⟨h, hh⟩ : ∃ h : Nat, xs.getD 0 0 = (h : Int) := ⟨(xs.getD 0 0).toNat, by omega⟩
    have hlen := shape_bd hsh
    rw [Hn.out] at hlen
    rw [hh] at hbd
    have Hs := Lib.hid hsh; clear hsh
    have Hh := Lib.hid hh; clear hh
    obtain ⟨i0, hi, hz0, hz1, hz2⟩ := info_parts Try.info3
    go_enter Try.func35, Try.ntmps35
    go_wp2_with fail
    refine (is (specIsShape_any _ _ _ xs _ hr Hn.out (by omega)) Hs.out).mono ?_
    rintro e w1 ⟨rfl, hd⟩
    have hB1 : Below w.heap.size w w1 := hd.below _
    have hsz := hB1.size
    go_wp2_with fail
    go_loopw [3, 4] (fun v j wr => ∃ k : Nat, k ≤ h ∧ j = .int .i64 k ∧ (∃ a' c', v = .slice a' k c' ∧ OS wr w.heap.size a' k c' ((conj xs).take k)) ∧ Below w.heap.size w wr) (fun _ j _ => h - (intOf j).toNat)
    case atStart =>
      refine ⟨0, Nat.zero_le _, rfl, ⟨_, _, rfl, rfl, ?_⟩, hB1.alloc hsz _⟩
      exact World.ownsRow_made _ #[] 0 hsz (Nat.zero_le _) rfl
    case round =>
      obtain ⟨k, hk, rfl, ⟨a', c', rfl, ho⟩, hbel⟩ := hrel
      obtain ⟨wo, rfl⟩ : ∃ wo : World, wo = wr := ⟨_, rfl⟩
      have hro := hr.below hbel
      by_cases hlt : k < h
      · go_wp2_with (go_at_call 73; refine (l4At_is _ _ _ xs 0 _ h _ hro Hn.out hb (by omega) rfl Hh.out).mono ?_; rintro e w' ⟨rfl, rfl⟩)
        go_loop [5, 6] (fun t i => ∃ m : Nat, m ≤ n ∧ i = .int .i64 m ∧ t = .int .i64 (above (xs.take m) k)) (fun _ i => n - (intOf i).toNat)
        case atStart => exact ⟨0, Nat.zero_le _, rfl, rfl⟩
        case round =>
          obtain ⟨m, hm, rfl, rfl⟩ := hrel
          by_cases hmn : m < n
          · obtain ⟨b, off, rfl, hcell⟩ := hro.at (k := m) (by rw [Hn.out]; exact hmn)
            obtain ⟨x, hx⟩ := some_at Hn.out hmn
            have hc := hcell m x hx
            have hab := above_le (xs.take m) k
            have hab2 : above (xs.take m) k ≤ 16 := by simp at hab; omega
            clear hab
            have hst := Lib.hid (above_take xs k m hx)
            clear hcell hx
            by_cases h1 : (k : Int) < x
            · go_wp2
              go_round
              case rel => exact ⟨m + 1, by omega, by go_num, by rw [hst.out, if_pos h1]; go_num⟩
              case measure => simp [intOf]; omega
            · go_wp2
              go_round
              case rel => exact ⟨m + 1, by omega, by go_num, by rw [hst.out, if_neg h1]; go_num⟩
              case measure => simp [intOf]; omega
          · obtain rfl : m = n := by omega
            have hst : above (xs.take m) k = above xs k := by rw [List.take_of_length_le (by rw [Hn.out]; omega)]
            have hown := ho.own
            have hbs := hbel.size
            go_wp2_with (at_builtin; go_loud (refine wpList_push wo (.int .i64 (above xs k)) 3 (by rfl) (by rfl) _ _ 22 (by rfl) w.heap.size i0 (.int .i64 0) 8 Try.underlying22 hi hz0 hz1 hz2 rfl _ k (ints ((conj xs).take k)) (by rfl) hown (by rfl) (by rfl) (by omega) (by omega) hbs ?_))
            intro a2 c2 w2 hown2 hg2
            have hw2 := OS.snoc hown2
            have hb2 := below_grown hbel hg2 hbs ho.lo
            clear hown hown2 hg2
            go_wp2
            go_roundw
            case rel => exact ⟨k + 1, by omega, by go_num, ⟨a2, c2, rfl, by rw [← conj_take _ _ (by rw [Hh.out]; omega)]; exact hw2⟩, hb2⟩
            case measure => simp [intOf]; omega
      · go_wp2_with (go_at_call 73; refine (l4At_is _ _ _ xs 0 _ h _ hro Hn.out hb (by omega) rfl Hh.out).mono ?_; rintro e w' ⟨rfl, rfl⟩)
        go_ret
        obtain rfl : k = h := by omega
        rw [List.take_of_length_le (by rw [conj_length, Hh.out]; simp)] at ho
        exact ⟨_, _, _, rfl, by rw [conjugate, Hs.out]; exact ho, hbel⟩
theorem shape_step {xs : List Int} (h : isShape xs = true) {k : Nat} (hk : k < xs.length) (h0 : k ≠ 0) : xs.getD k 0 ≤ xs.getD (k - 1) 0 := by
  simp only [isShape, Bool.and_eq_true, List.all_eq_true] at h
  have := h.2 k (by simpa using hk)
  simp only [shapeAt, Bool.and_eq_true, Bool.or_eq_true, decide_eq_true_eq, beq_iff_eq] at this
  rcases this.2 with h | h
  · exact absurd h h0
  · exact h
theorem shape_down {xs : List Int} (h : isShape xs = true) {i : Nat} : ∀ {k : Nat}, i ≤ k → k < xs.length → xs.getD k 0 ≤ xs.getD i 0 := by
  intro k
  induction k with
  | zero => intro h1 _; obtain rfl : i = 0 := (by omega); exact Int.le_refl _
  | succ k ih =>
    intro h1 h2
    rcases Nat.lt_or_ge k i with h3 | h3
    · obtain rfl : i = k + 1 := (by omega); exact Int.le_refl _
    · have := ih h3 (by omega)
      have := shape_step h h2 (by omega)
      simp only [Nat.add_sub_cancel] at this
      omega
theorem above_prefix {xs : List Int} (h : isShape xs = true) {j : Int} {n : Nat} (hn : n ≤ xs.length) (h1 : ∀ i, i < n → j < xs.getD i 0) (h2 : n < xs.length → xs.getD n 0 ≤ j) : above xs j = n := by
  have e : xs = xs.take n ++ xs.drop n := (List.take_append_drop n xs).symm
  unfold above
  rw [e, List.filter_append, List.length_append]
  have e1 : (xs.take n).filter (fun x => decide (j < x)) = xs.take n := by
    rw [List.filter_eq_self]
    intro x hx
    obtain ⟨i, hi, rfl⟩ := List.mem_iff_getElem.1 hx
    simp only [List.length_take] at hi
    have := h1 i (by omega)
    rw [List.getElem_take]
    rw [List.getD_eq_getElem?_getD, List.getElem?_eq_getElem (by omega)] at this
    simpa using this
  have e2 : (xs.drop n).filter (fun x => decide (j < x)) = [] := by
    rw [List.filter_eq_nil_iff]
    intro x hx
    obtain ⟨i, hi, rfl⟩ := List.mem_iff_getElem.1 hx
    simp only [List.length_drop] at hi
    have a1 := h2 (by omega)
    have a2 := shape_down h (i := n) (k := n + i) (by omega) (by omega)
    rw [List.getElem_drop]
    rw [List.getD_eq_getElem?_getD, List.getElem?_eq_getElem (show n + i < xs.length by omega)] at a2
    simp at a2 ⊢
    rw [List.getD_eq_getElem?_getD] at a1
    omega
  rw [e1, e2]
  simp; omega

set_option maxHeartbeats 800000 in
theorem implConj_any (a : Option Addr) (n c : Nat) (xs : List Int) (w : World) (hr : RI w a xs) (hn : xs.length = n) (hb : n ≤ 17592186044416) :
    Calls Try.prog 30 #[.slice a n c] w fun e w' => ∃ a' n' c', e = .returned (.slice a' n' c') ∧ OS w' w.heap.size a' n' c' (conjugate xs) ∧ Below w.heap.size w w' := by
  have Hn := Lib.hid hn; clear hn
  have hemp : (w.alloc (.cells #[] 3)).ownsRow w.heap.size 3 1 (.slice (some ⟨w.heap.size, 0, none⟩) 0 0) 0 [] := World.ownsRow_made _ #[] 0 (Nat.le_refl _) (Nat.zero_le _) rfl
  have HE := Lib.hid hemp; clear hemp
  have hB0 : Below w.heap.size w (w.alloc (.cells #[] 3)) := (Below.refl _ _).alloc (Nat.le_refl _) _
  have hr0 := hr.below hB0
  cases hsh : isShape xs
  · have Hs := Lib.hid hsh; clear hsh
    go_enter Try.func30, Try.ntmps30
    go_wp2_with fail
    refine (is (implIsShape_any _ _ _ xs _ hr0 Hn.out (by omega)) Hs.out).mono ?_
    rintro e w1 ⟨rfl, hd⟩
    go_wp2
    go_ret
    exact ⟨_, _, _, rfl, by rw [conjugate, Hs.out]; exact (show OS _ _ _ _ _ [] from OS.of HE.out).below (hd.below _), hB0.trans (hd.below _)⟩
  · have hbd := head_bd hsh
    obtain ⟨h, hh⟩ : ∃ h : Nat, xs.getD 0 0 = (h : Int) := ⟨(xs.getD 0 0).toNat, by omega⟩
    have hlen := shape_bd hsh
    rw [Hn.out] at hlen
    rw [hh] at hbd
    have Hs := Lib.hid hsh; clear hsh
    have Hh := Lib.hid hh; clear hh
    obtain ⟨i0, hi, hz0, hz1, hz2⟩ := info_parts Try.info3
    by_cases h0 : n = 0
    · subst h0
      go_enter Try.func30, Try.ntmps30
      go_wp2_with fail
      refine (is (implIsShape_any _ _ _ xs _ hr0 Hn.out (by omega)) Hs.out).mono ?_
      rintro e w1 ⟨rfl, hd⟩
      go_wp2
      go_ret
      have hx : xs = [] := List.eq_nil_of_length_eq_zero Hn.out
      exact ⟨_, _, _, rfl, by subst hx; exact (show OS _ _ _ _ _ [] from OS.of HE.out).below (hd.below _), hB0.trans (hd.below _)⟩
    · have hne : ((n : Int) == 0) = false := by simp; omega
      have h0n : 0 < n := by omega
      obtain ⟨b, off, rfl, hcell0⟩ := hr0.at (k := 0) (by rw [Hn.out]; omega)
      obtain ⟨x0, hx0⟩ := some_at Hn.out h0n
      have hc0 : (w.alloc (.cells #[] 3)).cell? ⟨b, off, none⟩ = some (.int .i64 x0) := hcell0 0 x0 hx0
      obtain rfl : (h : Int) = x0 := by rw [← Hh.out, getD_of hx0]
      clear hcell0 hx0
      go_enter Try.func30, Try.ntmps30
      go_wp2_with fail
      refine (is (implIsShape_any _ _ _ xs _ hr0 Hn.out (by omega)) Hs.out).mono ?_
      rintro e w1 ⟨rfl, hd⟩
      have hc1 : w1.cell? ⟨b, off, none⟩ = some (.int .i64 h) := by rw [hd.cell]; exact hc0
      clear hc0
      have hB1 := hB0.trans (hd.below _)
      have hsz := hB1.size
      have ho1 : OS w1 w.heap.size (some ⟨w.heap.size, 0, none⟩) 0 0 [] := (OS.of HE.out).below (hd.below _)
      clear HE
      go_wp2
      clear hc1 hr0 hB0
      go_loopw [3, 19] (fun v j wr => ∃ k : Nat, k ≤ h ∧ j = .int .i64 k ∧ (∃ a' c', v = .slice a' k c' ∧ OS wr w.heap.size a' k c' ((conj xs).take k)) ∧ Below w.heap.size w wr) (fun _ j _ => h - (intOf j).toNat)
      case atStart => exact ⟨0, Nat.zero_le _, rfl, ⟨_, _, rfl, ho1⟩, hB1⟩
      case round =>
        clear ho1 hB1
        obtain ⟨k, hk, rfl, ⟨a', c', rfl, ho⟩, hbel⟩ := hrel
        obtain ⟨wo, rfl⟩ : ∃ wo : World, wo = wr := ⟨_, rfl⟩
        have hro := hr.below hbel
        by_cases hlt : k < h
        · go_wp2
          go_loop [5] (fun t => ∃ m : Nat, m ≤ n ∧ t = .int .i64 m ∧ Hid (∀ i, i < m → (k : Int) < xs.getD i 0)) (fun t => n - (intOf t).toNat)
          case atStart => exact ⟨0, Nat.zero_le _, rfl, by intro i hi; omega⟩
          case round =>
            obtain ⟨m, hm, rfl, HA⟩ := hrel
            have hown := ho.own
            have hbs := hbel.size
            by_cases hmn : m < n
            · obtain ⟨b', off', hbo, hcell⟩ := hro.at (k := m) (by rw [Hn.out]; exact hmn)
              simp only [Option.some.injEq, Addr.mk.injEq, and_true] at hbo
              obtain ⟨rfl, rfl⟩ := hbo
              obtain ⟨x, hx⟩ := some_at Hn.out hmn
              have hc := hcell m x hx
              have Hx := Lib.hid hx
              clear hcell hx
              by_cases h1 : (k : Int) < x
              · clear hown
                go_wp2
                go_round
                case rel => exact ⟨m + 1, by omega, by go_num, by
                      intro i hi
                      rcases Nat.lt_or_ge i m with h | h
                      · exact HA.out i h
                      · obtain rfl : i = m := (by omega)
                        rw [getD_of Hx.out]; exact h1⟩
                case measure => simp [intOf]; omega
              · have hab : above xs k = m := above_prefix Hs.out (by rw [Hn.out]; exact hm) HA.out (fun _ => by rw [getD_of Hx.out]; omega)
                have Hab := Lib.hid hab; clear hab
                go_wp2_with (at_builtin; go_loud (refine wpList_push wo (.int .i64 m) 3 (by rfl) (by rfl) _ _ 22 (by rfl) w.heap.size i0 (.int .i64 0) 8 Try.underlying22 hi hz0 hz1 hz2 rfl _ k (ints ((conj xs).take k)) (by rfl) hown (by rfl) (by rfl) (by omega) (by omega) hbs ?_))
                intro a2 c2 w2 hown2 hg2
                have hw2 := OS.snoc hown2
                have hb2 := below_grown hbel hg2 hbs ho.lo
                clear hown hown2 hg2
                go_wp2
                go_roundw
                case rel => exact ⟨k + 1, by omega, by go_num, ⟨a2, c2, rfl, by rw [← conj_take _ _ (by rw [Hh.out]; omega), Hab.out]; exact hw2⟩, hb2⟩
                case measure => simp [intOf]; omega
            · obtain rfl : m = n := by omega
              have hab : above xs k = m := above_prefix Hs.out (by rw [Hn.out]; omega) HA.out (fun h => by rw [Hn.out] at h; omega)
              have Hab := Lib.hid hab; clear hab
              go_wp2_with (at_builtin; go_loud (refine wpList_push wo (.int .i64 m) 3 (by rfl) (by rfl) _ _ 22 (by rfl) w.heap.size i0 (.int .i64 0) 8 Try.underlying22 hi hz0 hz1 hz2 rfl _ k (ints ((conj xs).take k)) (by rfl) hown (by rfl) (by rfl) (by omega) (by omega) hbs ?_))
              intro a2 c2 w2 hown2 hg2
              have hw2 := OS.snoc hown2
              have hb2 := below_grown hbel hg2 hbs ho.lo
              clear hown hown2 hg2
              go_wp2
              go_roundw
              case rel => exact ⟨k + 1, by omega, by go_num, ⟨a2, c2, rfl, by rw [← conj_take _ _ (by rw [Hh.out]; omega), Hab.out]; exact hw2⟩, hb2⟩
              case measure => simp [intOf]; omega
        · go_wp2
          go_ret
          obtain rfl : k = h := by omega
          rw [List.take_of_length_le (by rw [conj_length, Hh.out]; simp)] at ho
          exact ⟨_, _, _, rfl, by rw [conjugate, Hs.out]; exact ho, hbel⟩

theorem conj_spec (a : Option Addr) (n c : Nat) (xs : List Int) (w : World) (hr : RI w a xs) (hn : xs.length = n) (hb : n ≤ 17592186044416) :
    Calls Try.prog 35 #[.slice a n c] w fun e w' => ∃ a' n' c', e = .returned (.slice a' n' c') ∧ OwI w' w.heap.size w'.heap.size a' n' c' (conjugate xs) ∧ Below w.heap.size w w' :=
  (specConj_any a n c xs w hr hn hb).mono fun _ _ ⟨a', n', c', he, ho, hb⟩ => ⟨a', n', c', he, OwI.of ho, hb⟩
theorem conj_impl (a : Option Addr) (n c : Nat) (xs : List Int) (w : World) (hr : RI w a xs) (hn : xs.length = n) (hb : n ≤ 17592186044416) :
    Calls Try.prog 30 #[.slice a n c] w fun e w' => ∃ a' n' c', e = .returned (.slice a' n' c') ∧ OwI w' w.heap.size w'.heap.size a' n' c' (conjugate xs) ∧ Below w.heap.size w w' :=
  (implConj_any a n c xs w hr hn hb).mono fun _ _ ⟨a', n', c', he, ho, hb⟩ => ⟨a', n', c', he, OwI.of ho, hb⟩
theorem conjugate_length (xs : List Int) : (conjugate xs).length ≤ 16 := by
  unfold conjugate
  cases h : isShape xs
  · simp
  · have := head_bd h
    simp only [if_true, conj_length]
    omega
end Go.Proofs.Ytleehkgfoicmdaa
