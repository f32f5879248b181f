/-
  Contract of DiagramOf.
-/
import Derived.Test.YtnjfbgdighaiiaaBottom
import Derived.Test.YtnjfbgdighaiiaaInverse
namespace Go.Proofs.Ytnjfbgdighaiiaa
open Go.RowKit

/-- the cells of row i in the first columns: those whose number stands behind place i -/
def rowD (iv : List Int) (i : Nat) : Nat → List (Int × Int)
  | 0 => []
  | j + 1 => if (i : Int) < iv.getD j 0 then rowD iv i j ++ [((i : Int), (j : Int))] else rowD iv i j
def diag (xs iv : List Int) : Nat → List (Int × Int)
  | 0 => []
  | i + 1 => diag xs iv i ++ rowD iv i (xs.getD i 0).toNat
def diagram (xs : List Int) : List (Int × Int) := diag xs (inv xs) xs.length

set_option maxRecDepth 100000 in
set_option maxHeartbeats 3200000 in
theorem implDiagram_any (a : Option Addr) (n c : Nat) (xs : List Int) (w : World) (hr : RI w a xs) (hn : xs.length = n) (hb : n ≤ 7) (hp : isPerm xs = true) (hin : ∀ x ∈ xs, 0 ≤ x ∧ x < (n : Int)) :
    Calls Try.prog 30 #[.slice a n c] w fun e w' => ∃ a' n' c', e = .returned (.slice a' n' c') ∧ CO w' w.heap.size w'.heap.size a' n' c' (diagram xs) ∧ Below w.heap.size w w' := by
  have Hn := Lib.hid hn; clear hn
  have HP := Lib.hid hp; clear hp
  have HI := Lib.hid hin; clear hin
  have hB00 : Below w.heap.size w (w.alloc (.cells #[] 44)) := (Below.refl _ _).alloc (Nat.le_refl _) _
  have hM := Lib.hid (CO.made w)
  go_enter Try.func30, Try.ntmps30
  go_wp2_with fail
  refine (is (implIsPerm_any _ _ _ xs _ (hr.below hB00) Hn.out (by omega)) HP.out).mono ?_
  rintro e w1 ⟨rfl, hd⟩
  have hM2 := (hM.out.below hd).mono (Nat.le_refl _) hd.size
  have hb2 := hB00.trans (hd.mono hB00.size)
  have hr2 := hr.below hb2
  clear hM hB00 hd
  go_wp2_with fail
  refine (implInverse_any _ _ _ xs _ hr2 Hn.out (by omega) HP.out HI.out).mono ?_
  rintro e w2 ⟨av, cv, rfl, hV, hb3⟩
  have hz2 := hb3.size
  have hO2 := (hM2.below hb3).mono (Nat.le_refl _) hz2
  have hB2 := hb2.trans (hb3.mono hb2.size)
  have hV2 := (OwI.mono hV (Nat.zero_le _) (Nat.le_refl _)).1
  obtain ⟨iv, hiv⟩ : ∃ iv, inv xs = iv := ⟨_, rfl⟩
  rw [hiv] at hV2
  have Hiv := Lib.hid hiv
  have Hvl := Lib.hid hV2.1
  clear hM2 hb2 hb3 hV hr2 hiv
  go_wp2
  go_loopw [3, 17] (fun ov ic wr => Hid (∃ i : Nat, i ≤ n ∧ ic = .int .i64 i ∧ OS wr 0 av n cv iv ∧ ∃ a' n' c', ov = .slice a' n' c' ∧ n' ≤ i * 7 ∧ CO wr w.heap.size wr.heap.size a' n' c' (diag xs iv i)) ∧ Below w.heap.size w wr) (fun _ i _ => n - (intOf i).toNat)
  case atStart => exact ⟨⟨0, Nat.zero_le _, rfl, hV2, _, _, _, rfl, by omega, hO2⟩, hB2⟩
  case round =>
    clear hO2 hB2 hV2
    obtain ⟨HV, hB⟩ := hrel
    obtain ⟨wo, rfl⟩ : ∃ wo : World, wo = wr := ⟨_, rfl⟩
    obtain ⟨i, hi, rfl, hC, a', n', c', rfl, hn7, ho⟩ := HV.out
    clear HV
    by_cases hlt : i < n
    · obtain ⟨b, off, rfl, hcell⟩ := (hr.below hB).at (k := i) (by rw [Hn.out]; exact hlt)
      obtain ⟨x0, hx⟩ := some_at Hn.out hlt
      have hcx := hcell i x0 hx
      have hx0 := HI.out x0 (List.mem_of_getElem? hx)
      obtain ⟨x, rfl⟩ : ∃ x : Nat, x0 = (x : Int) := ⟨x0.toNat, by omega⟩
      have hst : diag xs iv (i + 1) = diag xs iv i ++ rowD iv i x := by rw [diag, getD_of hx]; rfl
      have Hst := Lib.hid hst
      have HO := Lib.hid ho
      have HC := Lib.hid hC
      have hxn : x < n := by omega
      clear hcell hx hst ho hC
      go_wp2
      go_loopw [3, 23] (fun ov jv wr => Hid (∃ j : Nat, j ≤ x ∧ jv = .int .i64 j ∧ OS wr 0 av n cv iv ∧ ∃ a' n2 c', ov = .slice a' n2 c' ∧ n2 ≤ n' + j ∧ CO wr w.heap.size wr.heap.size a' n2 c' (diag xs iv i ++ rowD iv i j)) ∧ Below w.heap.size w wr) (fun _ j _ => x - (intOf j).toNat)
      case atStart => exact ⟨⟨0, Nat.zero_le _, rfl, HC.out, _, _, _, rfl, Nat.le_refl _, by simpa [rowD] using HO.out⟩, hB⟩
      case round =>
        clear HO HC hB hcx
        obtain ⟨HV, hB⟩ := hrel
        obtain ⟨wq, rfl⟩ : ∃ wq : World, wq = wr := ⟨_, rfl⟩
        obtain ⟨j, hj, rfl, hC, a2, n2, c2, rfl, hn2, ho⟩ := HV.out
        clear HV
        have hbs := hB.size
        by_cases hjx : j < x
        · have hjI : (j : Int) < (x : Int) := by omega
          have hjn : j < n := by omega
          obtain ⟨gc, rfl, _, ⟨y, hy, hcy⟩, _⟩ := OI.cons hC hjn
          have HC := Lib.hid hC; clear hC
          have q0 : (j : Int) < (n : Int) := by omega
          by_cases hyi : (i : Int) < y
          · have hst2 : rowD iv i (j + 1) = rowD iv i j ++ [((i : Int), (j : Int))] := by rw [rowD, getD_of hy, if_pos hyi]
            have Hst2 := Lib.hid hst2
            clear hst2 hy
            go_wp2_with (first | (at_builtin; go_loud (refine wpList_pushC (by rfl) (by rfl) _ _ (by rfl) ho (by rfl) (by rfl) (by omega) hbs ?_)))
            intro a3 c3 w3 ho3 hg3
            have hC3 := HC.out.kept hg3 (fun k hk => by have := ne_blockC ho HC.out k hk; exact this)
            have hB3 := below_grown hB hg3 hbs ho.lo
            rw [← Hst2.out] at ho3
            have HO3 := Lib.hid ho3
            have HC3 := Lib.hid hC3
            clear ho ho3 hC3 HC hg3
            go_wp2
            go_roundw
            case rel => exact ⟨⟨j + 1, by omega, by go_num, HC3.out, _, _, _, rfl, by omega, HO3.out⟩, hB3⟩
            case measure => simp [intOf]; omega
          · have hst2 : rowD iv i (j + 1) = rowD iv i j := by rw [rowD, getD_of hy, if_neg hyi]
            have Hst2 := Lib.hid hst2
            rw [← Hst2.out] at ho
            have HO := Lib.hid ho
            clear hst2 hy ho
            go_wp2
            go_roundw
            case rel => exact ⟨⟨j + 1, by omega, by go_num, HC.out, _, _, _, rfl, by omega, HO.out⟩, hB⟩
            case measure => simp [intOf]; omega
        · obtain rfl : j = x := by omega
          rw [← Hst.out] at ho
          have HO := Lib.hid ho; clear ho
          have HC := Lib.hid hC; clear hC
          go_wp2
          go_roundw
          case rel => exact ⟨⟨i + 1, by omega, by go_num, HC.out, _, _, _, rfl, by omega, HO.out⟩, hB⟩
          case measure => simp [intOf]; omega
    · obtain rfl : i = n := by omega
      have hfin : diag xs iv i = diagram xs := by rw [diagram, Hiv.out, Hn.out]
      rw [hfin] at ho
      have HO := Lib.hid ho; clear ho hC
      go_wp2
      go_ret
      exact ⟨_, _, _, rfl, HO.out, hB⟩
end Go.Proofs.Ytnjfbgdighaiiaa
