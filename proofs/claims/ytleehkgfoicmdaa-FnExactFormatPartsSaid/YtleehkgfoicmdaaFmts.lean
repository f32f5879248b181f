/-
  Contracts of FormatInts, the program's and the reference's.
-/
import Derived.Test.YtleehkgfoicmdaaStrs
namespace Go.Proofs.Ytleehkgfoicmdaa
open Go.RowKit

def space : ByteArray := ⟨#[32]⟩
def fmts (xs : List Int) : ByteArray := glue space (xs.map fmt) xs.length
def Narrow (xs : List Int) : Prop := ∀ x ∈ xs, -9223372036854775808 ≤ x ∧ x ≤ 9223372036854775807
theorem fmt_each {xs : List Int} (h : Narrow xs) : ∀ s ∈ xs.map fmt, s.size ≤ 20 := by
  intro s hs
  obtain ⟨x, hx, rfl⟩ := List.mem_map.1 hs
  exact fmt_size (h x hx)
theorem glue_fmt_size {xs : List Int} (h : Narrow xs) (k : Nat) : (glue space (xs.map fmt) k).size ≤ k * 21 := glue_size space _ 20 (fmt_each h) k
theorem fmts_size {xs : List Int} (h : Narrow xs) : (fmts xs).size ≤ xs.length * 21 := glue_fmt_size h _

set_option maxRecDepth 100000 in
set_option maxHeartbeats 1600000 in
theorem specFmts_any (a : Option Addr) (n c : Nat) (xs : List Int) (w : World) (hr : RI w a xs) (hn : xs.length = n) (hb : n ≤ 1048576) (hx : Narrow xs) :
    Calls Try.prog 99 #[.slice a n c] w fun e w' => e = .returned (.string (fmts xs)) ∧ Below w.heap.size w w' := by
  have Hn := Lib.hid hn; clear hn
  have HX := Lib.hid hx; clear hx
  go_enter Try.func99, Try.ntmps99
  go_wp2
  go_loopw [3, 4] (fun s i wr => Hid (∃ k : Nat, k ≤ n ∧ i = .int .i64 k ∧ s = .string (glue space (xs.map fmt) k)) ∧ Below w.heap.size w wr) (fun _ i _ => n - (intOf i).toNat)
  case atStart => exact ⟨⟨0, Nat.zero_le _, rfl, rfl⟩, Below.refl _ _⟩
  case round =>
    obtain ⟨HV, hB⟩ := hrel
    obtain ⟨wo, rfl⟩ : ∃ wo : World, wo = wr := ⟨_, rfl⟩
    obtain ⟨k, hk, rfl, rfl⟩ := HV.out
    clear HV
    have hbs := hB.size
    by_cases hlt : k < n
    · obtain ⟨b, off, rfl, hcell⟩ := (hr.below hB).at (k := k) (by rw [Hn.out]; exact hlt)
      obtain ⟨x, hx⟩ := some_at Hn.out hlt
      have hc := hcell k x hx
      obtain ⟨hx0, hx1⟩ := HX.out x (List.mem_of_getElem? hx)
      have hf : (xs.map fmt)[k]? = some (fmt x) := by rw [List.getElem?_map, hx]; rfl
      have hfs : (fmt x).size ≤ 20 := fmt_size ⟨hx0, hx1⟩
      have hgs := glue_fmt_size HX.out k
      have h21 : k * 21 ≤ 22020096 := by omega
      obtain ⟨q, hq⟩ : ∃ q, fmt x = q := ⟨_, rfl⟩
      obtain ⟨u, hu⟩ : ∃ u, glue space (xs.map fmt) k = u := ⟨_, rfl⟩
      have hspec := specFmt_any x hx0 hx1 wo
      rw [hq] at hf hfs hspec
      rw [hu] at hgs ⊢
      have HU := Lib.hid hu
      have HF := Lib.hid hf
      have HS := Lib.hid hspec
      clear hcell hx hq hu hf hspec
      by_cases hk0 : k = 0
      · have hst : glue space (xs.map fmt) (k + 1) = u ++ q := by
          subst hk0
          rw [← HU.out, glue_zero, empty_append]
          exact glue_first space HF.out
        have Hst := Lib.hid hst
        have g0 : ¬ ((0 : Int) < (k : Int)) := by omega
        have hz : ¬ 9223372036854775807 < u.size + q.size := by omega
        clear hst hk0
        go_wp2_with fail
        refine HS.out.mono ?_
        rintro e w1 ⟨rfl, hB1⟩
        have hB2 := hB.trans (hB1.mono hbs)
        go_wp2
        go_roundw
        case rel => exact ⟨⟨k + 1, by omega, by go_num, by rw [Hst.out]⟩, hB2⟩
        case measure => simp [intOf]; omega
      · have hst : glue space (xs.map fmt) (k + 1) = u ++ space ++ q := by rw [← HU.out]; exact glue_next space hk0 HF.out
        have Hst := Lib.hid hst
        have g0 : (0 : Int) < (k : Int) := by omega
        have hs1 : (⟨#[32]⟩ : ByteArray).size = 1 := rfl
        have hz0 : ¬ 9223372036854775807 < u.size + (⟨#[32]⟩ : ByteArray).size := by omega
        have hz : ¬ 9223372036854775807 < (u ++ (⟨#[32]⟩ : ByteArray)).size + q.size := by rw [append_size]; omega
        clear hst hk0 hs1
        go_wp2_with fail
        refine HS.out.mono ?_
        rintro e w1 ⟨rfl, hB1⟩
        have hB2 := hB.trans (hB1.mono hbs)
        go_wp2
        go_roundw
        case rel => exact ⟨⟨k + 1, by omega, by go_num, by rw [Hst.out]; rfl⟩, hB2⟩
        case measure => simp [intOf]; omega
    · obtain rfl : k = n := by omega
      have hfin : glue space (xs.map fmt) k = fmts xs := by rw [fmts, Hn.out]
      rw [hfin]
      go_wp2
      go_ret
      exact ⟨rfl, hB⟩

set_option maxRecDepth 100000 in
set_option maxHeartbeats 1600000 in
theorem implFmts_any (a : Option Addr) (n c : Nat) (xs : List Int) (w : World) (hr : RI w a xs) (hn : xs.length = n) (hb : n ≤ 1048576) (hx : Narrow xs) :
    Calls Try.prog 101 #[.slice a n c] w fun e w' => e = .returned (.string (fmts xs)) ∧ Below w.heap.size w w' := by
  have Hn := Lib.hid hn; clear hn
  have HX := Lib.hid hx; clear hx
  have hA : Below w.heap.size w (w.alloc (.cells #[] 9)) := (Below.refl _ _).alloc (Nat.le_refl _) _
  have HM := Lib.hid (SO.made w)
  go_enter Try.func101, Try.ntmps101
  go_wp2
  go_loopw [3, 9] (fun v i wr => Hid (∃ k : Nat, k ≤ n ∧ i = .int .i64 k ∧ ∃ a' c', v = .slice a' k c' ∧ SO wr w.heap.size wr.heap.size a' k c' ((xs.map fmt).take k)) ∧ Below w.heap.size w wr) (fun _ i _ => n - (intOf i).toNat)
  case atStart => exact ⟨⟨0, Nat.zero_le _, rfl, _, _, rfl, HM.out⟩, hA⟩
  case round =>
    clear hA HM
    obtain ⟨HV, hB⟩ := hrel
    obtain ⟨wo, rfl⟩ : ∃ wo : World, wo = wr := ⟨_, rfl⟩
    obtain ⟨k, hk, rfl, a', c', rfl, ho⟩ := HV.out
    clear HV
    have hbs := hB.size
    by_cases hlt : k < n
    · obtain ⟨b, off, rfl, hcell⟩ := (hr.below hB).at (k := k) (by rw [Hn.out]; exact hlt)
      obtain ⟨x, hx⟩ := some_at Hn.out hlt
      have hc := hcell k x hx
      obtain ⟨hx0, hx1⟩ := HX.out x (List.mem_of_getElem? hx)
      have hst : (xs.map fmt).take (k + 1) = (xs.map fmt).take k ++ [fmt x] := by rw [List.take_add_one, List.getElem?_map, hx]; rfl
      obtain ⟨q, hq⟩ : ∃ q, fmt x = q := ⟨_, rfl⟩
      have himpl := implFmt_any x hx0 hx1 wo
      rw [hq] at hst himpl
      have Hst := Lib.hid hst
      have HS := Lib.hid himpl
      have q1 : (k : Int) < (n : Int) := by omega
      clear hcell hx hq hst himpl
      go_wp2_with fail
      refine HS.out.mono ?_
      rintro e w1 ⟨rfl, rfl⟩
      go_wp2_with (first | (at_builtin; go_loud (refine wpList_pushS (by rfl) (by rfl) _ _ (by rfl) ho (by rfl) (by rfl) (by omega) hbs ?_)))
      intro a2 c2 w2 ho2 hg2
      have hB2 := hg2.below hB hbs ho.lo
      rw [← Hst.out] at ho2
      have HO2 := Lib.hid ho2
      clear ho ho2
      go_wp2
      go_roundw
      case rel => exact ⟨⟨k + 1, by omega, by go_num, _, _, rfl, HO2.out⟩, hB2⟩
      case measure => simp [intOf]; omega
    · obtain rfl : k = n := by omega
      rw [List.take_of_length_le (by rw [List.length_map, Hn.out]; exact Nat.le_refl _)] at ho
      have hgs := glue_fmt_size HX.out k
      have h21 : k * 21 ≤ 22020096 := by omega
      have hj := join_any a' k c' (xs.map fmt) space wo ho (by omega) (by omega)
      have hfin : glue space (xs.map fmt) k = fmts xs := by rw [fmts, Hn.out]
      rw [hfin] at hj
      have HJ := Lib.hid hj
      clear hgs hj hfin ho
      go_wp2_with fail
      refine HJ.out.mono ?_
      rintro e w1 ⟨rfl, hB1⟩
      have hB2 := hB.trans (hB1.mono hbs)
      go_wp2
      go_ret
      exact ⟨rfl, hB2⟩
end Go.Proofs.Ytleehkgfoicmdaa
