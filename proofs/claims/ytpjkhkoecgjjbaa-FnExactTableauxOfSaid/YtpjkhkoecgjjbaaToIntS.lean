/-
  Contract of toIntS.
-/
import Derived.Test.YtpjkhkoecgjjbaaBase
namespace Go.Proofs.Ytpjkhkoecgjjbaa
open Go.RowKit

def fillTo (xs : List Int) (n k : Nat) : List Int := xs.take k ++ List.replicate (n - k) 0
theorem fillTo_length {xs : List Int} {n k : Nat} (h : xs.length = n) (hk : k ≤ n) : (fillTo xs n k).length = n := by
  simp [fillTo]; omega
theorem fillTo_zero (xs : List Int) (n : Nat) : fillTo xs n 0 = List.replicate n 0 := by simp [fillTo]
theorem fillTo_all {xs : List Int} {n : Nat} (h : xs.length = n) : fillTo xs n n = xs := by simp [fillTo, ← h]
theorem fillTo_succ {xs : List Int} {n k : Nat} {x : Int} (h : xs.length = n) (hk : k < n) (hx : xs[k]? = some x) : (fillTo xs n k).set k x = fillTo xs n (k + 1) := by
  subst h
  apply List.ext_getElem?
  intro j
  obtain ⟨_, rfl⟩ := List.getElem?_eq_some_iff.1 hx
  rw [List.getElem?_set]
  by_cases hj : k = j
  · subst hj
    rw [if_pos rfl, if_pos (by rw [fillTo_length rfl (by omega)]; exact hk)]
    unfold fillTo
    rw [List.getElem?_append_left (by simp; omega), List.getElem?_take, if_pos (by omega), List.getElem?_eq_getElem hk]
  · simp only [if_neg hj, fillTo]
    rw [List.getElem?_append, List.getElem?_append]
    simp only [List.length_take, List.getElem?_take, List.getElem?_replicate]
    repeat' split
    all_goals first | rfl | omega

set_option maxHeartbeats 400000 in
theorem toIntS_any (a : Option Addr) (n c : Nat) (xs : List Int) (w : World) (hr : RI w a xs) (hn : xs.length = n) (hb : n ≤ 17592186044416) :
    Calls Try.prog 6 #[.slice a n c] w fun e w' => ∃ a' c', e = .returned (.slice a' n c') ∧ OS w' w.heap.size a' n c' xs ∧ Below w.heap.size w w' := by
  have Hn := Lib.hid hn; clear hn
  obtain ⟨i0, hi, hz0, hz1, hz2⟩ := info_parts Try.info3
  go_enter Try.func6, Try.ntmps6
  go_wp2_with (first | (at_make; refine wpList_make_full _ rfl _ _ 22 rfl w.heap.size 3 i0 (.int .i64 0) 1 Try.underlying22 hi hz0 hz1 .i64 .i64 _ _ n rfl rfl ?m1 ?m2 ?m3 ?m4 ?m5 ?_))
  case m1 => rfl
  case m2 => rfl
  case m3 => rw [hz2]; omega
  case m4 => unfold maxLen; omega
  case m5 => exact Nat.le_refl _
  intro w1 hown hg
  have hB : Below w.heap.size w w1 := (Below.refl _ _).grown hg (Nat.le_refl _) (by simp)
  have hrow : OI w1 w.heap.size (.slice (some ⟨w.heap.size, 0, none⟩) n n) (fillTo xs n 0) := by
    unfold OI
    rw [fillTo_length Hn.out (Nat.zero_le _), fillTo_zero]
    have e := toList_madeCells_one (.int .i64 0) n
    simpa [ints, Value.cells, e] using hown
  clear hown hg
  go_wp2
  go_loopw [4] (fun i wr => ∃ k : Nat, k ≤ n ∧ i = .int .i64 k ∧ OI wr w.heap.size (.slice (some ⟨w.heap.size, 0, none⟩) n n) (fillTo xs n k) ∧ Below w.heap.size w wr) (fun i _ => n - (intOf i).toNat)
  case atStart => exact ⟨0, Nat.zero_le _, rfl, hrow, hB⟩
  case round =>
    clear hrow hB
    obtain ⟨k, hk, rfl, hown, hbel⟩ := hrel
    by_cases hlt : k < n
    · obtain ⟨b, off, rfl, hcell⟩ := hr.at (k := k) (by rw [Hn.out]; exact hlt)
      obtain ⟨x, hx⟩ : ∃ x, xs[k]? = some x := ⟨xs[k]'(by rw [Hn.out]; exact hlt), by simp⟩
      have hc0 := hcell k x hx
      have hblt := World.block_lt_of_cell? w _ hc0
      have hc : wr.cell? ⟨b, off + k, none⟩ = some (.int .i64 x) := by rw [hbel.cell hblt]; exact hc0
      clear hcell hc0
      have hold : ∃ y, wr.cell? ⟨w.heap.size, k, none⟩ = some (.int .i64 y) := by
        unfold OI at hown
        rw [fillTo_length Hn.out hk] at hown
        rw [hown.cellAt k (by omega)]
        have : k < (fillTo xs n k).length := by rw [fillTo_length Hn.out hk]; exact hlt
        exact ⟨(fillTo xs n k)[k], by simp [ints, this]⟩
      obtain ⟨y, hy⟩ := hold
      have hfz : wr.frozen? ⟨w.heap.size, k, none⟩ = false := by
        unfold OI at hown
        rw [fillTo_length Hn.out hk] at hown
        exact hown.frozenAt k
      have Hx := Lib.hid hx; clear hx
      go_wp2
      go_roundw
      case rel =>
        refine ⟨k + 1, by omega, by go_num, ?_, hbel.setCell (Nat.le_refl _) _⟩
        have hs : OI (wr.setCell ⟨w.heap.size, k, none⟩ (.int .i64 x)) w.heap.size (.slice (some ⟨w.heap.size, 0, none⟩) n n) ((fillTo xs n k).set k x) := by
          unfold OI at hown ⊢
          rw [fillTo_length Hn.out hk] at hown
          rw [List.length_set, fillTo_length Hn.out hk]
          have := (hown.stored k (.int .i64 x)).1
          simpa [ints] using this
        rw [fillTo_succ Hn.out hlt Hx.out] at hs
        exact hs
      case measure => simp [intOf]; omega
    · obtain rfl : k = n := by omega
      go_wp2
      go_ret
      rw [fillTo_all Hn.out] at hown
      exact ⟨_, _, rfl, ⟨Hn.out, hown⟩, hbel⟩
end Go.Proofs.Ytpjkhkoecgjjbaa
