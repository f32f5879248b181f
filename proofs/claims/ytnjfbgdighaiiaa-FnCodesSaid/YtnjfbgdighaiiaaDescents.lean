/-
  Contracts of DescentsOf, the program's and the reference's.
-/
import Derived.Test.YtnjfbgdighaiiaaCloneI
import Derived.Test.YtnjfbgdighaiiaaPerm
namespace Go.Proofs.Ytnjfbgdighaiiaa
open Go.RowKit


/-- the places below k at which the next number is smaller -/
def desc (xs : List Int) (k : Nat) : List Int := ((List.range k).filter fun i => decide (xs.getD (i + 1) 0 < xs.getD i 0)).map fun (i : Nat) => (i : Int)
def descents (xs : List Int) : List Int := if isPerm xs then desc xs (xs.length - 1) else []
theorem desc_succ (xs : List Int) {k : Nat} {x y : Int} (hx : xs[k]? = some x) (hy : xs[k + 1]? = some y) : desc xs (k + 1) = if y < x then desc xs k ++ [(k : Int)] else desc xs k := by
  unfold desc
  rw [List.range_succ, List.filter_append, List.map_append, List.filter_cons, List.filter_nil, getD_of hx, getD_of hy]
  by_cases h : y < x <;> simp only [h, decide_true, decide_false, if_true, if_false, List.map_cons, List.map_nil] <;> simp
theorem desc_len (xs : List Int) (k : Nat) : (desc xs k).length ≤ k := by
  unfold desc
  rw [List.length_map]
  exact Nat.le_trans (List.length_filter_le _ _) (by simp)
theorem descents_len (xs : List Int) : (descents xs).length ≤ 6 := by
  unfold descents
  split
  · have := desc_len xs (xs.length - 1)
    have := perm_len ‹_›
    omega
  · simp
theorem descents_at {xs : List Int} {d : Int} (h : d ∈ descents xs) : 0 ≤ d ∧ d + 1 < xs.length := by
  unfold descents at h
  split at h
  · unfold desc at h
    simp only [List.mem_map, List.mem_filter, List.mem_range] at h
    obtain ⟨i, ⟨h1, _⟩, rfl⟩ := h
    omega
  · simp at h

set_option maxRecDepth 100000 in
set_option maxHeartbeats 1600000 in
theorem specDescents_any (a : Option Addr) (n c : Nat) (xs : List Int) (w : World) (hr : RI w a xs) (hn : xs.length = n) (hb : n ≤ 17592186044416) (hcap : n ≤ c) :
    Calls Try.prog 108 #[.slice a n c] w fun e w' => ∃ a' n' c', e = .returned (.slice a' n' c') ∧ OwI w' w.heap.size w'.heap.size a' n' c' (descents xs) ∧ Below w.heap.size w w' := by
  have Hn := Lib.hid hn; clear hn
  cases hp : isPerm xs
  · have Hp := Lib.hid hp; clear hp
    go_enter Try.func108, Try.ntmps108
    go_wp2_with fail
    refine (is (specIsPerm_any _ _ _ xs _ hr Hn.out (by omega) hcap) Hp.out).mono ?_
    rintro e w1 ⟨rfl, hd⟩
    go_wp2
    go_ret
    exact ⟨_, _, _, rfl, by rw [descents, Hp.out]; exact OwI.nil, hd.below _⟩
  · have hl := perm_len hp
    rw [Hn.out] at hl
    have Hp := Lib.hid hp; clear hp
    go_enter Try.func108, Try.ntmps108
    go_wp2_with fail
    refine (is (specIsPerm_any _ _ _ xs _ hr Hn.out (by omega) hcap) Hp.out).mono ?_
    rintro e w1 ⟨rfl, hd⟩
    have hb1 := hd.below w.heap.size
    have hsz1 := hb1.size
    have h1 : OwI (w1.alloc (.cells #[] 3)) w1.heap.size (w1.alloc (.cells #[] 3)).heap.size (some ⟨w1.heap.size, 0, none⟩) 0 0 [] := OwI.mk (World.ownsRow_made _ #[] 0 (Nat.le_refl _) (Nat.zero_le _) rfl)
    have hB0 : Below w.heap.size w (w1.alloc (.cells #[] 3)) := hb1.alloc (by omega) _
    go_wp2
    go_loopw [3, 4] (fun v i wr => ∃ k : Nat, k + 1 ≤ n ∧ i = .int .i64 k ∧ Hid (∃ a' n' c', v = .slice a' n' c' ∧ OwI wr w.heap.size wr.heap.size a' n' c' (desc xs k)) ∧ Below w.heap.size w wr) (fun _ i _ => n - (intOf i).toNat)
    case atStart => exact ⟨0, by omega, rfl, ⟨_, _, _, rfl, h1.mono hsz1 (Nat.le_refl _)⟩, hB0⟩
    case round =>
      clear h1 hB0 hb1
      obtain ⟨k, hk, rfl, HV, hB⟩ := hrel
      obtain ⟨wo, rfl⟩ : ∃ wo : World, wo = wr := ⟨_, rfl⟩
      obtain ⟨a', n', c', rfl, ho⟩ := HV.out
      clear HV
      by_cases hlt : k + 1 < n
      · have hrw := hr.below hB
        obtain ⟨b, off, rfl, hcell⟩ := hrw.at (k := k) (by rw [Hn.out]; omega)
        obtain ⟨x, hx⟩ := some_at (k := k) Hn.out (by omega)
        obtain ⟨y, hy⟩ := some_at (k := k + 1) Hn.out (by omega)
        have hc := hcell k x hx
        have hc2 := hcell (k + 1) y hy
        have hlen := desc_len xs k
        rw [ho.len] at hlen
        have hst := desc_succ xs hx hy
        clear hcell hrw hx hy
        have q0 : (k : Int) < (n : Int) := by omega
        have q1 : IntKind.i64.wrap ((k : Int) + 1) = (k : Int) + 1 := IntWalk.i64_in _ (by omega)
        have q2 : (0 : Int) ≤ (k : Int) + 1 := by omega
        have q3 : (k : Int) + 1 < (n : Int) := by omega
        have q4 : ((k : Int) + 1).toNat = k + 1 := by omega
        have hbs := hB.size
        by_cases h1 : y < x
        · rw [if_pos h1] at hst
          have Hst := Lib.hid hst; clear hst
          have HO := Lib.hid ho; clear ho
          go_wp2
          go_quiet (fail)
          clear q1 q2 q3 q4
          have hod := HO.out.below (Drew.below ⟨nq, rfl⟩ wo.heap.size)
          have hBd := hB.trans (Drew.below ⟨nq, rfl⟩ w.heap.size)
          go_wp2_with (first | (at_builtin; go_loud (refine wpList_pushI (by rfl) (by rfl) _ _ (by rfl) hod (by rfl) (by rfl) (by omega) (by simp; omega) ?_)))
          intro a2 c2 w2 ho2 hg2
          have hB2 := hg2.below hBd (by simp; omega) (fun k hk => hod.1.lo k hk)
          go_wp2
          go_roundw
          case rel => exact ⟨k + 1, by omega, by go_num, ⟨_, _, _, rfl, by rw [Hst.out]; exact ho2⟩, hB2⟩
          case measure => simp [intOf]; omega
        · rw [if_neg h1] at hst
          have Hst := Lib.hid hst; clear hst
          have HO := Lib.hid ho; clear ho
          go_wp2
          go_quiet (fail)
          clear q1 q2 q3 q4
          go_wp2
          go_roundw
          case rel => exact ⟨k + 1, by omega, by go_num, ⟨_, _, _, rfl, by rw [Hst.out]; exact HO.out.below (Drew.below ⟨nq, rfl⟩ _)⟩, hB.trans (Drew.below ⟨nq, rfl⟩ _)⟩
          case measure => simp [intOf]; omega
      · obtain rfl : n = k + 1 := by omega
        go_wp2
        go_ret
        exact ⟨_, _, _, rfl, by rw [descents, Hp.out, Hn.out]; exact ho, hB⟩

set_option maxRecDepth 100000 in
set_option maxHeartbeats 1600000 in
theorem implDescents_any (a : Option Addr) (n c : Nat) (xs : List Int) (w : World) (hr : RI w a xs) (hn : xs.length = n) (hb : n ≤ 17592186044416) :
    Calls Try.prog 111 #[.slice a n c] w fun e w' => ∃ a' n' c', e = .returned (.slice a' n' c') ∧ OwI w' w.heap.size w'.heap.size a' n' c' (descents xs) ∧ Below w.heap.size w w' := by
  have Hn := Lib.hid hn; clear hn
  have h1 : OwI (w.alloc (.cells #[] 3)) w.heap.size (w.alloc (.cells #[] 3)).heap.size (some ⟨w.heap.size, 0, none⟩) 0 0 [] := OwI.mk (World.ownsRow_made _ #[] 0 (Nat.le_refl _) (Nat.zero_le _) rfl)
  have hB0 : Below w.heap.size w (w.alloc (.cells #[] 3)) := (Below.refl _ _).alloc (Nat.le_refl _) _
  have hr0 := hr.below hB0
  cases hp : isPerm xs
  · have Hp := Lib.hid hp; clear hp
    have H1 := Lib.hid h1; clear h1
    go_enter Try.func111, Try.ntmps111
    go_wp2_with fail
    refine (is (implIsPerm_any _ _ _ xs _ hr0 Hn.out (by omega)) Hp.out).mono ?_
    rintro e w1 ⟨rfl, hd⟩
    go_wp2
    go_ret
    exact ⟨_, _, _, rfl, by rw [descents, Hp.out]; exact (H1.out.below hd).mono (Nat.le_refl _) hd.size, hB0.trans (hd.mono hB0.size)⟩
  · have hl := perm_len hp
    rw [Hn.out] at hl
    have Hp := Lib.hid hp; clear hp
    have H1 := Lib.hid h1; clear h1
    go_enter Try.func111, Try.ntmps111
    go_wp2_with fail
    refine (is (implIsPerm_any _ _ _ xs _ hr0 Hn.out (by omega)) Hp.out).mono ?_
    rintro e w1 ⟨rfl, hd⟩
    have hB1 := hB0.trans (hd.mono hB0.size)
    have h2 := (H1.out.below hd).mono (Nat.le_refl _) hd.size
    clear hd hr0 hB0 H1
    have hsz1 := hB1.size
    go_wp2
    go_loopw [3, 4] (fun v i wr => ∃ k : Nat, k + 1 ≤ n ∧ i = .int .i64 (k + 1 : Nat) ∧ Hid (∃ a' n' c', v = .slice a' n' c' ∧ OwI wr w.heap.size wr.heap.size a' n' c' (desc xs k)) ∧ Below w.heap.size w wr) (fun _ i _ => n - (intOf i).toNat)
    case atStart => exact ⟨0, by omega, rfl, ⟨_, _, _, rfl, h2⟩, hB1⟩
    case round =>
      clear h2 hB1
      obtain ⟨k, hk, rfl, HV, hB⟩ := hrel
      obtain ⟨wo, rfl⟩ : ∃ wo : World, wo = wr := ⟨_, rfl⟩
      obtain ⟨a', n', c', rfl, ho⟩ := HV.out
      clear HV
      by_cases hlt : k + 1 < n
      · have hrw := hr.below hB
        obtain ⟨b, off, rfl, hcell⟩ := hrw.at (k := k) (by rw [Hn.out]; omega)
        obtain ⟨x, hx⟩ := some_at (k := k) Hn.out (by omega)
        obtain ⟨y, hy⟩ := some_at (k := k + 1) Hn.out (by omega)
        have hc := hcell k x hx
        have hc2 := hcell (k + 1) y hy
        have hlen := desc_len xs k
        rw [ho.len] at hlen
        have hst := desc_succ xs hx hy
        clear hcell hrw hx hy
        have q0 : (k : Int) < (n : Int) := by omega
        have q1 : IntKind.i64.wrap (((k + 1 : Nat) : Int) - 1) = (k : Int) := by rw [IntWalk.i64_in _ (by omega)]; omega
        have q3 : ((k + 1 : Nat) : Int) < (n : Int) := by omega
        have hbs := hB.size
        by_cases h1 : y < x
        · rw [if_pos h1] at hst
          have Hst := Lib.hid hst; clear hst
          have HO := Lib.hid ho; clear ho
          go_wp2
          go_quiet (fail)
          clear q1 q3
          have hod := HO.out.below (Drew.below ⟨nq, rfl⟩ wo.heap.size)
          have hBd := hB.trans (Drew.below ⟨nq, rfl⟩ w.heap.size)
          go_wp2_with (first | (at_builtin; go_loud (refine wpList_pushI (by rfl) (by rfl) _ _ (by rfl) hod (by rfl) (by rfl) (by omega) (by simp; omega) ?_)))
          intro a2 c2 w2 ho2 hg2
          have hB2 := hg2.below hBd (by simp; omega) (fun k hk => hod.1.lo k hk)
          go_wp2
          go_roundw
          case rel => exact ⟨k + 1, by omega, by go_num, ⟨_, _, _, rfl, by rw [Hst.out]; exact ho2⟩, hB2⟩
          case measure => simp [intOf]; omega
        · rw [if_neg h1] at hst
          have Hst := Lib.hid hst; clear hst
          have HO := Lib.hid ho; clear ho
          go_wp2
          go_quiet (fail)
          clear q1 q3
          go_wp2
          go_roundw
          case rel => exact ⟨k + 1, by omega, by go_num, ⟨_, _, _, rfl, by rw [Hst.out]; exact HO.out.below (Drew.below ⟨nq, rfl⟩ _)⟩, hB.trans (Drew.below ⟨nq, rfl⟩ _)⟩
          case measure => simp [intOf]; omega
      · obtain rfl : n = k + 1 := by omega
        go_wp2
        go_ret
        exact ⟨_, _, _, rfl, by rw [descents, Hp.out, Hn.out]; exact ho, hB⟩
end Go.Proofs.Ytnjfbgdighaiiaa
