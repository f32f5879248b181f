/-
  strings.Split, strings.Cut, strings.TrimPrefix: the kit's shelf, laid at this program's numbers.
  Contract of parseInt.
  Contracts of strings.Split, strings.Cut (in these words) and of ParseInts.
-/
import Derived.Test.YtcminkcoifkbgaaGreatDoorFacts
import Derived.Shelf.Strings.Split
import Derived.Shelf.Strings.Cut
import Derived.Shelf.Strings.Prefix
import Derived.Test.YtcminkcoifkbgaaGreatDoorBuQ1
import Derived.Test.YtcminkcoifkbgaaGreatDoorBuA
namespace Go.Proofs.YtcminkcoifkbgaaGreatDoor
open Go.RowKit Go.Shelf

def renText : Ren := ⟨fun k => if k = 101 then 45 else if k = 138 then 63 else if k = 143 then 64 else if k = 145 then 21 else if k = 146 then 20 else if k = 195 then 76 else if k = 197 then 77 else if k = 206 then 83 else if k = 208 then 66 else if k = 217 then 79 else if k = 218 then 78 else if k = 219 then 65 else if k = 220 then 44 else if k = 221 then 43 else if k = 224 then 81 else if k = 225 then 80 else if k = 260 then 88 else if k = 266 then 89 else if k = 267 then 82 else if k = 268 then 62 else if k = 314 then 90 else k, fun k => if k = 5 then 5 else if k = 21 then 21 else if k = 31 then 40 else if k = 46 then 100 else if k = 51 then 114 else if k = 59 then 42 else if k = 105 then 105 else if k = 119 then 127 else if k = 138 then 129 else if k = 139 then 130 else if k = 146 then 115 else k, fun k => if k = 1 then 0 else if k = 3 then 1 else if k = 4 then 2 else k⟩
theorem laysSplit : Lays.n146 Tryz.prog renText where
  mixed := by kernel_rfl
  f138 := by kernel_rfl
  f143 := by kernel_rfl
  f146 := by kernel_rfl
  f195 := by kernel_rfl
  f197 := by kernel_rfl
  f217 := by kernel_rfl
  f218 := by kernel_rfl
  f219 := by kernel_rfl
  f221 := by kernel_rfl
  f224 := by kernel_rfl
  f225 := by kernel_rfl
  f260 := by kernel_rfl
  f266 := by kernel_rfl
  f267 := by kernel_rfl
  f268 := by kernel_rfl
  f314 := by kernel_rfl
  t0 := by kernel_rfl
  a0 := fun w => by kernel_rfl
  z0 := fun w => by kernel_rfl
  v0 := fun w => by kernel_rfl
  t3 := by kernel_rfl
  a3 := fun w => by kernel_rfl
  z3 := fun w => by kernel_rfl
  v3 := fun w => by kernel_rfl
  t4 := by kernel_rfl
  a4 := fun w => by kernel_rfl
  z4 := fun w => by kernel_rfl
  v4 := fun w => by kernel_rfl
  t5 := by kernel_rfl
  a5 := fun w => by kernel_rfl
  z5 := fun w => by kernel_rfl
  v5 := fun w => by kernel_rfl
  t9 := by kernel_rfl
  a9 := fun w => by kernel_rfl
  z9 := fun w => by kernel_rfl
  v9 := fun w => by kernel_rfl
  t21 := by kernel_rfl
  a21 := fun w => by kernel_rfl
  z21 := fun w => by kernel_rfl
  v21 := fun w => by kernel_rfl
  t31 := by kernel_rfl
  a31 := fun w => by kernel_rfl
  z31 := fun w => by kernel_rfl
  v31 := fun w => by kernel_rfl
  t46 := by kernel_rfl
  a46 := fun w => by kernel_rfl
  z46 := fun w => by kernel_rfl
  v46 := fun w => by kernel_rfl
  t51 := by kernel_rfl
  a51 := fun w => by kernel_rfl
  z51 := fun w => by kernel_rfl
  v51 := fun w => by kernel_rfl
  t105 := by kernel_rfl
  a105 := fun w => by kernel_rfl
  z105 := fun w => by kernel_rfl
  v105 := fun w => by kernel_rfl
  t119 := by kernel_rfl
  a119 := fun w => by kernel_rfl
  z119 := fun w => by kernel_rfl
  t138 := by kernel_rfl
  a138 := fun w => by kernel_rfl
  z138 := fun w => by kernel_rfl
  v138 := fun w => by kernel_rfl
  t139 := by kernel_rfl
  a139 := fun w => by kernel_rfl
  z139 := fun w => by kernel_rfl
  v139 := fun w => by kernel_rfl
  t146 := by kernel_rfl
  a146 := fun w => by kernel_rfl
  z146 := fun w => by kernel_rfl
  v146 := fun w => by kernel_rfl
  g1 := by kernel_rfl
  g3 := by kernel_rfl
  g4 := by kernel_rfl
theorem laysCut : Lays.n145 Tryz.prog renText where
  mixed := by kernel_rfl
  f145 := by kernel_rfl
  f217 := by kernel_rfl
  f219 := by kernel_rfl
  f220 := by kernel_rfl
  f224 := by kernel_rfl
  f225 := by kernel_rfl
  f266 := by kernel_rfl
  f267 := by kernel_rfl
  f314 := by kernel_rfl
  t3 := by kernel_rfl
  a3 := fun w => by kernel_rfl
  z3 := fun w => by kernel_rfl
  v3 := fun w => by kernel_rfl
  t4 := by kernel_rfl
  a4 := fun w => by kernel_rfl
  z4 := fun w => by kernel_rfl
  v4 := fun w => by kernel_rfl
  t5 := by kernel_rfl
  a5 := fun w => by kernel_rfl
  z5 := fun w => by kernel_rfl
  v5 := fun w => by kernel_rfl
  t9 := by kernel_rfl
  a9 := fun w => by kernel_rfl
  z9 := fun w => by kernel_rfl
  v9 := fun w => by kernel_rfl
  t46 := by kernel_rfl
  a46 := fun w => by kernel_rfl
  z46 := fun w => by kernel_rfl
  v46 := fun w => by kernel_rfl
  t51 := by kernel_rfl
  a51 := fun w => by kernel_rfl
  z51 := fun w => by kernel_rfl
  v51 := fun w => by kernel_rfl
  t59 := by kernel_rfl
  a59 := fun w => by kernel_rfl
  z59 := fun w => by kernel_rfl
  v59 := fun w => by kernel_rfl
  t146 := by kernel_rfl
  a146 := fun w => by kernel_rfl
  z146 := fun w => by kernel_rfl
  v146 := fun w => by kernel_rfl
  g1 := by kernel_rfl
theorem laysTrim : Lays.n101 Tryz.prog renText where
  mixed := by kernel_rfl
  f101 := by kernel_rfl
  f206 := by kernel_rfl
  f208 := by kernel_rfl
  t3 := by kernel_rfl
  a3 := fun w => by kernel_rfl
  z3 := fun w => by kernel_rfl
  v3 := fun w => by kernel_rfl
  t4 := by kernel_rfl
  a4 := fun w => by kernel_rfl
  z4 := fun w => by kernel_rfl
  v4 := fun w => by kernel_rfl
  t9 := by kernel_rfl
  a9 := fun w => by kernel_rfl
  z9 := fun w => by kernel_rfl
  v9 := fun w => by kernel_rfl
end Go.Proofs.YtcminkcoifkbgaaGreatDoor

namespace Go.Proofs.YtcminkcoifkbgaaGreatDoor
open Go.RowKit Go.Shelf

def byteAt (t : ByteArray) (k : Nat) : Nat := (t.data.toList.getD k 0).toNat
def valD (t : ByteArray) : Nat → Int
  | 0 => 0
  | k + 1 => 10 * valD t k + ((byteAt t k : Int) - 48)
def digAt (t : ByteArray) (k : Nat) : Bool := decide (48 ≤ byteAt t k ∧ byteAt t k ≤ 57)
def digTo (t : ByteArray) (k : Nat) : Bool := (List.range k).all (digAt t)
def trimS (s : ByteArray) : ByteArray := ⟨(Lib.trimPrefix s.data.toList (⟨#[45]⟩ : ByteArray).data.toList).toArray⟩
def signed (s t : ByteArray) : Int := if t.size < s.size then -valD t t.size else valD t t.size
def pInt (s : ByteArray) : Int × Bool :=
  if (trimS s).size = 0 ∨ 9 < (trimS s).size ∨ digTo (trimS s) (trimS s).size = false then (0, false) else (signed s (trimS s), decide (fmt (signed s (trimS s)) = s))
theorem digTo_succ (t : ByteArray) (k : Nat) : digTo t (k + 1) = (digTo t k && digAt t k) := by simp [digTo, List.range_succ]
theorem digTo_le {t : ByteArray} {k n : Nat} (hk : k < n) (h : digAt t k = false) : digTo t n = false := by
  rw [digTo, List.all_eq_false]
  exact ⟨k, List.mem_range.2 hk, by rw [h]; simp⟩
theorem valD_bound (t : ByteArray) : ∀ k, digTo t k = true → 0 ≤ valD t k ∧ valD t k < 10 ^ k := by
  intro k
  induction k with
  | zero => intro _; simp [valD]
  | succ k ih =>
    intro h
    rw [digTo_succ, Bool.and_eq_true] at h
    have h1 := ih h.1
    have h2 := h.2
    unfold digAt at h2
    rw [decide_eq_true_eq] at h2
    have h3 : (10 : Int) ^ (k + 1) = 10 * 10 ^ k := by rw [Int.pow_succ, Int.mul_comm]
    rw [valD, h3]
    omega

theorem str_eq (a b : ByteArray) : (a.toList == b.toList) = decide (a = b) := by
  rw [Lib.toList_data, Lib.toList_data]
  by_cases h : a = b
  · rw [h]; simp
  · rw [decide_eq_false h, beq_eq_false_iff_ne]
    intro e
    exact h (by apply ByteArray.ext; exact Array.toList_inj.1 e)

set_option maxRecDepth 100000 in
set_option maxHeartbeats 1600000 in
theorem parseInt_any (s : ByteArray) (w : World) :
    Calls Tryz.prog 22 #[.string s] w fun e w' => e = .returned (.tuple #[.int .i64 (pInt s).1, .bool (pInt s).2]) ∧ Below w.heap.size w w' := by
  obtain ⟨t, ht⟩ : ∃ t, trimS s = t := ⟨_, rfl⟩
  have ht1 : (⟨(Lib.trimPrefix s.data.toList (⟨#[45]⟩ : ByteArray).data.toList).toArray⟩ : ByteArray) = t := ht
  have CT := Any.strings_TrimPrefix laysTrim s ⟨#[45]⟩ w
  rw [ht1] at CT
  have HC := Lib.hid CT
  clear CT ht1
  obtain ⟨n, hn⟩ : ∃ n, t.size = n := ⟨_, rfl⟩
  by_cases h0 : n = 0
  · have Hres := Lib.hid (show pInt s = (0, false) by unfold pInt; rw [ht, if_pos (.inl (by rw [hn]; exact h0))])
    have ht0 : t = ⟨#[]⟩ := by
      apply ByteArray.ext
      exact Array.eq_empty_of_size_eq_zero (by rw [h0] at hn; exact hn)
    subst ht0
    clear hn h0
    go_enter Tryz.func22, Tryz.ntmps22
    go_wp2_with fail
    refine HC.out.mono ?_
    rintro e w1 ⟨rfl, rfl⟩
    go_wp2
    go_ret2
    exact ⟨by rw [Hres.out]; rfl, ⟨rfl, rfl, rfl, Nat.le_refl _, fun _ _ => rfl⟩⟩
  have he : t.toList.isEmpty = false := by
    rw [Lib.toList_data, List.isEmpty_eq_false_iff]
    intro e
    exact h0 (by rw [← hn]; show t.data.size = 0; rw [← Array.length_toList, e]; rfl)
  by_cases h9 : 9 < n
  · have Hres := Lib.hid (show pInt s = (0, false) by unfold pInt; rw [ht, if_pos (.inr (.inl (by rw [hn]; exact h9)))])
    have h9' : (9 : Int) < (n : Int) := by omega
    clear h0 h9
    go_enter Tryz.func22, Tryz.ntmps22
    go_wp2_with fail
    refine HC.out.mono ?_
    rintro e w1 ⟨rfl, rfl⟩
    go_wp2
    go_ret2
    exact ⟨by rw [Hres.out]; rfl, ⟨rfl, rfl, rfl, Nat.le_refl _, fun _ _ => rfl⟩⟩
  have h9' : ¬ (9 : Int) < (n : Int) := by omega
  go_enter Tryz.func22, Tryz.ntmps22
  go_wp2_with fail
  refine HC.out.mono ?_
  rintro e w1 ⟨rfl, rfl⟩
  go_wp2
  go_loopw [5, 18] (fun v i wr => Hid (∃ k : Nat, k ≤ n ∧ i = .int .i64 k ∧ v = .int .i64 (valD t k) ∧ digTo t k = true) ∧ Below w1.heap.size w1 wr) (fun _ i _ => n - (intOf i).toNat)
  case atStart => exact ⟨⟨0, Nat.zero_le _, rfl, rfl, rfl⟩, ⟨rfl, rfl, rfl, Nat.le_refl _, fun _ _ => rfl⟩⟩
  case round =>
    obtain ⟨HV, hB⟩ := hrel
    obtain ⟨wo, rfl⟩ : ∃ wo : World, wo = wr := ⟨_, rfl⟩
    obtain ⟨k, hk, rfl, rfl, hd⟩ := HV.out
    clear HV
    have hbs := hB.size
    by_cases hlt : k < n
    · have q0 : (k : Int) < (n : Int) := by omega
      have hkt : k < t.size := by omega
      obtain ⟨x, hx⟩ : ∃ x, byteAt t k = x := ⟨_, rfl⟩
      have hbx : (t[k]'hkt).toNat = x := by
        rw [← hx, byteAt, List.getD_eq_getElem?_getD, List.getElem?_eq_getElem (by rw [Array.length_toList]; exact hkt)]
        simp [ByteArray.getElem_eq_getElem_data]
      have hv := valD_bound t k hd
      have h10 : (10 : Int) ^ k ≤ 10 ^ 9 := by
        have := Nat.pow_le_pow_right (n := 10) (by omega) (show k ≤ 9 by omega)
        have h11 : ((10 ^ k : Nat) : Int) ≤ ((10 ^ 9 : Nat) : Int) := Int.ofNat_le.2 this
        rw [Int.natCast_pow, Int.natCast_pow] at h11
        exact h11
      have h10b : (10 : Int) ^ 9 = 1000000000 := by decide
      by_cases hdig : digAt t k = true
      · have hst : valD t (k + 1) = 10 * valD t k + ((x : Int) - 48) := by rw [valD, hx]
        have Hd := Lib.hid (show digTo t (k + 1) = true by rw [digTo_succ, hd, hdig]; rfl)
        unfold digAt at hdig
        rw [hx, decide_eq_true_eq] at hdig
        obtain ⟨v, hv0⟩ : ∃ v, valD t k = v := ⟨_, rfl⟩
        rw [hv0] at hv hst
        rw [hv0]
        have c1 : ¬ (x : Int) < 48 := by omega
        have c2 : ¬ 57 < (x : Int) := by omega
        have q2 : wrap64 (wrap64 (10 * v) + ((x : Int) - 48)) = 10 * v + ((x : Int) - 48) := by
          rw [IntWalk.wrap64_in (10 * v) (by omega), IntWalk.wrap64_in _ (by omega)]
        have Hst := Lib.hid hst
        clear hst hx hd hdig h10 h10b
        go_wp2
        go_roundw
        case rel => exact ⟨⟨k + 1, by omega, by go_num, by rw [Hst.out, q2], Hd.out⟩, hB⟩
        case measure => simp [intOf]; omega
      · rw [Bool.not_eq_true] at hdig
        have Hres := Lib.hid (show pInt s = (0, false) by unfold pInt; rw [ht, if_pos (.inr (.inr (by rw [hn]; exact digTo_le hlt hdig)))])
        unfold digAt at hdig
        rw [hx, decide_eq_false_iff_not] at hdig
        by_cases c1 : (x : Int) < 48
        · clear hx hdig hv h10 h10b
          go_wp2
          go_ret2
          exact ⟨by rw [Hres.out]; rfl, hB⟩
        · have c2 : 57 < (x : Int) := by omega
          clear hx hdig hv h10 h10b
          go_wp2
          go_ret2
          exact ⟨by rw [Hres.out]; rfl, hB⟩
    · obtain rfl : k = n := by omega
      have hv := valD_bound t k hd
      have h10 : (10 : Int) ^ k ≤ 10 ^ 9 := by
        have := Nat.pow_le_pow_right (n := 10) (by omega) (show k ≤ 9 by omega)
        have h11 : ((10 ^ k : Nat) : Int) ≤ ((10 ^ 9 : Nat) : Int) := Int.ofNat_le.2 this
        rw [Int.natCast_pow, Int.natCast_pow] at h11
        exact h11
      have h10b : (10 : Int) ^ 9 = 1000000000 := by decide
      have hres : pInt s = (signed s t, decide (fmt (signed s t) = s)) := by
        unfold pInt
        rw [ht, if_neg]
        rw [hn]; intro h
        rcases h with h | h | h
        · exact h0 h
        · exact h9 h
        · rw [hd] at h; cases h
      obtain ⟨m, hm⟩ : ∃ m, s.size = m := ⟨_, rfl⟩
      obtain ⟨v, hv0⟩ : ∃ v, valD t k = v := ⟨_, rfl⟩
      have hsg : signed s t = if k < m then -v else v := by unfold signed; rw [hn, hm, hv0]
      rw [hv0] at hv
      rw [hv0]
      by_cases hlt : k < m
      · rw [if_pos hlt] at hsg
        rw [hsg] at hres
        have q2 : wrap64 (-v) = -v := IntWalk.wrap64_in _ (by omega)
        have q3 : (k : Int) < (m : Int) := by omega
        have HF := Lib.hid (implFmt_any (-v) (by omega) (by omega))
        have Hres := Lib.hid hres
        clear hres hsg hv0 hd h10 h10b hv hlt
        go_wp2_with fail
        rw [q2]
        refine (HF.out _).mono ?_
        rintro e w5 ⟨rfl, rfl⟩
        go_wp2
        go_ret2
        exact ⟨by rw [Hres.out]; simp [str_eq], hB⟩
      · rw [if_neg hlt] at hsg
        rw [hsg] at hres
        have q3 : ¬ (k : Int) < (m : Int) := by omega
        have HF := Lib.hid (implFmt_any v (by omega) (by omega))
        have Hres := Lib.hid hres
        clear hres hsg hv0 hd h10 h10b hv hlt
        go_wp2_with fail
        refine (HF.out _).mono ?_
        rintro e w5 ⟨rfl, rfl⟩
        go_wp2
        go_ret2
        exact ⟨by rw [Hres.out]; simp [str_eq], hB⟩
end Go.Proofs.YtcminkcoifkbgaaGreatDoor

namespace Go.Proofs.YtcminkcoifkbgaaGreatDoor
open Go.RowKit Go.Shelf

/-- the shelf's variable internal/bytealg.MaxLen holds some int -/
def MX (w : World) : Prop := ∃ m : Int, w.cell? ⟨0, 0, none⟩ = some (.int .i64 m)
theorem MX.lt {w : World} (h : MX w) : 0 < w.heap.size := by
  obtain ⟨m, hm⟩ := h
  exact World.block_lt_of_cell? _ _ hm
theorem MX.below {w w' : World} (h : MX w) (hb : Below w.heap.size w w') : MX w' := by
  obtain ⟨m, hm⟩ := h
  exact ⟨m, by rw [hb.cell (World.block_lt_of_cell? _ _ hm)]; exact hm⟩
def pieces (sep s : ByteArray) : List ByteArray := Lib.splitB sep 0 (Lib.countB s sep) s
theorem pieces_length {sep s : ByteArray} (h1 : 1 ≤ sep.size) : (pieces sep s).length = Lib.countB s sep + 1 := Lib.splitB_all sep h1 0 _ s rfl
theorem pieces_few {sep s : ByteArray} (h1 : 1 ≤ sep.size) : (pieces sep s).length ≤ s.size + 1 := by
  rw [pieces_length h1]
  have := Lib.countB_le sep h1 s.size s (Nat.le_refl _)
  omega
theorem splitB_small (sep : ByteArray) : ∀ (k : Nat) (s x : ByteArray), x ∈ Lib.splitB sep 0 k s → x.size ≤ s.size := by
  intro k
  induction k with
  | zero => intro s x hx; rw [Lib.splitB_zero, List.mem_singleton] at hx; rw [hx]; exact Nat.le_refl _
  | succ k ih =>
    intro s x hx
    rcases Lib.indexB_cases s sep with h | ⟨i, h, hi⟩
    · rw [Lib.splitB_miss _ _ _ _ h, List.mem_singleton] at hx; rw [hx]; exact Nat.le_refl _
    · rw [Lib.splitB_hit _ _ _ _ i h, List.mem_cons] at hx
      rcases hx with rfl | hx
      · rw [ByteArray.size_extract]; omega
      · refine Nat.le_trans (ih _ _ hx) ?_
        rw [ByteArray.size_extract]; omega
theorem piece_small {sep s x : ByteArray} (h : x ∈ pieces sep s) : x.size ≤ s.size := splitB_small sep _ s x h
theorem split_any (s sep : ByteArray) (w : World) (hm : MX w) (hs : s.size ≤ 1000000) (h1 : 1 ≤ sep.size) :
    Calls Tryz.prog 20 #[.string s, .string sep] w fun e w' => e = .returned (.slice (some ⟨w.heap.size, 0, none⟩) (pieces sep s).length (pieces sep s).length) ∧ Below w.heap.size w w' ∧ (∀ k x, (pieces sep s)[k]? = some x → w'.cell? ⟨w.heap.size, k, none⟩ = some (.string x)) ∧ w.heap.size < w'.heap.size ∧ ∃ cur, w'.heap[w.heap.size]? = some (.cells cur 9 (0, 0)) := by
  obtain ⟨m, hm⟩ := hm
  refine (Any.strings_Split laysSplit (by kernel_rfl) s sep m w (by omega) hm h1).mono ?_
  rintro e w' ⟨rfl, rfl⟩
  refine ⟨by rw [pieces_length h1], (Below.refl _ _).alloc (Nat.le_refl _) _, fun k x hx => ?_, by simp, _, heap_alloc_new w _⟩
  rw [cell_of_row _ _ k _ _ (0, 0) (heap_alloc_new w _), List.getElem?_toArray, List.getElem?_map]
  unfold pieces at hx
  rw [hx]; rfl

def okI (s : ByteArray) : Bool := (pInt s).2
def numI (s : ByteArray) : Int := (pInt s).1
def pInts (s : ByteArray) : List Int × Bool := if s.size = 0 then ([], true) else if (pieces space s).all okI = true then ((pieces space s).map numI, true) else ([], false)
theorem isEmpty_false {t : ByteArray} (h : t.size ≠ 0) : t.toList.isEmpty = false := by
  rw [Lib.toList_data, List.isEmpty_eq_false_iff]
  intro e
  exact h (by show t.data.size = 0; rw [← Array.length_toList, e]; rfl)
theorem empty_of {t : ByteArray} (h : t.size = 0) : t = ⟨#[]⟩ := ByteArray.ext (Array.eq_empty_of_size_eq_zero h)

set_option maxRecDepth 100000 in
set_option maxHeartbeats 1600000 in
theorem parseInts_any (s : ByteArray) (w : World) (hm : MX w) (hs : s.size ≤ 1000000) :
    Calls Tryz.prog 23 #[.string s] w fun e w' => ∃ a n c, e = .returned (.tuple #[.slice a n c, .bool (pInts s).2]) ∧ OwI w' w.heap.size w'.heap.size a n c (pInts s).1 ∧ Below w.heap.size w w' := by
  have h1 : OwI (w.alloc (.cells #[] 3)) w.heap.size (w.alloc (.cells #[] 3)).heap.size (some ⟨w.heap.size, 0, none⟩) 0 0 [] := OwI.mk (World.ownsRow_made _ #[] 0 (Nat.le_refl _) (Nat.zero_le _) rfl)
  have hB0 : Below w.heap.size w (w.alloc (.cells #[] 3)) := (Below.refl _ _).alloc (Nat.le_refl _) _
  have H1 := Lib.hid h1; clear h1
  by_cases h0 : s.size = 0
  · have Hres := Lib.hid (show pInts s = ([], true) by unfold pInts; rw [if_pos h0])
    obtain rfl := empty_of h0
    clear h0 hs
    go_enter Tryz.func23, Tryz.ntmps23
    go_wp2
    go_ret2
    exact ⟨_, _, _, by rw [Hres.out]; rfl, by rw [Hres.out]; exact H1.out, hB0⟩
  have he := isEmpty_false h0
  have HS := Lib.hid (split_any s space _ (hm.below hB0) hs (by decide))
  obtain ⟨ps, hps⟩ : ∃ ps, pieces space s = ps := ⟨_, rfl⟩
  have hfew := pieces_few (sep := space) (s := s) (by decide)
  have hsp : space = ⟨#[32]⟩ := rfl
  rw [hps] at HS hfew
  have hres : pInts s = if ps.all okI = true then (ps.map numI, true) else ([], false) := by unfold pInts; rw [if_neg h0, hps]
  rw [hsp] at HS
  clear hsp hps
  obtain ⟨n, hn⟩ : ∃ n, ps.length = n := ⟨_, rfl⟩
  rw [hn] at HS hfew
  go_enter Tryz.func23, Tryz.ntmps23
  go_wp2_with fail
  refine HS.out.mono ?_
  rintro e w2 ⟨rfl, hB2, hcells, hsz2, _⟩
  obtain ⟨W0, hW0⟩ : ∃ W0, w.alloc (.cells #[] 3) = W0 := ⟨_, rfl⟩
  rw [hW0] at hB2 hcells hsz2 H1 hB0 ⊢
  have hz0 : W0.heap.size = w.heap.size + 1 := by rw [← hW0]; simp
  have hz2 := hB2.size
  have HC := Lib.hid hcells
  have HB0 := Lib.hid (hB0.trans (hB2.mono hB0.size))
  have h2 := H1.out.below hB2
  have H2 := Lib.hid h2
  clear hcells hB2 hB0 H1 h2 hW0
  go_wp2
  go_loopw [4, 16] (fun v i wr => Hid (∃ k : Nat, k ≤ n ∧ i = .int .i64 k ∧ (∃ a' c', v = .slice a' k c' ∧ OwI wr w.heap.size wr.heap.size a' k c' ((ps.take k).map numI)) ∧ (ps.take k).all okI = true) ∧ Hid (Grows w2 wr (.slice (some ⟨w.heap.size, 0, none⟩) 0 0) v) ∧ w2.heap.size ≤ wr.heap.size) (fun _ i _ => n - (intOf i).toNat)
  case atStart => exact ⟨⟨0, Nat.zero_le _, rfl, ⟨_, _, rfl, H2.out.mono (Nat.le_refl _) (by omega)⟩, rfl⟩, Grows.refl _ _, Nat.le_refl _⟩
  case round =>
    clear H2
    obtain ⟨HV, HG, hzr⟩ := hrel
    obtain ⟨wo, rfl⟩ : ∃ wo : World, wo = wr := ⟨_, rfl⟩
    obtain ⟨k, hk, rfl, ⟨a', c', rfl, ho⟩, hall⟩ := HV.out
    clear HV
    have hB := HG.out.below HB0.out (by omega) (fun j hj => by simp [Value.ownBlock] at hj; omega)
    by_cases hlt : k < n
    · obtain ⟨x, hx⟩ : ∃ x, ps[k]? = some x := ⟨ps[k], List.getElem?_eq_getElem (by omega)⟩
      have hc : wo.cell? ⟨W0.heap.size, k, none⟩ = some (.string x) := by
        rw [← HC.out k x hx]
        exact World.cell?_of_block (w := w2) (HG.out.grown.block _ (by omega) (by simp [Value.ownBlock]; omega))
      rw [hz0] at hc
      have hst : (ps.take (k + 1)).map numI = (ps.take k).map numI ++ [numI x] := by rw [List.take_add_one, hx, List.map_append]; rfl
      have hst2 : (ps.take (k + 1)).all okI = okI x := by rw [List.take_add_one, hx, List.all_append, hall]; simp
      have q0 : (k : Int) < (n : Int) := by omega
      have HP := Lib.hid (parseInt_any x wo)
      cases hok : okI x
      · have Hres2 := Lib.hid (show pInts s = ([], false) by
          rw [hres, if_neg]
          rw [Bool.not_eq_true, List.all_eq_false]
          exact ⟨x, List.mem_of_getElem? hx, by rw [hok]; simp⟩)
        have Hok := Lib.hid (show (pInt x).2 = false from hok)
        clear hres hst hst2 hx hok
        go_wp2_with fail
        refine HP.out.mono ?_
        rintro e w3 ⟨rfl, hB3⟩
        rw [Hok.out]
        have hB4 := hB.trans (hB3.mono hB.size)
        go_wp2
        go_ret2
        exact ⟨_, _, _, by rw [Hres2.out]; rfl, by rw [Hres2.out]; exact OwI.nil, hB4⟩
      · have Hok := Lib.hid (show (pInt x).2 = true from hok)
        have Hst := Lib.hid hst
        have Hst2 := Lib.hid (hst2.trans hok)
        have HO := Lib.hid ho
        have HX : numI x = (pInt x).1 := rfl
        obtain ⟨v, hv⟩ : ∃ v, numI x = v := ⟨_, rfl⟩
        rw [hv] at HX Hst
        rw [← HX, Hok.out] at HP
        clear hst hst2 hx hok hall ho hv HX Hok hres
        go_wp2_with fail
        refine HP.out.mono ?_
        rintro e w3 ⟨rfl, hB3⟩
        have hB4 := hB.trans (hB3.mono hB.size)
        have hz3 := hB3.size
        have ho3 := HO.out.below hB3
        go_wp2_with (first | (at_builtin; go_loud (refine wpList_pushI (by rfl) (by rfl) _ _ (by rfl) ho3 (by rfl) (by rfl) (by omega) (by have := hB.size; omega) ?_)))
        intro a4 c4 w4 ho4 hg4
        have hG4 := HG.out.trans ((Grows.of_below _ hB3).trans hg4)
        have hz4 := hg4.grown.size
        go_wp2
        go_roundw
        case rel => exact ⟨⟨k + 1, by omega, by go_num, ⟨_, _, rfl, by rw [Hst.out, List.map_take]; exact ho4⟩, Hst2.out⟩, hG4, by omega⟩
        case measure => simp [intOf]; omega
    · obtain rfl : k = n := by omega
      rw [List.take_of_length_le (by omega)] at ho hall
      have Hres := Lib.hid (hres.trans (if_pos hall))
      go_wp2
      go_ret2
      exact ⟨_, _, _, by rw [Hres.out]; rfl, by rw [Hres.out]; exact ho, hB⟩
end Go.Proofs.YtcminkcoifkbgaaGreatDoor
