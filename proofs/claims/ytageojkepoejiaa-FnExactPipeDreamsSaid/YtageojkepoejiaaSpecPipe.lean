/-
  Contract of PipeDreams of the reference.
-/
import Derived.Test.YtageojkepoejiaaL3D
import Derived.Test.YtageojkepoejiaaL3Put
import Derived.Test.YtageojkepoejiaaL3Cells
import Derived.Test.YtageojkepoejiaaBuP12
namespace Go.Proofs.Ytageojkepoejiaa
open Go.RowKit

/-- the reduced dreams in the reference's order, as it finds them -/
def drS (xs : List Int) : List (List (Int × Int)) := l3D xs.length (xs.length * xs.length) xs 0 (xs.length - 2) []
theorem l3D_len (n : Nat) : ∀ (f : Nat) (xs : List Int) (row col : Nat) (cs : List (Int × Int)), ∀ d ∈ l3D n f xs row col cs, d.length ≤ cs.length + f
  | 0, _, _, _, _, d, hd => by rw [l3D] at hd; cases hd
  | f + 1, xs, row, col, cs, d, hd => by
    rw [l3D] at hd
    split at hd
    · rw [List.mem_singleton] at hd
      subst hd
      omega
    · split at hd
      · cases hd
      · rw [List.mem_append] at hd
        rcases hd with hd | hd
        · split at hd
          · have := l3D_len n f _ _ _ _ d hd
            rw [List.length_append] at this
            simp at this
            omega
          · cases hd
        · have := l3D_len n f _ _ _ _ d hd
          omega
theorem drS_each {xs : List Int} (h6 : xs.length ≤ 6) : ∀ d ∈ drS xs, d.length ≤ 36 := fun d hd => by
  have h1 := l3D_len _ _ _ _ _ _ d hd
  have := Nat.mul_le_mul h6 h6
  simp at h1
  omega
/-- what the reference answers from its dreams -/
def putD (L : List (List (Int × Int))) (i : Nat) : List (List (Int × Int)) := ascD ((L.take i).map sortD)
theorem putD_succ {L : List (List (Int × Int))} {i : Nat} {d : List (Int × Int)} (h : L[i]? = some d) : putD L (i + 1) = insD (sortD d) (putD L i) := by
  obtain ⟨hi, e⟩ := List.getElem?_eq_some_iff.1 h
  unfold putD
  rw [List.take_succ_eq_append_getElem hi, List.map_append, e, List.map_singleton, ascD_snoc]
theorem putD_each {L : List (List (Int × Int))} {i K : Nat} (h : ∀ d ∈ L, d.length ≤ K) : ∀ d ∈ putD L i, d.length ≤ K := fun d hd => by
  unfold putD at hd
  rw [mem_ascD, List.mem_map] at hd
  obtain ⟨e, he, rfl⟩ := hd
  rw [sortD_length]
  exact h e (List.mem_of_mem_take he)
theorem putD_len (L : List (List (Int × Int))) (i : Nat) : (putD L i).length ≤ L.length := by
  unfold putD
  have := ascD_length ((L.take i).map sortD)
  rw [List.length_map, List.length_take] at this
  omega

set_option maxRecDepth 100000 in
set_option maxHeartbeats 6400000 in
theorem specPipe_some (a : Option Addr) (n c : Nat) (xs : List Int) (w : World) (hr : RI w a xs) (hn : xs.length = n) (hcap : n ≤ c) (hp : isPerm xs = true) (h6 : n ≤ 6) (hfew : (drS xs).length ≤ 400) :
    Calls Try.prog 26 #[.slice a n c] w fun e w' => ∃ a' n' c', e = .returned (.tuple #[.slice a' n' c', .bool true]) ∧ CCS w' w.heap.size w'.heap.size a' n' c' (ascD ((drS xs).map sortD)) ∧ Below w.heap.size w w' := by
  have hin := ((isPerm_iff xs).1 hp).2.2.1
  have h1 := ((isPerm_iff xs).1 hp).1
  rw [hn] at hin h1
  have Hin := Lib.hid (show InR n xs from hin)
  have Hn := Lib.hid hn
  have Hp := Lib.hid hp
  have Heach := Lib.hid (drS_each (xs := xs) (by omega))
  obtain ⟨L, hL⟩ : ∃ L, drS xs = L := ⟨_, rfl⟩
  have Hfew := Lib.hid hfew
  have HL : Hid (l3D n (n * n) xs 0 (n - 2) [] = L) := by rw [← hL, drS, hn]; exact rfl
  rw [hL] at Heach Hfew ⊢
  have q0 : IntKind.i64.wrap ((n : Int) - 2) = (n : Int) - 2 := IntWalk.i64_in _ (by omega)
  have hnn : (n - 1 - 0) * n + (n - 2) < n * n := by
    obtain ⟨t, rfl⟩ : ∃ t, n = t + 1 := ⟨n - 1, by omega⟩
    rw [show t + 1 - 1 - 0 = t by omega, Nat.succ_mul]
    omega
  have h36 : n * n ≤ 36 := Nat.mul_le_mul h6 h6
  have Hnn := Lib.hid hnn
  clear hin hn hp hfew hL hnn
  go_enter Try.func26, Try.ntmps26
  go_wp2_with fail
  refine (is (specIsPerm_any _ _ _ xs _ hr Hn.out (by omega) hcap) Hp.out).mono ?_
  rintro e w1 ⟨rfl, hd1⟩
  have hb1 := hd1.below w.heap.size
  have hr1 := hr.below hb1
  go_wp2_with fail
  refine (l1Ints_any _ _ _ xs _ hr1 Hn.out (by omega)).mono ?_
  rintro e w2 ⟨a2, c2, rfl, ho2, hb2⟩
  have hB2 := hb1.trans (hb2.mono hb1.size)
  have Ho2 := Lib.hid (ho2.mono (B' := w.heap.size) (S' := w2.heap.size) hb1.size (Nat.le_refl _))
  have hs2 := hB2.size
  clear ho2 hb2 hb1 hr1
  have HI := Lib.hid (l3Dreams_any n h6 h1 (n * n) w.heap.size a2 c2 xs 0 (n - 2) ((n : Int) - 2) none 0 0 [] none 0 0 [] w2 Ho2.out CO.nil CCS.nil hs2 Hn.out Hin.out (Nat.zero_le _) (by omega) (by omega) Hnn.out (by omega) (by rw [HL.out]; have := Hfew.out; omega))
  go_wp2_with fail
  refine HI.out.mono ?_
  rintro e w3 ⟨a3, n3, c3, rfl, ho3, hg3⟩
  rw [HL.out, List.nil_append] at ho3
  have hn3 : n3 ≤ 400 := by rw [← ho3.len]; exact Hfew.out
  have Hl3 := Lib.hid ho3.len
  have hl3 := ho3.rd
  have hB3 := hg3.below hB2 hs2 (fun k hk => by simp [Value.ownBlock] at hk)
  have hs3 := hB3.size
  have q4 : ¬ (400 : Int) < (n3 : Int) := by omega
  have hBa : Below w3.heap.size w3 (w3.alloc (.cells #[] 36)) := (Below.refl _ _).alloc (Nat.le_refl _) _
  have hm0 : CCS (w3.alloc (.cells #[] 36)) w3.heap.size (w3.alloc (.cells #[] 36)).heap.size (some ⟨w3.heap.size, 0, none⟩) 0 0 [] := (CCO.made w3).toS
  clear ho3 hg3 HI
  go_wp2
  go_loopw [5, 6] (fun ov iv wr => Hid (∃ (i m : Nat) (ao : Option Addr) (co : Nat), iv = .int .i64 i ∧ i ≤ n3 ∧ ov = .slice ao m co ∧ CCS wr w3.heap.size wr.heap.size ao m co (putD L i)) ∧ Below w3.heap.size w3 wr) (fun _ iv _ => n3 - (intOf iv).toNat)
  case atStart => exact ⟨⟨0, 0, _, _, rfl, Nat.zero_le _, rfl, hm0⟩, hBa⟩
  case round =>
    clear hBa hm0
    obtain ⟨HV, hBi⟩ := hrel
    obtain ⟨wi, rfl⟩ : ∃ wi : World, wi = wr := ⟨_, rfl⟩
    obtain ⟨i, m, ao, co, rfl, hi, rfl, ho⟩ := HV.out
    clear HV
    have hisz := hBi.size
    have hml : m ≤ 400 := by have h1 := putD_len L i; have h2 := ho.len; have h3 := Hl3.out; omega
    have HO := Lib.hid ho
    clear ho
    by_cases hlt : i < n3
    · obtain ⟨d, hd⟩ := some_of (show i < L.length by rw [Hl3.out]; exact hlt)
      obtain ⟨b, off, rfl, hcell⟩ := (hl3.below hBi).at (k := i) (by rw [Hl3.out]; exact hlt)
      obtain ⟨a1, c1, hc1, hr1⟩ := hcell i d hd
      have hd36 := Heach.out d (List.mem_of_getElem? hd)
      obtain ⟨K, hK⟩ : ∃ K, d.length = K := ⟨_, rfl⟩
      rw [hK] at hc1 hd36
      have HK := Lib.hid hK
      have Hsu := Lib.hid (putD_succ hd)
      have q1 : (i : Int) < (n3 : Int) := by omega
      have Hsh := Lib.hid (show ∀ p ∈ putD L i, p.length ≤ 1048576 from fun p hp => by have := putD_each (K := 36) Heach.out p hp; omega)
      clear hcell hd hK
      go_wp2_with fail
      refine (l3Cells_any _ _ _ d _ hr1 HK.out (by omega)).mono ?_
      rintro e w4 ⟨a4, n4, c4, rfl, ho4, hb4⟩
      have hB4 := hBi.trans (hb4.mono hisz)
      have hs4 := hb4.size
      have hn4 : n4 ≤ 1048576 := by have h1 := ho4.len; rw [cellsTo_length] at h1; omega
      have hsd : cellsTo d K = sortD d := by have := cellsTo_eq d; rw [HK.out] at this; exact this
      rw [hsd] at ho4
      have HO4 := Lib.hid ((HO.out.below hb4).mono (S' := w4.heap.size) hs4)
      have Hx4 := Lib.hid (ho4.mono (B' := w3.heap.size) (S' := w4.heap.size) hisz (Nat.le_refl _))
      have HP := Lib.hid (l3Put_any w3.heap.size w4.heap.size ao m co (putD L i) a4 n4 c4 (sortD d) w4 HO4.out Hx4.out (Nat.le_refl _) hB4.size (by omega) hn4 Hsh.out)
      clear ho4 hb4 hsd
      go_wp2_with fail
      refine HP.out.mono ?_
      rintro e w5 ⟨a5, n5, c5, rfl, ho5, hb5⟩
      rw [← Hsu.out] at ho5
      have HO5 := Lib.hid ho5
      have hB5 := hB4.trans (hb5.mono hB4.size)
      clear ho5 hb5 HP
      go_wp2
      go_roundw
      case rel => exact ⟨⟨i + 1, _, _, _, by go_num, by omega, rfl, HO5.out⟩, hB5⟩
      case measure => simp [intOf]; omega
    · obtain rfl : i = n3 := by omega
      have Hfin := Lib.hid (show CCS wi w.heap.size wi.heap.size ao m co (ascD (L.map sortD)) by
        have h1 := HO.out
        unfold putD at h1
        rw [List.take_of_length_le (by rw [Hl3.out]; exact Nat.le_refl _)] at h1
        exact h1.mono2 hs3 (Nat.le_refl _))
      have hBf := hB3.trans (hBi.mono hs3)
      clear HO
      go_wp2
      go_ret2
      exact ⟨_, _, _, rfl, Hfin.out, hBf⟩
end Go.Proofs.Ytageojkepoejiaa
