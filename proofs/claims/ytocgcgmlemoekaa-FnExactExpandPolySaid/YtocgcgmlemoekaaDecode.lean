/-
  Contract of l1Decode: the permutation of a code.
-/
import Derived.Test.YtocgcgmlemoekaaPerm
import Derived.Test.YtocgcgmlemoekaaBuA
import Derived.Test.YtocgcgmlemoekaaLength
namespace Go.Proofs.Ytocgcgmlemoekaa
open Go.RowKit

/-- from v on, the number that is not there yet and has left others of that kind before it, put behind -/
def seek (out : List Int) : Nat → Nat → Int → List Int
  | 0, _, _ => out
  | f + 1, v, left => if out.contains (v : Int) then seek out f (v + 1) left else if left = 0 then out ++ [(v : Int)] else seek out f (v + 1) (left - 1)
def decodeBy (n : Nat) (cs : List Int) : List Int := cs.foldl (fun out x => seek out n 0 x) []
def decode (cs : List Int) : List Int := decodeBy cs.length cs
theorem seek_length (out : List Int) (f : Nat) : ∀ (v : Nat) (left : Int), (seek out f v left).length ≤ out.length + 1 := by
  induction f with
  | zero => intro v left; simp [seek]
  | succ f ih =>
    intro v left
    rw [seek]
    split
    · exact ih _ _
    · split
      · simp
      · exact ih _ _
theorem decodeBy_snoc (n : Nat) (cs : List Int) (x : Int) : decodeBy n (cs ++ [x]) = seek (decodeBy n cs) n 0 x := by simp [decodeBy]
theorem foldl_length (n : Nat) (cs : List Int) : ∀ out : List Int, (cs.foldl (fun out x => seek out n 0 x) out).length ≤ out.length + cs.length := by
  induction cs with
  | nil => intro out; exact Nat.le_refl _
  | cons x cs ih =>
    intro out
    rw [List.foldl_cons, List.length_cons]
    have := ih (seek out n 0 x)
    have := seek_length out n 0 x
    omega
theorem decodeBy_length (n : Nat) (cs : List Int) : (decodeBy n cs).length ≤ cs.length := by
  have := foldl_length n cs []
  simpa [decodeBy] using this

set_option maxRecDepth 100000 in
set_option maxHeartbeats 3200000 in
theorem l1Decode_any (a : Option Addr) (n c : Nat) (cs : List Int) (w : World) (hr : RI w a cs) (hn : cs.length = n) (hb : n ≤ 1000) (hcs : ∀ x ∈ cs, 0 ≤ x ∧ x ≤ 1000) :
    Calls Try.prog 170 #[.slice a n c] w fun e w' => ∃ a' n' c', e = .returned (.slice a' n' c') ∧ OwI w' w.heap.size w'.heap.size a' n' c' (decode cs) ∧ Below w.heap.size w w' := by
  have Hn := Lib.hid hn; clear hn
  have HC := Lib.hid hcs; clear hcs
  have h1 : OwI (w.alloc (.cells #[] 3)) w.heap.size (w.alloc (.cells #[] 3)).heap.size (some ⟨w.heap.size, 0, none⟩) 0 0 [] := OwI.mk (World.ownsRow_made _ #[] 0 (Nat.le_refl _) (Nat.zero_le _) rfl)
  have hB0 : Below w.heap.size w (w.alloc (.cells #[] 3)) := (Below.refl _ _).alloc (Nat.le_refl _) _
  have H1 := Lib.hid h1; clear h1
  go_enter Try.func170, Try.ntmps170
  go_wp2
  go_loopw [3, 4] (fun v i wr => ∃ k : Nat, k ≤ n ∧ i = .int .i64 k ∧ Hid (∃ a' m c', v = .slice a' m c' ∧ m ≤ k ∧ OwI wr w.heap.size wr.heap.size a' m c' (decodeBy n (cs.take k))) ∧ Below w.heap.size w wr) (fun _ i _ => n - (intOf i).toNat)
  case atStart => exact ⟨0, Nat.zero_le _, rfl, ⟨_, _, _, rfl, Nat.le_refl _, H1.out⟩, hB0⟩
  case round =>
    clear hB0 H1
    obtain ⟨k, hk, rfl, HV, hB⟩ := hrel
    obtain ⟨wo, rfl⟩ : ∃ wo : World, wo = wr := ⟨_, rfl⟩
    obtain ⟨a', m, c', rfl, hmk, ho⟩ := HV.out
    clear HV
    by_cases hlt : k < n
    · have hrw := hr.below hB
      obtain ⟨b, off, rfl, hcell⟩ := hrw.at (k := k) (by rw [Hn.out]; exact hlt)
      obtain ⟨x, hx⟩ := some_at (k := k) Hn.out (by omega)
      have hc := hcell k x hx
      obtain ⟨hx0, hx1⟩ := HC.out x (List.mem_of_getElem? hx)
      have hst : decodeBy n (cs.take (k + 1)) = seek (decodeBy n (cs.take k)) n 0 x := by rw [List.take_add_one, hx]; exact decodeBy_snoc _ _ _
      obtain ⟨out, hout⟩ : ∃ out, decodeBy n (cs.take k) = out := ⟨_, rfl⟩
      rw [hout] at hst ho
      have hol := ho.len
      have Hst := Lib.hid hst
      have Hol := Lib.hid hol
      have HO := Lib.hid ho
      clear hcell hrw hx hst hout hol ho
      obtain ⟨r0, rfl⟩ : ∃ r : Nat, x = r := ⟨x.toNat, by omega⟩
      have hbs := hB.size
      go_wp2
      go_loopw [3, 5, 6] (fun s l v wr => ∃ j r : Nat, j ≤ n ∧ v = .int .i64 j ∧ l = .int .i64 r ∧ r ≤ 1000 ∧ Hid (s = .slice a' m c') ∧ Hid (seek out n 0 r0 = seek out (n - j) j r) ∧ Drew wo wr) (fun _ _ v _ => n - (intOf v).toNat)
      case atStart => exact ⟨0, r0, Nat.zero_le _, rfl, rfl, by omega, rfl, rfl, Drew.refl _⟩
      case round =>
        obtain ⟨j, r, hj, rfl, rfl, hr1, HS, HK, hd⟩ := hrel
        obtain rfl := HS.out
        clear HS
        obtain ⟨wp, rfl⟩ : ∃ wp : World, wp = wr := ⟨_, rfl⟩
        have hoI := HO.out.below (hd.below _)
        by_cases hjn : j < n
        · obtain ⟨f, hf⟩ : ∃ f, n - j = f + 1 := ⟨n - j - 1, by omega⟩
          have hf2 : f = n - (j + 1) := by omega
          have hk2 := HK.out
          rw [hf, seek] at hk2
          cases hm : out.contains (j : Int)
          · rw [hm, if_neg (by simp)] at hk2
            by_cases hr0 : r = 0
            · rw [if_pos (by omega)] at hk2
              have e1 : ((r : Int) == 0) = true := by simp; omega
              clear hr0
              have Hk2 := Lib.hid hk2
              have Hm := Lib.hid hm
              clear hk2 hm hf hf2 HK
              go_wp2_with fail
              refine (is (l1Has_any _ _ _ out j _ hoI.rd Hol.out (by omega)) Hm.out).mono ?_
              rintro e w2 ⟨rfl, hd2⟩
              have ho2 := hoI.below (hd2.below _)
              have hB2 := (hB.trans (hd.below _)).trans (hd2.below _)
              go_wp2_with (first | (at_builtin; go_loud (refine wpList_pushI (by rfl) (by rfl) _ _ (by rfl) ho2 (by rfl) (by rfl) (by omega) (by have := hB2.size; omega) ?_)))
              intro a2 c2 w3 ho3 hg3
              have hB3 := hg3.below hB2 hB2.size (fun k hk => ho2.1.lo k hk)
              go_wp2
              go_roundw
              case rel => exact ⟨k + 1, by omega, by go_num, ⟨_, _, _, rfl, by omega, by rw [Hst.out, Hk2.out]; exact ho3⟩, hB3⟩
              case measure => simp [intOf]; omega
            · rw [if_neg (by omega)] at hk2
              have e1 : ((r : Int) == 0) = false := by simp; omega
              have hre : ((r : Int) - 1) = ((r - 1 : Nat) : Int) := by omega
              rw [hre] at hk2
              subst hf2
              have Hk2 := Lib.hid hk2
              have Hm := Lib.hid hm
              clear hk2 hm hf HK hre
              go_wp2_with fail
              refine (is (l1Has_any _ _ _ out j _ hoI.rd Hol.out (by omega)) Hm.out).mono ?_
              rintro e w2 ⟨rfl, hd2⟩
              go_wp2
              go_roundw
              case rel => exact ⟨j + 1, r - 1, by omega, by go_num, by go_num, by omega, rfl, Hk2, hd.trans hd2⟩
              case measure => simp [intOf]; omega
          · rw [hm, if_pos rfl] at hk2
            subst hf2
            have Hk2 := Lib.hid hk2
            have Hm := Lib.hid hm
            clear hk2 hm hf HK
            go_wp2_with fail
            refine (is (l1Has_any _ _ _ out j _ hoI.rd Hol.out (by omega)) Hm.out).mono ?_
            rintro e w2 ⟨rfl, hd2⟩
            go_wp2
            go_roundw
            case rel => exact ⟨j + 1, r, by omega, by go_num, rfl, hr1, rfl, Hk2, hd.trans hd2⟩
            case measure => simp [intOf]; omega
        · obtain rfl : j = n := by omega
          have hk2 := HK.out
          rw [Nat.sub_self, seek] at hk2
          have Hk2 := Lib.hid hk2
          clear hk2 HK
          go_wp2
          go_roundw
          case rel => exact ⟨k + 1, by omega, by go_num, ⟨_, _, _, rfl, by omega, by rw [Hst.out, Hk2.out]; exact hoI.mono (Nat.le_refl _) (hd.below wo.heap.size).size⟩, hB.trans (hd.below _)⟩
          case measure => simp [intOf]; omega
    · obtain rfl : k = n := by omega
      rw [List.take_of_length_le (by rw [Hn.out]; exact Nat.le_refl _)] at ho
      have hfin : decodeBy k cs = decode cs := by rw [decode, Hn.out]
      rw [hfin] at ho
      go_wp2
      go_ret
      exact ⟨_, _, _, rfl, ho, hB⟩
end Go.Proofs.Ytocgcgmlemoekaa
