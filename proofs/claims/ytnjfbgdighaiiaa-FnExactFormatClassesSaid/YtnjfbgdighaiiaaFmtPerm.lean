/-
  Contracts of FormatPerm, the program's and the reference's, at permutations.
-/
import Derived.Test.YtnjfbgdighaiiaaStrs
import Derived.Test.YtnjfbgdighaiiaaPerm
import Derived.Test.YtnjfbgdighaiiaaLength
namespace Go.Proofs.Ytnjfbgdighaiiaa
open Go.RowKit

def permBytes (s : List Int) : List UInt8 := s.map fun x => glyph (x + 1).toNat
def permPre (s : List Int) (k : Nat) : ByteArray := ⟨((permBytes s).take k).toArray⟩
def permText (s : List Int) : ByteArray := ⟨(permBytes s).toArray⟩
theorem permBytes_length (s : List Int) : (permBytes s).length = s.length := by simp [permBytes]
theorem permBytes_at {s : List Int} {k : Nat} {x : Int} (h : s[k]? = some x) : (permBytes s)[k]? = some (glyph (x + 1).toNat) := by
  rw [permBytes, List.getElem?_map, h]; rfl
theorem permPre_zero (s : List Int) : permPre s 0 = ⟨#[]⟩ := rfl
theorem permPre_all {s : List Int} {n : Nat} (h : s.length = n) : permPre s n = permText s := by
  unfold permPre permText
  rw [List.take_of_length_le (by rw [permBytes_length, h]; exact Nat.le_refl _)]
theorem permPre_size (s : List Int) (k : Nat) : (permPre s k).size ≤ k := by
  simp only [permPre, ByteArray.size, List.size_toArray, List.length_take]
  omega
theorem permPre_step {s : List Int} {k : Nat} {x : Int} (h : s[k]? = some x) : permPre s k ++ text [(x + 1).toNat] = permPre s (k + 1) := by
  apply ByteArray.ext
  simp [permPre, text, ByteArray.data_append, List.take_add_one, permBytes_at h]
theorem permText_size {s : List Int} : (permText s).size = s.length := by
  simp [permText, ByteArray.size, permBytes_length]
theorem perm_digit {s : List Int} {n : Nat} (hp : isPerm s = true) (hn : s.length = n) {k : Nat} {x : Int} (h : s[k]? = some x) : 0 ≤ x ∧ x ≤ 6 := by
  have h1 := isPerm_iff s
  rw [hp] at h1
  obtain ⟨h2, h3, h4, _⟩ := h1.1 rfl
  have := h4 x (List.mem_of_getElem? h)
  omega

set_option maxRecDepth 100000 in
set_option maxHeartbeats 1600000 in
theorem specFmtPerm_any (a : Option Addr) (n c : Nat) (xs : List Int) (w : World) (hr : RI w a xs) (hn : xs.length = n) (hb : n ≤ 1048576) (hcap : n ≤ c) (hp : isPerm xs = true) :
    Calls Try.prog 87 #[.slice a n c] w fun e w' => e = .returned (.string (permText xs)) ∧ Below w.heap.size w w' := by
  have hpl := perm_len hp
  rw [hn] at hpl
  have Hn := Lib.hid hn; clear hn
  have Hp := Lib.hid hp; clear hp
  go_enter Try.func87, Try.ntmps87
  go_wp2_with fail
  refine (is (specIsPerm_any _ _ _ xs _ hr Hn.out (by omega) hcap) Hp.out).mono ?_
  rintro e w1 ⟨rfl, hd1⟩
  have hB1 := hd1.below w.heap.size
  have hz1 := hB1.size
  have HM := Lib.hid ((BO.made w1))
  have hA : Below w1.heap.size w1 (w1.alloc (.cells #[] 5)) := (Below.refl _ _).alloc (Nat.le_refl _) _
  clear hd1
  go_wp2
  go_loopw [3, 4] (fun v i wr => Hid (∃ k : Nat, k ≤ n ∧ i = .int .i64 k ∧ ∃ a' c', v = .slice a' k c' ∧ BO wr w1.heap.size wr.heap.size a' k c' ((permBytes xs).take k)) ∧ Below w1.heap.size w1 wr) (fun _ i _ => n - (intOf i).toNat)
  case atStart => exact ⟨⟨0, Nat.zero_le _, rfl, _, _, rfl, HM.out⟩, hA⟩
  case round =>
    clear hA HM
    obtain ⟨HV, hB⟩ := hrel
    obtain ⟨wo, rfl⟩ : ∃ wo : World, wo = wr := ⟨_, rfl⟩
    obtain ⟨k, hk, rfl, a', c', rfl, ho⟩ := HV.out
    clear HV
    have hbs := hB.size
    by_cases hlt : k < n
    · obtain ⟨b, off, rfl, hcell⟩ := (hr.below (hB1.trans (hB.mono hz1))).at (k := k) (by rw [Hn.out]; exact hlt)
      obtain ⟨x, hx⟩ := some_at Hn.out hlt
      have hc := hcell k x hx
      obtain ⟨x0, x6⟩ := perm_digit Hp.out Hn.out hx
      have hst : (permBytes xs).take k ++ [glyph (x + 1).toNat] = (permBytes xs).take (k + 1) := by rw [List.take_add_one, permBytes_at hx]; rfl
      have hgl : ((glyph (x + 1).toNat).toNat : Int) = 49 + x := by rw [glyph_nat (by omega)]; omega
      generalize glyph (x + 1).toNat = bq at hst hgl
      have Hst := Lib.hid hst
      have HX := Lib.hid hgl
      have q1 : (k : Int) < (n : Int) := by omega
      clear hcell hx hst hgl
      go_wp2_with (first | (at_builtin; go_loud (refine wpList_pushU (b0 := bq) (by rfl) ?hx1 (by rfl) _ _ (by rfl) ho (by rfl) (by rfl) (by omega) hbs ?_)))
      case hx1 => first | exact HX.out.symm | (have := HX.out; omega)
      intro a2 c2 w2 ho2 hg2
      have hB2 := hg2.below hB hbs ho.lo
      rw [Hst.out] at ho2
      have HO := Lib.hid ho2
      clear ho ho2 hg2
      go_wp2
      go_roundw
      case rel => exact ⟨⟨k + 1, by omega, by go_num, _, _, rfl, HO.out⟩, hB2⟩
      case measure => simp [intOf]; omega
    · obtain rfl : k = n := by omega
      rw [List.take_of_length_le (by rw [permBytes_length, Hn.out]; exact Nat.le_refl _)] at ho
      have hno1 := ho.len
      have hB3 := hB1.trans (hB.mono hz1)
      obtain ⟨g, rfl, _⟩ := ho.cons (j := 0) (by omega)
      have hconv := run_convert_bytes_back (P := Try.prog) wo 38 9 5 ⟨g, 0, none⟩ c' (permBytes xs) Try.underlying38 Try.underlying5 Try.underlying9 (fun k hk => by
        obtain ⟨g', eg, b, hb, hcell⟩ := ho.cons (j := k) (by omega)
        have eg1 : g = g' := by simpa using eg
        subst eg1
        have ea : (⟨g, 0, none⟩ : Addr).add k = ⟨g, k, none⟩ := by unfold Addr.add; split <;> simp_all
        rw [ea, hcell]
        obtain ⟨_, hb2⟩ := List.getElem?_eq_some_iff.1 hb
        rw [hb2])
      rw [hno1] at hconv
      have e3 : (⟨(permBytes xs).toArray⟩ : ByteArray) = permText xs := rfl
      rw [e3] at hconv
      clear ho hno1 e3
      go_wp2
      go_ret
      exact ⟨rfl, hB3⟩

set_option maxRecDepth 100000 in
set_option maxHeartbeats 1600000 in
theorem implFmtPerm_any (a : Option Addr) (n c : Nat) (xs : List Int) (w : World) (hr : RI w a xs) (hn : xs.length = n) (hb : n ≤ 1048576) (hp : isPerm xs = true) :
    Calls Try.prog 89 #[.slice a n c] w fun e w' => e = .returned (.string (permText xs)) ∧ Below w.heap.size w w' := by
  have hpl := perm_len hp
  rw [hn] at hpl
  have Hn := Lib.hid hn; clear hn
  have Hp := Lib.hid hp; clear hp
  go_enter Try.func89, Try.ntmps89
  go_wp2_with fail
  refine (is (implIsPerm_any _ _ _ xs _ hr Hn.out (by omega)) Hp.out).mono ?_
  rintro e w1 ⟨rfl, hB1⟩
  have hr1 := hr.below hB1
  go_wp2
  go_loopw [3, 11] (fun s i wr => Hid (∃ k : Nat, k ≤ n ∧ i = .int .i64 k ∧ s = .string (permPre xs k)) ∧ Below w.heap.size w wr ∧ RI wr a xs) (fun _ i _ => n - (intOf i).toNat)
  case atStart => exact ⟨⟨0, Nat.zero_le _, rfl, rfl⟩, hB1, hr1⟩
  case round =>
    clear hB1 hr1
    obtain ⟨HV, hB, hr1⟩ := hrel
    obtain ⟨wo, rfl⟩ : ∃ wo : World, wo = wr := ⟨_, rfl⟩
    obtain ⟨k, hk, rfl, rfl⟩ := HV.out
    clear HV
    by_cases hlt : k < n
    · obtain ⟨b, off, rfl, hcell⟩ := hr1.at (k := k) (by rw [Hn.out]; exact hlt)
      obtain ⟨x, hx⟩ := some_at Hn.out hlt
      have hc := hcell k x hx
      obtain ⟨x0, x6⟩ := perm_digit Hp.out Hn.out hx
      have hst := permPre_step hx
      have hfm : fmt (x + 1) = text [(x + 1).toNat] := by
        have h1 := fmt_small (m := (x + 1).toNat) (by omega)
        rw [show (((x + 1).toNat : Nat) : Int) = x + 1 by omega] at h1
        exact h1
      have hus := permPre_size xs k
      have hqs : (text [(x + 1).toNat]).size = 1 := text_size _
      have hspec := implFmt_any (x + 1) (by omega) (by omega) wo
      rw [hfm] at hspec
      generalize text [(x + 1).toNat] = q at hst hqs hspec
      generalize permPre xs k = u at hst hus ⊢
      have Hst := Lib.hid hst
      have HS := Lib.hid hspec
      have q1 : (k : Int) < (n : Int) := by omega
      have hz : ¬ 9223372036854775807 < u.size + q.size := by omega
      clear hcell hx hst hfm hspec
      go_wp2_with fail
      refine HS.out.mono ?_
      rintro e w2 ⟨rfl, rfl⟩
      go_wp2
      go_roundw
      case rel => exact ⟨⟨k + 1, by omega, by go_num, by rw [Hst.out]⟩, hB, hr1⟩
      case measure => simp [intOf]; omega
    · obtain rfl : k = n := by omega
      rw [permPre_all Hn.out]
      go_wp2
      go_ret
      exact ⟨rfl, hB⟩
end Go.Proofs.Ytnjfbgdighaiiaa
