/-
  Contract of l1Decode: the permutation of a code.
  Contract of slices.Delete of one number of a row of the call's own; given by the kit's shelf: Any.slices_Delete_int.
  Contract of PermOfCode, for codes that are right.
  Contracts of l1Trim and TrimPerm: places at the end that are not moved, left away.
-/
import Derived.Test.YtomejjbkakpoiaaGreatBuE12
import Derived.Test.YtomejjbkakpoiaaGreatBuE1
import Derived.Test.YtomejjbkakpoiaaGreatBuE13
import Derived.Test.YtomejjbkakpoiaaGreatBuE10
import Derived.Shelf.Slices.Delete
namespace Go.Proofs.YtomejjbkakpoiaaGreat
open Go.RowKit

/-- from v on, the number that is not there yet and has left others of that kind before it, put behind -/
def seek (out : List Int) : Nat → Nat → Int → List Int
  | 0, _, _ => out
  | f + 1, v, left => if out.contains (v : Int) then seek out f (v + 1) left else if left = 0 then out ++ [(v : Int)] else seek out f (v + 1) (left - 1)
def decodeBy (n : Nat) (cs : List Int) : List Int := cs.foldl (fun out x => seek out n 0 x) []
def decode (cs : List Int) : List Int := decodeBy cs.length cs
theorem seek_length (out : List Int) (f : Nat) : ∀ (v : Nat) (left : Int), (seek out f v left).length ≤ out.length + 1 := by
  induction f with
  | zero => intro v left; simp [seek]
  | succ f ih =>
    intro v left
    rw [seek]
    split
    · exact ih _ _
    · split
      · simp
      · exact ih _ _
theorem decodeBy_snoc (n : Nat) (cs : List Int) (x : Int) : decodeBy n (cs ++ [x]) = seek (decodeBy n cs) n 0 x := by simp [decodeBy]
theorem foldl_length (n : Nat) (cs : List Int) : ∀ out : List Int, (cs.foldl (fun out x => seek out n 0 x) out).length ≤ out.length + cs.length := by
  induction cs with
  | nil => intro out; exact Nat.le_refl _
  | cons x cs ih =>
    intro out
    rw [List.foldl_cons, List.length_cons]
    have := ih (seek out n 0 x)
    have := seek_length out n 0 x
    omega
theorem decodeBy_length (n : Nat) (cs : List Int) : (decodeBy n cs).length ≤ cs.length := by
  have := foldl_length n cs []
  simpa [decodeBy] using this

set_option maxRecDepth 100000 in
set_option maxHeartbeats 3200000 in
theorem l1Decode_any (a : Option Addr) (n c : Nat) (cs : List Int) (w : World) (hr : RI w a cs) (hn : cs.length = n) (hb : n ≤ 1000) (hcs : ∀ x ∈ cs, 0 ≤ x ∧ x ≤ 1000) :
    Calls Tryz.prog 65 #[.slice a n c] w fun e w' => ∃ a' n' c', e = .returned (.slice a' n' c') ∧ OwI w' w.heap.size w'.heap.size a' n' c' (decode cs) ∧ Below w.heap.size w w' := by
  have Hn := Lib.hid hn; clear hn
  have HC := Lib.hid hcs; clear hcs
  have h1 : OwI (w.alloc (.cells #[] 3)) w.heap.size (w.alloc (.cells #[] 3)).heap.size (some ⟨w.heap.size, 0, none⟩) 0 0 [] := OwI.mk (World.ownsRow_made _ #[] 0 (Nat.le_refl _) (Nat.zero_le _) rfl)
  have hB0 : Below w.heap.size w (w.alloc (.cells #[] 3)) := (Below.refl _ _).alloc (Nat.le_refl _) _
  have H1 := Lib.hid h1; clear h1
  go_enter Tryz.func65, Tryz.ntmps65
  go_wp2
  go_loopw [3, 4] (fun v i wr => ∃ k : Nat, k ≤ n ∧ i = .int .i64 k ∧ Hid (∃ a' m c', v = .slice a' m c' ∧ m ≤ k ∧ OwI wr w.heap.size wr.heap.size a' m c' (decodeBy n (cs.take k))) ∧ Below w.heap.size w wr) (fun _ i _ => n - (intOf i).toNat)
  case atStart => exact ⟨0, Nat.zero_le _, rfl, ⟨_, _, _, rfl, Nat.le_refl _, H1.out⟩, hB0⟩
  case round =>
    clear hB0 H1
    obtain ⟨k, hk, rfl, HV, hB⟩ := hrel
    obtain ⟨wo, rfl⟩ : ∃ wo : World, wo = wr := ⟨_, rfl⟩
    obtain ⟨a', m, c', rfl, hmk, ho⟩ := HV.out
    clear HV
    by_cases hlt : k < n
    · have hrw := hr.below hB
      obtain ⟨b, off, rfl, hcell⟩ := hrw.at (k := k) (by rw [Hn.out]; exact hlt)
      obtain ⟨x, hx⟩ := some_at (k := k) Hn.out (by omega)
      have hc := hcell k x hx
      obtain ⟨hx0, hx1⟩ := HC.out x (List.mem_of_getElem? hx)
      have hst : decodeBy n (cs.take (k + 1)) = seek (decodeBy n (cs.take k)) n 0 x := by rw [List.take_add_one, hx]; exact decodeBy_snoc _ _ _
      obtain ⟨out, hout⟩ : ∃ out, decodeBy n (cs.take k) = out := ⟨_, rfl⟩
      rw [hout] at hst ho
      have hol := ho.len
      have Hst := Lib.hid hst
      have Hol := Lib.hid hol
      have HO := Lib.hid ho
      clear hcell hrw hx hst hout hol ho
      obtain ⟨r0, rfl⟩ : ∃ r : Nat, x = r := ⟨x.toNat, by omega⟩
      have hbs := hB.size
      go_wp2
      go_loopw [3, 5, 6] (fun s l v wr => ∃ j r : Nat, j ≤ n ∧ v = .int .i64 j ∧ l = .int .i64 r ∧ r ≤ 1000 ∧ Hid (s = .slice a' m c') ∧ Hid (seek out n 0 r0 = seek out (n - j) j r) ∧ Drew wo wr) (fun _ _ v _ => n - (intOf v).toNat)
      case atStart => exact ⟨0, r0, Nat.zero_le _, rfl, rfl, by omega, rfl, rfl, Drew.refl _⟩
      case round =>
        obtain ⟨j, r, hj, rfl, rfl, hr1, HS, HK, hd⟩ := hrel
        obtain rfl := HS.out
        clear HS
        obtain ⟨wp, rfl⟩ : ∃ wp : World, wp = wr := ⟨_, rfl⟩
        have hoI := HO.out.below (hd.below _)
        by_cases hjn : j < n
        · obtain ⟨f, hf⟩ : ∃ f, n - j = f + 1 := ⟨n - j - 1, by omega⟩
          have hf2 : f = n - (j + 1) := by omega
          have hk2 := HK.out
          rw [hf, seek] at hk2
          cases hm : out.contains (j : Int)
          · rw [hm, if_neg (by simp)] at hk2
            by_cases hr0 : r = 0
            · rw [if_pos (by omega)] at hk2
              have e1 : ((r : Int) == 0) = true := by simp; omega
              clear hr0
              have Hk2 := Lib.hid hk2
              have Hm := Lib.hid hm
              clear hk2 hm hf hf2 HK
              go_wp2_with fail
              refine (is (l1Has_any _ _ _ out j _ hoI.rd Hol.out (by omega)) Hm.out).mono ?_
              rintro e w2 ⟨rfl, hd2⟩
              have ho2 := hoI.below (hd2.below _)
              have hB2 := (hB.trans (hd.below _)).trans (hd2.below _)
              go_wp2_with (first | (at_builtin; go_loud (refine wpList_pushI (by rfl) (by rfl) _ _ (by rfl) ho2 (by rfl) (by rfl) (by omega) (by have := hB2.size; omega) ?_)))
              intro a2 c2 w3 ho3 hg3
              have hB3 := hg3.below hB2 hB2.size (fun k hk => ho2.1.lo k hk)
              go_wp2
              go_roundw
              case rel => exact ⟨k + 1, by omega, by go_num, ⟨_, _, _, rfl, by omega, by rw [Hst.out, Hk2.out]; exact ho3⟩, hB3⟩
              case measure => simp [intOf]; omega
            · rw [if_neg (by omega)] at hk2
              have e1 : ((r : Int) == 0) = false := by simp; omega
              have hre : ((r : Int) - 1) = ((r - 1 : Nat) : Int) := by omega
              rw [hre] at hk2
              subst hf2
              have Hk2 := Lib.hid hk2
              have Hm := Lib.hid hm
              clear hk2 hm hf HK hre
              go_wp2_with fail
              refine (is (l1Has_any _ _ _ out j _ hoI.rd Hol.out (by omega)) Hm.out).mono ?_
              rintro e w2 ⟨rfl, hd2⟩
              go_wp2
              go_roundw
              case rel => exact ⟨j + 1, r - 1, by omega, by go_num, by go_num, by omega, rfl, Hk2, hd.trans hd2⟩
              case measure => simp [intOf]; omega
          · rw [hm, if_pos rfl] at hk2
            subst hf2
            have Hk2 := Lib.hid hk2
            have Hm := Lib.hid hm
            clear hk2 hm hf HK
            go_wp2_with fail
            refine (is (l1Has_any _ _ _ out j _ hoI.rd Hol.out (by omega)) Hm.out).mono ?_
            rintro e w2 ⟨rfl, hd2⟩
            go_wp2
            go_roundw
            case rel => exact ⟨j + 1, r, by omega, by go_num, rfl, hr1, rfl, Hk2, hd.trans hd2⟩
            case measure => simp [intOf]; omega
        · obtain rfl : j = n := by omega
          have hk2 := HK.out
          rw [Nat.sub_self, seek] at hk2
          have Hk2 := Lib.hid hk2
          clear hk2 HK
          go_wp2
          go_roundw
          case rel => exact ⟨k + 1, by omega, by go_num, ⟨_, _, _, rfl, by omega, by rw [Hst.out, Hk2.out]; exact hoI.mono (Nat.le_refl _) (hd.below wo.heap.size).size⟩, hB.trans (hd.below _)⟩
          case measure => simp [intOf]; omega
    · obtain rfl : k = n := by omega
      rw [List.take_of_length_le (by rw [Hn.out]; exact Nat.le_refl _)] at ho
      have hfin : decodeBy k cs = decode cs := by rw [decode, Hn.out]
      rw [hfin] at ho
      go_wp2
      go_ret
      exact ⟨_, _, _, rfl, ho, hB⟩
end Go.Proofs.YtomejjbkakpoiaaGreat

namespace Go.Proofs.YtomejjbkakpoiaaGreat
open Go.RowKit Go.Shelf Go.Sort

def renDel : Ren := ⟨fun _ => 96, fun k => if k = 22 then 24 else k, fun k => k⟩
theorem laysDel : Lays2.n23 Tryz.prog renDel where
  mixed := by kernel_rfl
  f23 := by kernel_rfl
  t0 := by kernel_rfl
  a0 := fun w => by kernel_rfl
  z0 := fun w => by kernel_rfl
  v0 := fun w => by kernel_rfl
  t3 := by kernel_rfl
  a3 := fun w => by kernel_rfl
  z3 := fun w => by kernel_rfl
  v3 := fun w => by kernel_rfl
  t4 := by kernel_rfl
  a4 := fun w => by kernel_rfl
  z4 := fun w => by kernel_rfl
  v4 := fun w => by kernel_rfl
  t22 := by kernel_rfl
  a22 := fun w => by kernel_rfl
  z22 := fun w => by kernel_rfl
  v22 := fun w => by kernel_rfl
  i3 := by kernel_rfl

theorem OwI.holds {w : World} {B S g n c : Nat} {xs : List Int} (h : OwI w B S (some ⟨g, 0, none⟩) n c xs) : Holds (Value.int .i64) w g 0 xs.toArray := by
  intro j hj
  have hl := h.len
  have hj' : j < n := by simpa [hl] using hj
  obtain ⟨g', e, _, ⟨x, hx, hc⟩, hf⟩ := OI.cons h.1 hj'
  obtain rfl : g = g' := by simpa using e
  rw [Nat.zero_add]
  refine ⟨?_, hf⟩
  rw [hc]
  obtain ⟨_, hx'⟩ := List.getElem?_eq_some_iff.1 hx
  simp [hx]
theorem OwI.row {w : World} {B S g n c : Nat} {xs : List Int} (h : OwI w B S (some ⟨g, 0, none⟩) n c xs) : B ≤ g ∧ g < S ∧ ∃ cur, w.heap[g]? = some (.cells cur 3) ∧ n ≤ c ∧ c ≤ maxLen ∧ cur.size = c * 1 := by
  have h1 := h.1.own
  have h2 := h.2 g rfl
  rcases h1.2 with ⟨e, _⟩ | ⟨g', cap, cur, hv, hb, hh, hn, hm, hs, _⟩
  · cases e
  · simp only [Value.slice.injEq, Option.some.injEq, Addr.mk.injEq, and_true, true_and] at hv
    obtain ⟨rfl, rfl⟩ := hv
    exact ⟨hb, h2, cur, hh, hn, hm, hs⟩
theorem OwI.putRow {w : World} {B S g n c : Nat} {xs : List Int} (h : OwI w B S (some ⟨g, 0, none⟩) n c xs) (ys : List Int) (hy : ys.length = n) (q : Nat) :
    OwI (putRow (Value.int .i64) (Go.Sort.ahead w q) g 0 ys.toArray) B S (some ⟨g, 0, none⟩) n c ys ∧ Only B S w (putRow (Value.int .i64) (Go.Sort.ahead w q) g 0 ys.toArray) := by
  obtain ⟨hB, hS, cur, hh, hn, hm, hs⟩ := h.row
  have hg : g < w.heap.size := (Array.getElem?_eq_some_iff.1 hh).1
  have hnew : (Go.Sort.putRow (Value.int .i64) (Go.Sort.ahead w q) g 0 ys.toArray).heap[g]? = some (.cells (putCells (Value.int .i64) 0 ys.toArray cur) 3) := by
    unfold Go.Sort.putRow mapBlock
    simp only [Go.Sort.ahead]
    rw [Array.getElem?_modify, if_pos rfl, hh]
    rfl
  constructor
  · refine ⟨OS.of ⟨by simp [ints, hy], .inr ⟨g, c, _, rfl, hB, hnew, hn, hm, by simp [putCells, hs], ?_⟩⟩, fun k hk => ?_⟩
    · apply List.ext_getElem?
      intro k
      simp only [putCells, Nat.mul_one, List.getElem?_take, Array.getElem?_toList, Array.getElem?_mapIdx, ints, List.getElem?_map]
      by_cases hk : k < n
      · rw [if_pos hk]
        have h1 : k < cur.size := by omega
        have h2 : k < ys.length := by omega
        simp [h1, hk, hy]
      · rw [if_neg hk, List.getElem?_eq_none (by omega)]
        rfl
    · simp [Value.ownBlock] at hk
      omega
  · refine ⟨rfl, rfl, rfl, by simp [Go.Sort.putRow, mapBlock, Go.Sort.ahead], fun k hk hn => ?_⟩
    unfold Go.Sort.putRow mapBlock
    simp only [Go.Sort.ahead]
    rw [Array.getElem?_modify, if_neg (by omega)]
theorem OwI.short {w : World} {B S : Nat} {a : Option Addr} {n c : Nat} {xs : List Int} (h : OwI w B S a n c xs) {m : Nat} (hm : m ≤ n) (h0 : 0 < n) : OwI w B S a m c (xs.take m) := by
  have h1 := h.1.own
  have hl := h.len
  rcases h1.2 with ⟨e, hn⟩ | ⟨g', cap, cur, hv, hb, hh, hn, hm2, hs, ht⟩
  · simp at e; omega
  · simp only [Value.slice.injEq] at hv
    obtain ⟨rfl, _, rfl⟩ := hv
    refine ⟨OS.of ⟨by simp [ints]; omega, .inr ⟨g', _, cur, rfl, hb, hh, by omega, hm2, hs, ?_⟩⟩, fun k hk => h.2 k (by simpa [Value.ownBlock] using hk)⟩
    have e : ints (xs.take m) = (ints xs).take m := by simp [ints]
    rw [e, ← ht, List.take_take, Nat.mul_one, Nat.mul_one, Nat.min_eq_left hm]

theorem delete_any {B S g n c i : Nat} {xs : List Int} (I J : Int) (w : World) (h : OwI w B S (some ⟨g, 0, none⟩) n c xs) (hi : i < n) (hI : I = (i : Int)) (hJ : J = ((i + 1 : Nat) : Int)) :
    Calls Tryz.prog 96 #[.slice (some ⟨g, 0, none⟩) n c, .int .i64 I, .int .i64 J] w fun e w' => e = .returned (.slice (some ⟨g, 0, none⟩) (n - 1) c) ∧ OwI w' B S (some ⟨g, 0, none⟩) (n - 1) c (xs.eraseIdx i) ∧ Only B S w w' := by
  subst hI hJ
  have hl := h.len
  obtain ⟨_, _, cur, _, hn, hm, _⟩ := h.row
  unfold maxLen at hm
  have hd := Any.slices_Delete_int laysDel g 0 c i (i + 1) xs w h.holds (by omega) hm (by omega) (by omega)
  rw [hl] at hd
  refine hd.mono ?_
  rintro e w' ⟨rfl, q, rfl⟩
  have e1 : i + 1 - i = 1 := by omega
  rw [e1]
  have hy : (xs.take i ++ xs.drop (i + 1) ++ List.replicate 1 (0 : Int)).length = n := by simp; omega
  obtain ⟨p1, p2⟩ := h.putRow _ hy q
  refine ⟨rfl, ?_, p2⟩
  have p3 := p1.short (m := n - 1) (by omega) (by omega)
  have e2 : (xs.take i ++ xs.drop (i + 1) ++ List.replicate 1 (0 : Int)).take (n - 1) = xs.eraseIdx i := by
    rw [List.eraseIdx_eq_take_drop_succ, List.take_append_of_le_length (by simp; omega), List.take_of_length_le (by simp; omega)]
  rw [e2] at p3
  exact p3
end Go.Proofs.YtomejjbkakpoiaaGreat

namespace Go.Proofs.YtomejjbkakpoiaaGreat
open Go.RowKit

def poc (n : Nat) (cs : List Int) : Nat → List Int × List Int
  | 0 => (ident n, [])
  | k + 1 => ((poc n cs k).1.eraseIdx (cs.getD k 0).toNat, (poc n cs k).2 ++ [(poc n cs k).1.getD (cs.getD k 0).toNat 0])
set_option maxRecDepth 100000 in
set_option maxHeartbeats 3200000 in
theorem permOfCode_any (a : Option Addr) (n c : Nat) (cs : List Int) (w : World) (hr : RI w a cs) (hn : cs.length = n) (h17 : 1 ≤ n ∧ n ≤ 7) (hcs : ∀ (k : Nat) (x : Int), cs[k]? = some x → 0 ≤ x ∧ x < (n : Int) - k) :
    Calls Tryz.prog 57 #[.slice a n c] w fun e w' => ∃ a' c', e = .returned (.slice a' n c') ∧ OwI w' w.heap.size w'.heap.size a' n c' (poc n cs n).2 ∧ Below w.heap.size w w' := by
  have Hn := Lib.hid hn; clear hn
  have HC := Lib.hid hcs; clear hcs
  have q22 : ∀ (w : World) (a : Option Addr) (n c n' c' : Nat), (binOp .eql 24 (.slice a n c) (.slice none n' c')).run Tryz.prog w = .ok (.bool a.isNone) w := fun w a n c n' c' => Lib.run_eql_slice_nil w _ _ a n c n' c' Tryz.underlying24
  go_enter Tryz.func57, Tryz.ntmps57
  go_wp2_with fail
  refine (implIdent_any n _ _ rfl h17).mono ?_
  rintro e w1 ⟨a1, c1, rfl, ho1, hB1⟩
  obtain ⟨g, rfl, _⟩ := OI.cons ho1.1 (j := 0) (by omega)
  have hz1 := hB1.size
  have hI0 : OwI (w1.alloc (.cells #[] 3)) w1.heap.size (w1.alloc (.cells #[] 3)).heap.size (some ⟨w1.heap.size, 0, none⟩) 0 0 [] := OwI.mk (World.ownsRow_made _ #[] 0 (Nat.le_refl _) (Nat.zero_le _) rfl)
  have hA : Below w1.heap.size w1 (w1.alloc (.cells #[] 3)) := (Below.refl _ _).alloc (Nat.le_refl _) _
  have ho2 := ho1.below hA
  have hB2 := hB1.trans (hA.mono hz1)
  have hAz := hA.size
  have HI := Lib.hid hI0
  have HO := Lib.hid ho2
  clear hI0 ho2 ho1 hA hB1
  go_wp2
  clear q22
  go_loopw [3, 4, 15] (fun rv ov iv wr => Hid (∃ k : Nat, k ≤ n ∧ iv = .int .i64 k ∧ rv = .slice (some ⟨g, 0, none⟩) (n - k) c1 ∧ ∃ a' c', ov = .slice a' k c' ∧ OwI wr w.heap.size w1.heap.size (some ⟨g, 0, none⟩) (n - k) c1 (poc n cs k).1 ∧ OwI wr w1.heap.size wr.heap.size a' k c' (poc n cs k).2) ∧ Below w.heap.size w wr ∧ w1.heap.size ≤ wr.heap.size) (fun _ _ i _ => n - (intOf i).toNat)
  case atStart => exact ⟨⟨0, Nat.zero_le _, rfl, rfl, _, _, rfl, HO.out, HI.out⟩, hB2, hAz⟩
  case round =>
    clear HI HO hB2 hAz
    obtain ⟨HV, hB, hz⟩ := hrel
    obtain ⟨wo, rfl⟩ : ∃ wo : World, wo = wr := ⟨_, rfl⟩
    obtain ⟨k, hk, rfl, rfl, a', c', rfl, hrest, hout⟩ := HV.out
    clear HV
    have hbs := hB.size
    by_cases hlt : k < n
    · obtain ⟨b, off, rfl, hcell⟩ := (hr.below hB).at (k := k) (by rw [Hn.out]; exact hlt)
      obtain ⟨x0, hx⟩ := some_at (k := k) Hn.out hlt
      have hcx := hcell k x0 hx
      obtain ⟨hx0, hx1⟩ := HC.out k x0 hx
      obtain ⟨x, rfl⟩ : ∃ x : Nat, x0 = x := ⟨x0.toNat, by omega⟩
      have hxn : x < n - k := by omega
      obtain ⟨g', e0, _, ⟨y, hy, hcy⟩, _⟩ := OI.cons hrest.1 hxn
      obtain rfl : g = g' := by simpa using e0
      have hs1 : (poc n cs (k + 1)).1 = (poc n cs k).1.eraseIdx x := by rw [poc, getD_of hx]; rfl
      have hs2 : (poc n cs (k + 1)).2 = (poc n cs k).2 ++ [y] := by rw [poc, getD_of hx]; show _ ++ [(poc n cs k).1.getD x 0] = _; rw [getD_of hy]
      have Hs1 := Lib.hid hs1
      have Hs2 := Lib.hid hs2
      obtain ⟨d, hd⟩ : ∃ d, n - k = d := ⟨_, rfl⟩
      rw [hd] at hrest hxn
      have hd1 : d - 1 = n - (k + 1) := by omega
      have Hd1 := Lib.hid hd1
      have hxI : (x : Int) < (d : Int) := by omega
      have hdn : d ≤ 7 := by omega
      have q1 : (k : Int) < (n : Int) := by omega
      rw [hd]
      clear hcell hx hy e0 hs1 hs2 hd1 hd
      go_wp2_with (first | (at_builtin; go_loud (refine wpList_pushI (by rfl) (by rfl) _ _ (by rfl) hout (by rfl) (by rfl) (by omega) (by omega) ?_)))
      intro a2 c2 w2 ho2 hg2
      have hO2 := hg2.only (B := w1.heap.size) (S := wo.heap.size) (fun k hk => hout.1.lo k hk) (fun k hk => hout.2 k hk)
      have hrest2 := hrest.only hO2 (.inl (Nat.le_refl _))
      have hB2 := hO2.below hB (by omega) (by omega)
      have hz2 := hO2.size
      rw [← Hs2.out] at ho2
      clear hrest hout hcy hcx
      go_wp2_with fail
      refine (delete_any _ _ _ hrest2 hxn rfl (by omega)).mono ?_
      rintro e w3 ⟨rfl, hrest3, hO3⟩
      rw [← Hs1.out, Hd1.out] at hrest3
      have ho3 := ho2.only hO3 (.inr (Nat.le_refl _))
      have hB3 := hO3.below hB2 (Nat.le_refl _) hB2.size
      have hz3 := hO3.size
      have ho4 := ho3.mono (B' := w1.heap.size) (S' := w3.heap.size) (Nat.le_refl _) hz3
      have HR := Lib.hid hrest3
      have HO := Lib.hid ho4
      have HE : Hid (Value.slice (some ⟨g, 0, none⟩) (d - 1) c1 = Value.slice (some ⟨g, 0, none⟩) (n - (k + 1)) c1) := by rw [Hd1.out]; rfl
      clear hrest2 hrest3 ho2 ho3 ho4
      go_wp2
      go_roundw
      case rel => exact ⟨⟨k + 1, by omega, by go_num, HE.out, _, _, rfl, HR.out, HO.out⟩, hB3, by omega⟩
      case measure => simp [intOf]; omega
    · obtain rfl : k = n := by omega
      have HO := Lib.hid (hout.mono (B' := w.heap.size) (S' := wo.heap.size) hz1 (Nat.le_refl _))
      clear hout hrest
      go_wp2
      go_ret
      exact ⟨_, _, rfl, HO.out, hB⟩
end Go.Proofs.YtomejjbkakpoiaaGreat

namespace Go.Proofs.YtomejjbkakpoiaaGreat
open Go.RowKit

/-- how many places are left of the first n -/
def trimLen (xs : List Int) : Nat → Nat
  | 0 => 0
  | 1 => 1
  | n + 2 => if xs.getD (n + 1) 0 = ((n + 1 : Nat) : Int) then trimLen xs (n + 1) else n + 2
def trim (xs : List Int) : List Int := xs.take (trimLen xs xs.length)
theorem trimLen_small (xs : List Int) {m : Nat} (h : m ≤ 1) : trimLen xs m = m := by
  rcases m with _ | _ | m
  · rfl
  · rfl
  · omega
theorem trimLen_go {xs : List Int} {m : Nat} {y : Int} (h : 1 < m) (hy : xs[m - 1]? = some y) (he : y = (m : Int) - 1) : trimLen xs m = trimLen xs (m - 1) := by
  obtain ⟨k, rfl⟩ : ∃ k, m = k + 2 := ⟨m - 2, by omega⟩
  have e : k + 2 - 1 = k + 1 := by omega
  rw [e] at hy ⊢
  rw [trimLen, if_pos (by rw [getD_of hy, he]; omega)]
theorem trimLen_stop {xs : List Int} {m : Nat} {y : Int} (h : 1 < m) (hy : xs[m - 1]? = some y) (he : y ≠ (m : Int) - 1) : trimLen xs m = m := by
  obtain ⟨k, rfl⟩ : ∃ k, m = k + 2 := ⟨m - 2, by omega⟩
  have e : k + 2 - 1 = k + 1 := by omega
  rw [e] at hy
  rw [trimLen, if_neg (by rw [getD_of hy]; intro h1; omega)]
theorem trimLen_le (xs : List Int) (m : Nat) : trimLen xs m ≤ m := by
  induction m with
  | zero => exact Nat.le_refl _
  | succ m ih =>
    rcases m with _ | m
    · exact Nat.le_refl _
    · rw [trimLen]; split <;> omega
theorem RI.take {w : World} {a : Option Addr} {xs : List Int} (h : RI w a xs) (m : Nat) : RI w a (xs.take m) := by
  rcases h with rfl | ⟨b, off, ha, hc⟩
  · left; simp
  · refine .inr ⟨b, off, ha, fun k x hx => hc k x ?_⟩
    rw [List.getElem?_take] at hx; split at hx
    · exact hx
    · cases hx

set_option maxRecDepth 100000 in
set_option maxHeartbeats 800000 in
theorem l1Trim_any (a : Option Addr) (n c : Nat) (xs : List Int) (w : World) (hr : RI w a xs) (hn : xs.length = n) (hb : n ≤ 1048576) (hnc : n ≤ c) :
    Calls Tryz.prog 51 #[.slice a n c] w fun e w' => ∃ a' c', e = .returned (.slice a' (trimLen xs n) c') ∧ OwI w' w.heap.size w'.heap.size a' (trimLen xs n) c' (xs.take (trimLen xs n)) ∧ Below w.heap.size w w' := by
  have Hn := Lib.hid hn; clear hn
  obtain ⟨r, hr0⟩ : ∃ r, trimLen xs n = r := ⟨_, rfl⟩
  have hrn : r ≤ n := by rw [← hr0]; exact trimLen_le xs n
  rw [hr0]
  have HR := Lib.hid hr0; clear hr0
  go_enter Tryz.func51, Tryz.ntmps51
  go_wp2
  go_loop [3] (fun i => ∃ k : Nat, k ≤ n ∧ i = .int .i64 k ∧ Hid (trimLen xs k = r)) (fun i => (intOf i).toNat)
  case atStart => exact ⟨n, Nat.le_refl _, rfl, HR⟩
  case round =>
    obtain ⟨k, hk, rfl, HK⟩ := hrel
    by_cases h1 : 1 < k
    · obtain ⟨b, off, rfl, hcell⟩ := hr.at (k := k - 1) (by rw [Hn.out]; omega)
      obtain ⟨y, hy⟩ := some_at (k := k - 1) Hn.out (by omega)
      have hc := hcell (k - 1) y hy
      have Hy := Lib.hid hy; clear hy hcell
      have q1 : (0 : Int) ≤ (k : Int) - 1 := by omega
      have q2 : (k : Int) - 1 < (n : Int) := by omega
      by_cases he : y = (k : Int) - 1
      · have Hk := Lib.hid ((trimLen_go h1 Hy.out he).symm.trans HK.out)
        have e1 : (y == (k : Int) - 1) = true := by simp [he]
        have He := Lib.hid he; clear he
        have q3 : IntKind.i64.wrap ((k : Int) - 1) = (k : Int) - 1 := IntWalk.i64_in _ (by omega)
        have q4 : ((k : Int) - 1).toNat = k - 1 := by omega
        go_wp2
        go_round
        case rel =>
          clear q3 q4
          exact ⟨k - 1, by omega, by go_num, Hk⟩
        case measure => clear q3 q4; simp [intOf]; omega
      · have Hk := Lib.hid ((trimLen_stop h1 Hy.out he).symm.trans HK.out)
        have e1 : (y == (k : Int) - 1) = false := by simp [he]
        obtain rfl : k = r := Hk.out
        have hrt := hr.take k
        have hlt : (xs.take k).length = k := by rw [List.length_take, Hn.out]; omega
        have Hlt := Lib.hid hlt; clear hlt
        have q5 : (k : Int) ≤ (c : Int) := by omega
        have q3 : IntKind.i64.wrap ((k : Int) - 1) = (k : Int) - 1 := IntWalk.i64_in _ (by omega)
        have q4 : ((k : Int) - 1).toNat = k - 1 := by omega
        have hc0 : ¬ c = 0 := by omega
        go_wp2_with fail
        clear q3 q4
        refine (l1Ints_any _ _ _ (xs.take k) _ hrt Hlt.out (by omega)).mono ?_
        rintro e w1 ⟨a1, c1, rfl, ho, hB⟩
        go_wp2
        go_ret
        exact ⟨_, _, rfl, ho, hB⟩
    · have Hk := Lib.hid ((trimLen_small xs (m := k) (by omega)).symm.trans HK.out)
      obtain rfl : k = r := Hk.out
      have hrt := hr.take k
      have hlt : (xs.take k).length = k := by rw [List.length_take, Hn.out]; omega
      have Hlt := Lib.hid hlt; clear hlt
      have q5 : (k : Int) ≤ (c : Int) := by omega
      by_cases hc0 : c = 0
      · go_wp2_with fail
        refine (l1Ints_any _ _ _ (xs.take k) _ hrt Hlt.out (by omega)).mono ?_
        rintro e w1 ⟨a1, c1, rfl, ho, hB⟩
        go_wp2
        go_ret
        exact ⟨_, _, rfl, ho, hB⟩
      · go_wp2_with fail
        refine (l1Ints_any _ _ _ (xs.take k) _ hrt Hlt.out (by omega)).mono ?_
        rintro e w1 ⟨a1, c1, rfl, ho, hB⟩
        go_wp2
        go_ret
        exact ⟨_, _, rfl, ho, hB⟩
set_option maxRecDepth 100000 in
set_option maxHeartbeats 800000 in
theorem implTrim_any (a : Option Addr) (n c : Nat) (xs : List Int) (w : World) (hr : RI w a xs) (hn : xs.length = n) (hb : n ≤ 1048576) (hnc : n ≤ c) (hp : isPerm xs = true) :
    Calls Tryz.prog 56 #[.slice a n c] w fun e w' => ∃ a' c', e = .returned (.slice a' (trimLen xs n) c') ∧ OwI w' w.heap.size w'.heap.size a' (trimLen xs n) c' (xs.take (trimLen xs n)) ∧ Below w.heap.size w w' := by
  have Hn := Lib.hid hn; clear hn
  obtain ⟨r, hr0⟩ : ∃ r, trimLen xs n = r := ⟨_, rfl⟩
  have hrn : r ≤ n := by rw [← hr0]; exact trimLen_le xs n
  rw [hr0]
  have HR := Lib.hid hr0; clear hr0
  have HP := Lib.hid hp; clear hp
  go_enter Tryz.func56, Tryz.ntmps56
  go_wp2_with fail
  refine (is (implIsPerm_any _ _ _ xs _ hr Hn.out (by omega)) HP.out).mono ?_
  rintro e w0 ⟨rfl, hb0⟩
  have hr := hr.below hb0
  go_wp2
  go_loop [3] (fun i => ∃ k : Nat, k ≤ n ∧ i = .int .i64 k ∧ Hid (trimLen xs k = r)) (fun i => (intOf i).toNat)
  case atStart => exact ⟨n, Nat.le_refl _, rfl, HR⟩
  case round =>
    obtain ⟨k, hk, rfl, HK⟩ := hrel
    by_cases h1 : 1 < k
    · obtain ⟨b, off, rfl, hcell⟩ := hr.at (k := k - 1) (by rw [Hn.out]; omega)
      obtain ⟨y, hy⟩ := some_at (k := k - 1) Hn.out (by omega)
      have hc := hcell (k - 1) y hy
      have Hy := Lib.hid hy; clear hy hcell
      have q1 : (0 : Int) ≤ (k : Int) - 1 := by omega
      have q2 : (k : Int) - 1 < (n : Int) := by omega
      by_cases he : y = (k : Int) - 1
      · have Hk := Lib.hid ((trimLen_go h1 Hy.out he).symm.trans HK.out)
        have e1 : (y == (k : Int) - 1) = true := by simp [he]
        have He := Lib.hid he; clear he
        have q3 : IntKind.i64.wrap ((k : Int) - 1) = (k : Int) - 1 := IntWalk.i64_in _ (by omega)
        have q4 : ((k : Int) - 1).toNat = k - 1 := by omega
        go_wp2
        go_round
        case rel =>
          clear q3 q4
          exact ⟨k - 1, by omega, by go_num, Hk⟩
        case measure => clear q3 q4; simp [intOf]; omega
      · have Hk := Lib.hid ((trimLen_stop h1 Hy.out he).symm.trans HK.out)
        have e1 : (y == (k : Int) - 1) = false := by simp [he]
        obtain rfl : k = r := Hk.out
        have hrt := hr.take k
        have hlt : (xs.take k).length = k := by rw [List.length_take, Hn.out]; omega
        have Hlt := Lib.hid hlt; clear hlt
        have q5 : (k : Int) ≤ (c : Int) := by omega
        have q3 : IntKind.i64.wrap ((k : Int) - 1) = (k : Int) - 1 := IntWalk.i64_in _ (by omega)
        have q4 : ((k : Int) - 1).toNat = k - 1 := by omega
        have hc0 : ¬ c = 0 := by omega
        go_wp2_with fail
        clear q3 q4
        refine (cloneI_any _ _ _ (xs.take k) _ hrt Hlt.out (by omega)).mono ?_
        rintro e w1 ⟨a1, c1, rfl, ho, hB⟩
        go_wp2
        go_ret
        exact ⟨_, _, rfl, ho.mono hb0.size (Nat.le_refl _), hb0.trans (hB.mono hb0.size)⟩
    · have Hk := Lib.hid ((trimLen_small xs (m := k) (by omega)).symm.trans HK.out)
      obtain rfl : k = r := Hk.out
      have hrt := hr.take k
      have hlt : (xs.take k).length = k := by rw [List.length_take, Hn.out]; omega
      have Hlt := Lib.hid hlt; clear hlt
      have q5 : (k : Int) ≤ (c : Int) := by omega
      by_cases hc0 : c = 0
      · go_wp2_with fail
        refine (cloneI_any _ _ _ (xs.take k) _ hrt Hlt.out (by omega)).mono ?_
        rintro e w1 ⟨a1, c1, rfl, ho, hB⟩
        go_wp2
        go_ret
        exact ⟨_, _, rfl, ho.mono hb0.size (Nat.le_refl _), hb0.trans (hB.mono hb0.size)⟩
      · go_wp2_with fail
        refine (cloneI_any _ _ _ (xs.take k) _ hrt Hlt.out (by omega)).mono ?_
        rintro e w1 ⟨a1, c1, rfl, ho, hB⟩
        go_wp2
        go_ret
        exact ⟨_, _, rfl, ho.mono hb0.size (Nat.le_refl _), hb0.trans (hB.mono hb0.size)⟩
end Go.Proofs.YtomejjbkakpoiaaGreat
