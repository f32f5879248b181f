/-
  Contracts of l1Trim and TrimPerm: places at the end that are not moved, left away.
  Schubert polynomials out of the staircase. Plain.
  Schubert polynomials that the kernel can reckon. Plain.
  Contract of l1Decode: the permutation of a code.
-/
import Derived.Test.YtomejjbkakpoiaaGreatBuY9
import Derived.Test.YtomejjbkakpoiaaGreatPerm
import Derived.Test.YtomejjbkakpoiaaGreatBuY29
import Derived.Test.YtomejjbkakpoiaaGreatBuY30
import Derived.Test.YtomejjbkakpoiaaGreatBuY1
import Derived.Test.YtomejjbkakpoiaaGreatBuY18
namespace Go.Proofs.YtomejjbkakpoiaaGreat
open Go.RowKit

/-- how many places are left of the first n -/
def trimLen (xs : List Int) : Nat → Nat
  | 0 => 0
  | 1 => 1
  | n + 2 => if xs.getD (n + 1) 0 = ((n + 1 : Nat) : Int) then trimLen xs (n + 1) else n + 2
def trim (xs : List Int) : List Int := xs.take (trimLen xs xs.length)
theorem trimLen_small (xs : List Int) {m : Nat} (h : m ≤ 1) : trimLen xs m = m := by
  rcases m with _ | _ | m
  · rfl
  · rfl
  · omega
theorem trimLen_go {xs : List Int} {m : Nat} {y : Int} (h : 1 < m) (hy : xs[m - 1]? = some y) (he : y = (m : Int) - 1) : trimLen xs m = trimLen xs (m - 1) := by
  obtain ⟨k, rfl⟩ : ∃ k, m = k + 2 := ⟨m - 2, by omega⟩
  have e : k + 2 - 1 = k + 1 := by omega
  rw [e] at hy ⊢
  rw [trimLen, if_pos (by rw [getD_of hy, he]; omega)]
theorem trimLen_stop {xs : List Int} {m : Nat} {y : Int} (h : 1 < m) (hy : xs[m - 1]? = some y) (he : y ≠ (m : Int) - 1) : trimLen xs m = m := by
  obtain ⟨k, rfl⟩ : ∃ k, m = k + 2 := ⟨m - 2, by omega⟩
  have e : k + 2 - 1 = k + 1 := by omega
  rw [e] at hy
  rw [trimLen, if_neg (by rw [getD_of hy]; intro h1; omega)]
theorem trimLen_le (xs : List Int) (m : Nat) : trimLen xs m ≤ m := by
  induction m with
  | zero => exact Nat.le_refl _
  | succ m ih =>
    rcases m with _ | m
    · exact Nat.le_refl _
    · rw [trimLen]; split <;> omega
theorem RI.take {w : World} {a : Option Addr} {xs : List Int} (h : RI w a xs) (m : Nat) : RI w a (xs.take m) := by
  rcases h with rfl | ⟨b, off, ha, hc⟩
  · left; simp
  · refine .inr ⟨b, off, ha, fun k x hx => hc k x ?_⟩
    rw [List.getElem?_take] at hx; split at hx
    · exact hx
    · cases hx

set_option maxRecDepth 100000 in
set_option maxHeartbeats 800000 in
theorem l1Trim_any (a : Option Addr) (n c : Nat) (xs : List Int) (w : World) (hr : RI w a xs) (hn : xs.length = n) (hb : n ≤ 1048576) (hnc : n ≤ c) :
    Calls Tryz.prog 51 #[.slice a n c] w fun e w' => ∃ a' c', e = .returned (.slice a' (trimLen xs n) c') ∧ OwI w' w.heap.size w'.heap.size a' (trimLen xs n) c' (xs.take (trimLen xs n)) ∧ Below w.heap.size w w' := by
  have Hn := Lib.hid hn; clear hn
  obtain ⟨r, hr0⟩ : ∃ r, trimLen xs n = r := ⟨_, rfl⟩
  have hrn : r ≤ n := by rw [← hr0]; exact trimLen_le xs n
  rw [hr0]
  have HR := Lib.hid hr0; clear hr0
  go_enter Tryz.func51, Tryz.ntmps51
  go_wp2
  go_loop [3] (fun i => ∃ k : Nat, k ≤ n ∧ i = .int .i64 k ∧ Hid (trimLen xs k = r)) (fun i => (intOf i).toNat)
  case atStart => exact ⟨n, Nat.le_refl _, rfl, HR⟩
  case round =>
    obtain ⟨k, hk, rfl, HK⟩ := hrel
    by_cases h1 : 1 < k
    · obtain ⟨b, off, rfl, hcell⟩ := hr.at (k := k - 1) (by rw [Hn.out]; omega)
      obtain ⟨y, hy⟩ := some_at (k := k - 1) Hn.out (by omega)
      have hc := hcell (k - 1) y hy
      have Hy := Lib.hid hy; clear hy hcell
      have q1 : (0 : Int) ≤ (k : Int) - 1 := by omega
      have q2 : (k : Int) - 1 < (n : Int) := by omega
      by_cases he : y = (k : Int) - 1
      · have Hk := Lib.hid ((trimLen_go h1 Hy.out he).symm.trans HK.out)
        have e1 : (y == (k : Int) - 1) = true := by simp [he]
        have He := Lib.hid he; clear he
        have q3 : IntKind.i64.wrap ((k : Int) - 1) = (k : Int) - 1 := IntWalk.i64_in _ (by omega)
        have q4 : ((k : Int) - 1).toNat = k - 1 := by omega
        go_wp2
        go_round
        case rel =>
          clear q3 q4
          exact ⟨k - 1, by omega, by go_num, Hk⟩
        case measure => clear q3 q4; simp [intOf]; omega
      · have Hk := Lib.hid ((trimLen_stop h1 Hy.out he).symm.trans HK.out)
        have e1 : (y == (k : Int) - 1) = false := by simp [he]
        obtain rfl : k = r := Hk.out
        have hrt := hr.take k
        have hlt : (xs.take k).length = k := by rw [List.length_take, Hn.out]; omega
        have Hlt := Lib.hid hlt; clear hlt
        have q5 : (k : Int) ≤ (c : Int) := by omega
        have q3 : IntKind.i64.wrap ((k : Int) - 1) = (k : Int) - 1 := IntWalk.i64_in _ (by omega)
        have q4 : ((k : Int) - 1).toNat = k - 1 := by omega
        have hc0 : ¬ c = 0 := by omega
        go_wp2_with fail
        clear q3 q4
        refine (l1Ints_any _ _ _ (xs.take k) _ hrt Hlt.out (by omega)).mono ?_
        rintro e w1 ⟨a1, c1, rfl, ho, hB⟩
        go_wp2
        go_ret
        exact ⟨_, _, rfl, ho, hB⟩
    · have Hk := Lib.hid ((trimLen_small xs (m := k) (by omega)).symm.trans HK.out)
      obtain rfl : k = r := Hk.out
      have hrt := hr.take k
      have hlt : (xs.take k).length = k := by rw [List.length_take, Hn.out]; omega
      have Hlt := Lib.hid hlt; clear hlt
      have q5 : (k : Int) ≤ (c : Int) := by omega
      by_cases hc0 : c = 0
      · go_wp2_with fail
        refine (l1Ints_any _ _ _ (xs.take k) _ hrt Hlt.out (by omega)).mono ?_
        rintro e w1 ⟨a1, c1, rfl, ho, hB⟩
        go_wp2
        go_ret
        exact ⟨_, _, rfl, ho, hB⟩
      · go_wp2_with fail
        refine (l1Ints_any _ _ _ (xs.take k) _ hrt Hlt.out (by omega)).mono ?_
        rintro e w1 ⟨a1, c1, rfl, ho, hB⟩
        go_wp2
        go_ret
        exact ⟨_, _, rfl, ho, hB⟩
set_option maxRecDepth 100000 in
set_option maxHeartbeats 800000 in
theorem implTrim_any (a : Option Addr) (n c : Nat) (xs : List Int) (w : World) (hr : RI w a xs) (hn : xs.length = n) (hb : n ≤ 1048576) (hnc : n ≤ c) (hp : isPerm xs = true) :
    Calls Tryz.prog 56 #[.slice a n c] w fun e w' => ∃ a' c', e = .returned (.slice a' (trimLen xs n) c') ∧ OwI w' w.heap.size w'.heap.size a' (trimLen xs n) c' (xs.take (trimLen xs n)) ∧ Below w.heap.size w w' := by
  have Hn := Lib.hid hn; clear hn
  obtain ⟨r, hr0⟩ : ∃ r, trimLen xs n = r := ⟨_, rfl⟩
  have hrn : r ≤ n := by rw [← hr0]; exact trimLen_le xs n
  rw [hr0]
  have HR := Lib.hid hr0; clear hr0
  have HP := Lib.hid hp; clear hp
  go_enter Tryz.func56, Tryz.ntmps56
  go_wp2_with fail
  refine (is (implIsPerm_any _ _ _ xs _ hr Hn.out (by omega)) HP.out).mono ?_
  rintro e w0 ⟨rfl, hb0⟩
  have hr := hr.below hb0
  go_wp2
  go_loop [3] (fun i => ∃ k : Nat, k ≤ n ∧ i = .int .i64 k ∧ Hid (trimLen xs k = r)) (fun i => (intOf i).toNat)
  case atStart => exact ⟨n, Nat.le_refl _, rfl, HR⟩
  case round =>
    obtain ⟨k, hk, rfl, HK⟩ := hrel
    by_cases h1 : 1 < k
    · obtain ⟨b, off, rfl, hcell⟩ := hr.at (k := k - 1) (by rw [Hn.out]; omega)
      obtain ⟨y, hy⟩ := some_at (k := k - 1) Hn.out (by omega)
      have hc := hcell (k - 1) y hy
      have Hy := Lib.hid hy; clear hy hcell
      have q1 : (0 : Int) ≤ (k : Int) - 1 := by omega
      have q2 : (k : Int) - 1 < (n : Int) := by omega
      by_cases he : y = (k : Int) - 1
      · have Hk := Lib.hid ((trimLen_go h1 Hy.out he).symm.trans HK.out)
        have e1 : (y == (k : Int) - 1) = true := by simp [he]
        have He := Lib.hid he; clear he
        have q3 : IntKind.i64.wrap ((k : Int) - 1) = (k : Int) - 1 := IntWalk.i64_in _ (by omega)
        have q4 : ((k : Int) - 1).toNat = k - 1 := by omega
        go_wp2
        go_round
        case rel =>
          clear q3 q4
          exact ⟨k - 1, by omega, by go_num, Hk⟩
        case measure => clear q3 q4; simp [intOf]; omega
      · have Hk := Lib.hid ((trimLen_stop h1 Hy.out he).symm.trans HK.out)
        have e1 : (y == (k : Int) - 1) = false := by simp [he]
        obtain rfl : k = r := Hk.out
        have hrt := hr.take k
        have hlt : (xs.take k).length = k := by rw [List.length_take, Hn.out]; omega
        have Hlt := Lib.hid hlt; clear hlt
        have q5 : (k : Int) ≤ (c : Int) := by omega
        have q3 : IntKind.i64.wrap ((k : Int) - 1) = (k : Int) - 1 := IntWalk.i64_in _ (by omega)
        have q4 : ((k : Int) - 1).toNat = k - 1 := by omega
        have hc0 : ¬ c = 0 := by omega
        go_wp2_with fail
        clear q3 q4
        refine (cloneI_any _ _ _ (xs.take k) _ hrt Hlt.out (by omega)).mono ?_
        rintro e w1 ⟨a1, c1, rfl, ho, hB⟩
        go_wp2
        go_ret
        exact ⟨_, _, rfl, ho.mono hb0.size (Nat.le_refl _), hb0.trans (hB.mono hb0.size)⟩
    · have Hk := Lib.hid ((trimLen_small xs (m := k) (by omega)).symm.trans HK.out)
      obtain rfl : k = r := Hk.out
      have hrt := hr.take k
      have hlt : (xs.take k).length = k := by rw [List.length_take, Hn.out]; omega
      have Hlt := Lib.hid hlt; clear hlt
      have q5 : (k : Int) ≤ (c : Int) := by omega
      by_cases hc0 : c = 0
      · go_wp2_with fail
        refine (cloneI_any _ _ _ (xs.take k) _ hrt Hlt.out (by omega)).mono ?_
        rintro e w1 ⟨a1, c1, rfl, ho, hB⟩
        go_wp2
        go_ret
        exact ⟨_, _, rfl, ho.mono hb0.size (Nat.le_refl _), hb0.trans (hB.mono hb0.size)⟩
      · go_wp2_with fail
        refine (cloneI_any _ _ _ (xs.take k) _ hrt Hlt.out (by omega)).mono ?_
        rintro e w1 ⟨a1, c1, rfl, ho, hB⟩
        go_wp2
        go_ret
        exact ⟨_, _, rfl, ho.mono hb0.size (Nat.le_refl _), hb0.trans (hB.mono hb0.size)⟩
end Go.Proofs.YtomejjbkakpoiaaGreat

namespace Go.Proofs.YtomejjbkakpoiaaGreat
open Go.RowKit

theorem nin_le (l : List Int) : nin l ≤ l.length * l.length := by
  induction l with
  | nil => exact Nat.le_refl _
  | cons a r ih =>
    rw [nin, List.length_cons, Nat.succ_mul, Nat.mul_succ]
    have := List.length_filter_le (fun x => decide (a < x)) r
    omega
theorem upf_le : ∀ (f : Nat) (w : List Int), (upf f w).length ≤ f := by
  intro f
  induction f with
  | zero => intro w; exact Nat.le_refl _
  | succ f ih =>
    intro w
    rw [upf]
    split
    · exact Nat.zero_le _
    · rw [List.length_cons]; exact Nat.succ_le_succ (ih _)
theorem nin_small {v : List Int} (h : v.length ≤ 7) : nin v ≤ 49 := Nat.le_trans (nin_le v) (Nat.mul_le_mul h h)
def schM (v : List Int) (m : Nat) : Mons := (ups v).foldr dividedM [(partK m m, 1)]
end Go.Proofs.YtomejjbkakpoiaaGreat

namespace Go.Proofs.YtomejjbkakpoiaaGreat
open Go.RowKit

/-- Schubert polynomials, gathered at each step -/
def schG (v : List Int) (m : Nat) : Mons := (ups v).foldr (fun i F => gath (dividedM i F)) [(partK m m, 1)]
theorem schG_fold (l : List Nat) (F : Mons) : Same (l.foldr (fun i F => gath (dividedM i F)) F) (l.foldr dividedM F) := by
  induction l with
  | nil => exact Same.refl _
  | cons i l ih => exact (gath_same _).trans ih.divided
theorem schG_same (v : List Int) (m : Nat) : Same (schG v m) (schM v m) := schG_fold _ _
/-- the Schubert polynomial of a permutation; a form that the kernel can reckon -/
def SM (u : List Int) : Mons := schM (trim u) (trimLen u u.length)
def SMg (u : List Int) : Mons := schG (trim u) (trimLen u u.length)
theorem SMg_same (u : List Int) : Same (SMg u) (SM u) := schG_same _ _
theorem SM_b7 {u : List Int} (h : u.length ≤ 7) : B7 (SM u) := by
  unfold SM
  have hm : trimLen u u.length ≤ u.length := trimLen_le u u.length
  have hl : (trim u).length = trimLen u u.length := by unfold trim; rw [List.length_take]; omega
  exact (B7.stair (show trimLen u u.length ≤ 7 by omega)).low _ fun k hk => by have := ups_lt (trim u) k hk; omega
theorem B7.bd6 {F : Mons} (h : B7 F) : Bd 6 F := fun p hp => ⟨(h p hp).1, fun j hj => by have := (h p hp).2 j hj; omega⟩
theorem SM_bd {u : List Int} (h : u.length ≤ 7) : Bd 6 (SM u) := (SM_b7 h).bd6
theorem SM_okp {u : List Int} (h : u.length ≤ 7) (h1 : (SMg u).length ≤ 600) (h2 : nrm (SMg u) ≤ 1000000) : OKp (SM u) :=
  (GoodM.of_list (SMg_same u).symm ((SM_bd h).mono (by decide)) h1 h2).okp (Nat.le_refl _) (Nat.le_refl _)
end Go.Proofs.YtomejjbkakpoiaaGreat

namespace Go.Proofs.YtomejjbkakpoiaaGreat
open Go.RowKit

/-- from v on, the number that is not there yet and has left others of that kind before it, put behind -/
def seek (out : List Int) : Nat → Nat → Int → List Int
  | 0, _, _ => out
  | f + 1, v, left => if out.contains (v : Int) then seek out f (v + 1) left else if left = 0 then out ++ [(v : Int)] else seek out f (v + 1) (left - 1)
def decodeBy (n : Nat) (cs : List Int) : List Int := cs.foldl (fun out x => seek out n 0 x) []
def decode (cs : List Int) : List Int := decodeBy cs.length cs
theorem seek_length (out : List Int) (f : Nat) : ∀ (v : Nat) (left : Int), (seek out f v left).length ≤ out.length + 1 := by
  induction f with
  | zero => intro v left; simp [seek]
  | succ f ih =>
    intro v left
    rw [seek]
    split
    · exact ih _ _
    · split
      · simp
      · exact ih _ _
theorem decodeBy_snoc (n : Nat) (cs : List Int) (x : Int) : decodeBy n (cs ++ [x]) = seek (decodeBy n cs) n 0 x := by simp [decodeBy]
theorem foldl_length (n : Nat) (cs : List Int) : ∀ out : List Int, (cs.foldl (fun out x => seek out n 0 x) out).length ≤ out.length + cs.length := by
  induction cs with
  | nil => intro out; exact Nat.le_refl _
  | cons x cs ih =>
    intro out
    rw [List.foldl_cons, List.length_cons]
    have := ih (seek out n 0 x)
    have := seek_length out n 0 x
    omega
theorem decodeBy_length (n : Nat) (cs : List Int) : (decodeBy n cs).length ≤ cs.length := by
  have := foldl_length n cs []
  simpa [decodeBy] using this

set_option maxRecDepth 100000 in
set_option maxHeartbeats 3200000 in
theorem l1Decode_any (a : Option Addr) (n c : Nat) (cs : List Int) (w : World) (hr : RI w a cs) (hn : cs.length = n) (hb : n ≤ 1000) (hcs : ∀ x ∈ cs, 0 ≤ x ∧ x ≤ 1000) :
    Calls Tryz.prog 65 #[.slice a n c] w fun e w' => ∃ a' n' c', e = .returned (.slice a' n' c') ∧ OwI w' w.heap.size w'.heap.size a' n' c' (decode cs) ∧ Below w.heap.size w w' := by
  have Hn := Lib.hid hn; clear hn
  have HC := Lib.hid hcs; clear hcs
  have h1 : OwI (w.alloc (.cells #[] 3)) w.heap.size (w.alloc (.cells #[] 3)).heap.size (some ⟨w.heap.size, 0, none⟩) 0 0 [] := OwI.mk (World.ownsRow_made _ #[] 0 (Nat.le_refl _) (Nat.zero_le _) rfl)
  have hB0 : Below w.heap.size w (w.alloc (.cells #[] 3)) := (Below.refl _ _).alloc (Nat.le_refl _) _
  have H1 := Lib.hid h1; clear h1
  go_enter Tryz.func65, Tryz.ntmps65
  go_wp2
  go_loopw [3, 4] (fun v i wr => ∃ k : Nat, k ≤ n ∧ i = .int .i64 k ∧ Hid (∃ a' m c', v = .slice a' m c' ∧ m ≤ k ∧ OwI wr w.heap.size wr.heap.size a' m c' (decodeBy n (cs.take k))) ∧ Below w.heap.size w wr) (fun _ i _ => n - (intOf i).toNat)
  case atStart => exact ⟨0, Nat.zero_le _, rfl, ⟨_, _, _, rfl, Nat.le_refl _, H1.out⟩, hB0⟩
  case round =>
    clear hB0 H1
    obtain ⟨k, hk, rfl, HV, hB⟩ := hrel
    obtain ⟨wo, rfl⟩ : ∃ wo : World, wo = wr := ⟨_, rfl⟩
    obtain ⟨a', m, c', rfl, hmk, ho⟩ := HV.out
    clear HV
    by_cases hlt : k < n
    · have hrw := hr.below hB
      obtain ⟨b, off, rfl, hcell⟩ := hrw.at (k := k) (by rw [Hn.out]; exact hlt)
      obtain ⟨x, hx⟩ := some_at (k := k) Hn.out (by omega)
      have hc := hcell k x hx
      obtain ⟨hx0, hx1⟩ := HC.out x (List.mem_of_getElem? hx)
      have hst : decodeBy n (cs.take (k + 1)) = seek (decodeBy n (cs.take k)) n 0 x := by rw [List.take_add_one, hx]; exact decodeBy_snoc _ _ _
      obtain ⟨out, hout⟩ : ∃ out, decodeBy n (cs.take k) = out := ⟨_, rfl⟩
      rw [hout] at hst ho
      have hol := ho.len
      have Hst := Lib.hid hst
      have Hol := Lib.hid hol
      have HO := Lib.hid ho
      clear hcell hrw hx hst hout hol ho
      obtain ⟨r0, rfl⟩ : ∃ r : Nat, x = r := ⟨x.toNat, by omega⟩
      have hbs := hB.size
      go_wp2
      go_loopw [3, 5, 6] (fun s l v wr => ∃ j r : Nat, j ≤ n ∧ v = .int .i64 j ∧ l = .int .i64 r ∧ r ≤ 1000 ∧ Hid (s = .slice a' m c') ∧ Hid (seek out n 0 r0 = seek out (n - j) j r) ∧ Drew wo wr) (fun _ _ v _ => n - (intOf v).toNat)
      case atStart => exact ⟨0, r0, Nat.zero_le _, rfl, rfl, by omega, rfl, rfl, Drew.refl _⟩
      case round =>
        obtain ⟨j, r, hj, rfl, rfl, hr1, HS, HK, hd⟩ := hrel
        obtain rfl := HS.out
        clear HS
        obtain ⟨wp, rfl⟩ : ∃ wp : World, wp = wr := ⟨_, rfl⟩
        have hoI := HO.out.below (hd.below _)
        by_cases hjn : j < n
        · obtain ⟨f, hf⟩ : ∃ f, n - j = f + 1 := ⟨n - j - 1, by omega⟩
          have hf2 : f = n - (j + 1) := by omega
          have hk2 := HK.out
          rw [hf, seek] at hk2
          cases hm : out.contains (j : Int)
          · rw [hm, if_neg (by simp)] at hk2
            by_cases hr0 : r = 0
            · rw [if_pos (by omega)] at hk2
              have e1 : ((r : Int) == 0) = true := by simp; omega
              clear hr0
              have Hk2 := Lib.hid hk2
              have Hm := Lib.hid hm
              clear hk2 hm hf hf2 HK
              go_wp2_with fail
              refine (is (l1Has_any _ _ _ out j _ hoI.rd Hol.out (by omega)) Hm.out).mono ?_
              rintro e w2 ⟨rfl, hd2⟩
              have ho2 := hoI.below (hd2.below _)
              have hB2 := (hB.trans (hd.below _)).trans (hd2.below _)
              go_wp2_with (first | (at_builtin; go_loud (refine wpList_pushI (by rfl) (by rfl) _ _ (by rfl) ho2 (by rfl) (by rfl) (by omega) (by have := hB2.size; omega) ?_)))
              intro a2 c2 w3 ho3 hg3
              have hB3 := hg3.below hB2 hB2.size (fun k hk => ho2.1.lo k hk)
              go_wp2
              go_roundw
              case rel => exact ⟨k + 1, by omega, by go_num, ⟨_, _, _, rfl, by omega, by rw [Hst.out, Hk2.out]; exact ho3⟩, hB3⟩
              case measure => simp [intOf]; omega
            · rw [if_neg (by omega)] at hk2
              have e1 : ((r : Int) == 0) = false := by simp; omega
              have hre : ((r : Int) - 1) = ((r - 1 : Nat) : Int) := by omega
              rw [hre] at hk2
              subst hf2
              have Hk2 := Lib.hid hk2
              have Hm := Lib.hid hm
              clear hk2 hm hf HK hre
              go_wp2_with fail
              refine (is (l1Has_any _ _ _ out j _ hoI.rd Hol.out (by omega)) Hm.out).mono ?_
              rintro e w2 ⟨rfl, hd2⟩
              go_wp2
              go_roundw
              case rel => exact ⟨j + 1, r - 1, by omega, by go_num, by go_num, by omega, rfl, Hk2, hd.trans hd2⟩
              case measure => simp [intOf]; omega
          · rw [hm, if_pos rfl] at hk2
            subst hf2
            have Hk2 := Lib.hid hk2
            have Hm := Lib.hid hm
            clear hk2 hm hf HK
            go_wp2_with fail
            refine (is (l1Has_any _ _ _ out j _ hoI.rd Hol.out (by omega)) Hm.out).mono ?_
            rintro e w2 ⟨rfl, hd2⟩
            go_wp2
            go_roundw
            case rel => exact ⟨j + 1, r, by omega, by go_num, rfl, hr1, rfl, Hk2, hd.trans hd2⟩
            case measure => simp [intOf]; omega
        · obtain rfl : j = n := by omega
          have hk2 := HK.out
          rw [Nat.sub_self, seek] at hk2
          have Hk2 := Lib.hid hk2
          clear hk2 HK
          go_wp2
          go_roundw
          case rel => exact ⟨k + 1, by omega, by go_num, ⟨_, _, _, rfl, by omega, by rw [Hst.out, Hk2.out]; exact hoI.mono (Nat.le_refl _) (hd.below wo.heap.size).size⟩, hB.trans (hd.below _)⟩
          case measure => simp [intOf]; omega
    · obtain rfl : k = n := by omega
      rw [List.take_of_length_le (by rw [Hn.out]; exact Nat.le_refl _)] at ho
      have hfin : decodeBy k cs = decode cs := by rw [decode, Hn.out]
      rw [hfin] at ho
      go_wp2
      go_ret
      exact ⟨_, _, _, rfl, ho, hB⟩
end Go.Proofs.YtomejjbkakpoiaaGreat
