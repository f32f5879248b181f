/-
  Contracts of inserting and RskOf, the program's and the reference's.
-/
import Derived.Test.YtleehkgfoicmdaaIIQ2
import Derived.Test.YtleehkgfoicmdaaInsNum
namespace Go.Proofs.Ytleehkgfoicmdaa
open Go.RowKit

def rsk (xs : List Int) : Nat → List (List Int) × List (List Int)
  | 0 => ([], [])
  | k + 1 => ((insTab (rsk xs k).1 (xs.getD k 0)).1, growTab (rsk xs k).2 (insTab (rsk xs k).1 (xs.getD k 0)).2 (k : Int))
def entry (x : Int) : Bool := decide (0 ≤ x) && decide (x ≤ 20)
def rskOf (xs : List Int) : List (List Int) × List (List Int) × Bool :=
  if xs.length ≤ 16 ∧ xs.all entry = true then ((rsk xs xs.length).1, (rsk xs xs.length).2, true) else ([], [], false)
theorem growTab_len {t : List (List Int)} {r : Nat} (x : Int) (h : r ≤ t.length) : (growTab t r x).length = (if r = t.length then t.length + 1 else t.length) ∧ sz_II (growTab t r x) = sz_II t + 1 := by
  rcases Nat.lt_or_ge r t.length with h1 | h1
  · obtain ⟨row, hrow⟩ := some_of h1
    rw [growTab_row x hrow]
    refine ⟨by rw [List.length_set, if_neg (by omega)], ?_⟩
    have e : t.set r (row ++ [x]) = t.take r ++ (row ++ [x]) :: t.drop (r + 1) := by rw [List.set_eq_take_append_cons_drop, if_pos h1]
    have e2 : t = t.take r ++ row :: t.drop (r + 1) := by rw [← drop_at hrow, List.take_append_drop]
    rw [e]
    conv => rhs; rw [e2]
    rw [sz_II_append, sz_II_append]
    simp only [sz_II, List.length_append, List.length_singleton]
    omega
  · obtain rfl : r = t.length := by omega
    rw [growTab_end x rfl, sz_II_append]
    simp [sz_II]
theorem rsk_len (xs : List Int) (k : Nat) : (rsk xs k).1.length = (rsk xs k).2.length ∧ (rsk xs k).1.length ≤ k ∧ sz_II (rsk xs k).1 = k ∧ sz_II (rsk xs k).2 = k := by
  induction k with
  | zero => simp [rsk, sz_II]
  | succ k ih =>
    obtain ⟨h1, h2, h3, h4⟩ := ih
    have h5 := insTab_len (rsk xs k).1 (xs.getD k 0)
    have h6 := insTab_sz (rsk xs k).1 (xs.getD k 0)
    have h7 := growTab_len (t := (rsk xs k).2) (k : Int) (show (insTab (rsk xs k).1 (xs.getD k 0)).2 ≤ _ by rw [← h1]; exact h5.1)
    simp only [rsk]
    rw [h5.2, h7.1, h6, h7.2, h1]
    refine ⟨rfl, ?_, by omega, by omega⟩
    split <;> omega
theorem rsk_short (xs : List Int) {k : Nat} (hk : k ≤ 1000) : ShortII (rsk xs k).1 ∧ ShortII (rsk xs k).2 := by
  have h := rsk_len xs k
  exact ⟨fun l hl => by have := sz_II_each hl; omega, fun l hl => by have := sz_II_each hl; omega⟩
theorem rskOf_few (xs : List Int) : ((rskOf xs).1.length ≤ 16 ∧ sz_II (rskOf xs).1 ≤ 16 ∧ ShortII (rskOf xs).1) ∧ ((rskOf xs).2.1.length ≤ 16 ∧ sz_II (rskOf xs).2.1 ≤ 16 ∧ ShortII (rskOf xs).2.1) := by
  unfold rskOf
  split
  · rename_i h
    have h1 := rsk_len xs xs.length
    have h2 := rsk_short xs (show xs.length ≤ 1000 by omega)
    refine ⟨⟨?_, ?_, h2.1⟩, ⟨?_, ?_, h2.2⟩⟩
    · show (rsk xs xs.length).1.length ≤ 16; omega
    · show sz_II (rsk xs xs.length).1 ≤ 16; omega
    · show (rsk xs xs.length).2.length ≤ 16; omega
    · show sz_II (rsk xs xs.length).2 ≤ 16; omega
  · exact ⟨⟨by simp, by simp [sz_II], by intro l hl; simp at hl⟩, ⟨by simp, by simp [sz_II], by intro l hl; simp at hl⟩⟩
theorem entry_no {x : Int} (h : x < 0 ∨ 20 < x) : entry x = false := by unfold entry; simp; omega
theorem entry_yes {x : Int} (h : 0 ≤ x ∧ x ≤ 20) : entry x = true := by unfold entry; simp; omega
theorem rskOf_no {xs : List Int} {k : Nat} {x : Int} (h : xs[k]? = some x) (hx : x < 0 ∨ 20 < x) : rskOf xs = ([], [], false) := by
  rw [rskOf, if_neg]
  rintro ⟨_, h2⟩
  rw [List.all_eq_true] at h2
  have := h2 x (List.mem_of_getElem? h)
  rw [entry_no hx] at this
  cases this
theorem rskOf_big {xs : List Int} (h : 16 < xs.length) : rskOf xs = ([], [], false) := by
  rw [rskOf, if_neg]; omega
theorem all_of {xs : List Int} (h : ∀ (j : Nat) (z : Int), j < xs.length → xs[j]? = some z → entry z = true) : xs.all entry = true := by
  rw [List.all_eq_true]
  intro z hz
  obtain ⟨j, hj⟩ := List.mem_iff_getElem?.1 hz
  exact h j z (List.getElem?_eq_some_iff.1 hj).1 hj
theorem rskOf_ok {xs : List Int} (h : xs.length ≤ 16) (h2 : xs.all entry = true) : rskOf xs = ((rsk xs xs.length).1, (rsk xs xs.length).2, true) := by
  rw [rskOf, if_pos ⟨h, h2⟩]

set_option maxRecDepth 100000 in
set_option maxHeartbeats 3200000 in
theorem specRskOf_any (a : Option Addr) (n c : Nat) (xs : List Int) (w : World) (hr : RI w a xs) (hn : xs.length = n) (hb : n ≤ 17592186044416) :
    Calls Try.prog 50 #[.slice a n c] w fun e w' => ∃ a' n' c' b' m' d' r2, e = .returned (.tuple #[.slice a' n' c', .slice b' m' d', .bool r2]) ∧ IIO w' w.heap.size w'.heap.size a' n' c' (rskOf xs).1 ∧ IIO w' w.heap.size w'.heap.size b' m' d' (rskOf xs).2.1 ∧ Hid (r2 = (rskOf xs).2.2) ∧ Below w.heap.size w w' := by
  by_cases hbig : 16 < n
  · have hno := rskOf_big (by rw [hn]; exact hbig)
    clear hn
    go_enter Try.func50, Try.ntmps50
    go_wp2
    go_ret3
    exact ⟨_, _, _, _, _, _, _, rfl, by rw [hno]; exact IIO.nil, by rw [hno]; exact IIO.nil, by rw [hno]; exact rfl, Below.refl _ _⟩
  have Hn := Lib.hid hn; clear hn
  have H1 := Lib.hid (IIO.fresh w)
  have H2 := Lib.hid (IIO.fresh (w.alloc (.cells #[] 22)))
  have hb1 : Below w.heap.size w (w.alloc (.cells #[] 22)) := (Below.refl _ _).alloc (Nat.le_refl _) _
  have hb2 : Below (w.alloc (.cells #[] 22)).heap.size (w.alloc (.cells #[] 22)) ((w.alloc (.cells #[] 22)).alloc (.cells #[] 22)) := (Below.refl _ _).alloc (Nat.le_refl _) _
  have hs1 : (w.alloc (.cells #[] 22)).heap.size = w.heap.size + 1 := by simp
  have hp0 := (H1.out.below hb2).mono (show _ ≤ ((w.alloc (.cells #[] 22)).alloc (.cells #[] 22)).heap.size by simp)
  have hq0 := H2.out.base (show w.heap.size ≤ _ by omega)
  rw [hs1] at hq0
  have hB0 := hb1.trans (hb2.mono (by omega))
  clear H1 H2 hb1 hb2
  have HP := Lib.hid hp0; clear hp0
  have HQ := Lib.hid hq0; clear hq0
  go_enter Try.func50, Try.ntmps50
  go_wp2
  go_loopw [5, 6, 7] (fun pv qv iv wr => Hid (∃ (k : Nat), k ≤ n ∧ iv = .int .i64 k ∧ (∀ (j : Nat) (z : Int), j < k → xs[j]? = some z → entry z = true) ∧ (∃ a' n' c', pv = .slice a' n' c' ∧ IIO wr w.heap.size wr.heap.size a' n' c' (rsk xs k).1) ∧ (∃ a' n' c', qv = .slice a' n' c' ∧ IIO wr w.heap.size wr.heap.size a' n' c' (rsk xs k).2)) ∧ Below w.heap.size w wr) (fun _ _ i _ => n - (intOf i).toNat)
  case atStart => exact ⟨⟨0, Nat.zero_le _, rfl, by intro j z hj; omega, ⟨_, _, _, rfl, HP.out⟩, ⟨_, _, _, rfl, HQ.out⟩⟩, hB0⟩
  case round =>
    clear HP HQ hB0 hs1
    obtain ⟨HV, hB⟩ := hrel
    obtain ⟨wo, rfl⟩ : ∃ wo : World, wo = wr := ⟨_, rfl⟩
    obtain ⟨k, hk, rfl, hall, ⟨ap, np, cp, rfl, hp⟩, ⟨aq, nq', cq, rfl, hq⟩⟩ := HV.out
    clear HV
    have hbs := hB.size
    by_cases hlt : k < n
    · obtain ⟨b, off, rfl, hcell⟩ := (hr.below hB).at (k := k) (by rw [Hn.out]; exact hlt)
      obtain ⟨x, hx⟩ := some_at Hn.out hlt
      have hc := hcell k x hx
      have Hx := Lib.hid hx; clear hx
      clear hcell
      have Hall := Lib.hid hall; clear hall
      by_cases hin : 0 ≤ x ∧ x ≤ 20
      · obtain ⟨h1, h2, h3, h4⟩ := rsk_len xs k
        obtain ⟨h5, h6⟩ := rsk_short xs (show k ≤ 1000 by omega)
        have h7 := insTab_len (rsk xs k).1 x
        have hstep : rsk xs (k + 1) = ((insTab (rsk xs k).1 x).1, growTab (rsk xs k).2 (insTab (rsk xs k).1 x).2 (k : Int)) := by rw [rsk, getD_of Hx.out]
        obtain ⟨P, hP⟩ : ∃ P, (rsk xs k).1 = P := ⟨_, rfl⟩
        obtain ⟨Q, hQ⟩ : ∃ Q, (rsk xs k).2 = Q := ⟨_, rfl⟩
        rw [hP] at h1 h2 h5 h7 hstep hp
        rw [hQ] at h1 h6 hstep hq
        have hlp := hp.len
        have hlq := hq.len
        obtain ⟨T, hT⟩ : ∃ T, insTab P x = T := ⟨_, rfl⟩
        rw [hT] at h7 hstep
        have HT := Lib.hid hT; clear hT
        have Hst := Lib.hid hstep; clear hstep
        have H7 := Lib.hid h7.1; clear h7
        have H5 := Lib.hid h5; clear h5
        have H6 := Lib.hid h6; clear h6
        have Hlp := Lib.hid hlp
        have Hlq := Lib.hid hlq
        have hnn : np = nq' := by omega
        subst hnn
        have hnb : np ≤ 1048576 := by omega
        have HP := Lib.hid hp; clear hp
        have HQ := Lib.hid hq; clear hq
        clear hP hQ h1 h2 h3 h4 hlp hlq
        have hkI : (k : Int) < (n : Int) := by omega
        go_wp2_with fail
        refine (l1In_yes _ _ _ _ hin).mono ?_
        rintro e w1 ⟨rfl, hd1⟩
        have hb1 := hd1.below wo.heap.size
        have hc1 : w1.cell? ⟨b, off + k, none⟩ = some (.int .i64 x) := by rw [hd1.cell]; exact hc
        have hp1 := HP.out.below hb1
        have hq1 := HQ.out.below hb1
        have hB1 := hB.trans (hb1.mono hbs)
        have hz1 := hb1.size
        clear HP HQ hc
        go_wp2_with fail
        refine (l4Insert_any _ _ _ P x _ hp1.rd Hlp.out hnb H5.out).mono ?_
        rintro e w2 ⟨a2, n2, c2, r2, rfl, hp2, Hr2, hb2⟩
        rw [HT.out] at hp2 Hr2
        have hq2 := hq1.below hb2
        have hB2 := hB1.trans (hb2.mono (by omega))
        have hz2 := hb2.size
        have hrn : T.2 ≤ np := by have := H7.out; have := Hlp.out; omega
        clear hp1 hq1 hc1
        go_wp2_with fail
        refine (l4Grown_any _ _ _ Q T.2 _ (k : Int) _ hq2.rd Hlq.out (by omega) H6.out Hr2.out hrn).mono ?_
        rintro e w3 ⟨a3, n3, c3, rfl, hq3, hb3⟩
        have hz3 := hb3.size
        have hp3 := ((hp2.below hb3).mono hz3).base (show w.heap.size ≤ w1.heap.size by omega)
        have hB3 := hB2.trans (hb3.mono (by omega))
        have hq4 := hq3.base (show w.heap.size ≤ w2.heap.size by omega)
        clear hp2 hq2 hq3 hb1 hb2 hb3 hB1 hB2
        go_wp2
        go_roundw
        case rel => exact ⟨⟨k + 1, by omega, by go_num, by
          intro j z hj hz
          rcases Nat.lt_or_ge j k with h | h
          · exact Hall.out j z h hz
          · obtain rfl : j = k := by omega
            rw [Hx.out] at hz
            obtain rfl := Option.some.inj hz
            exact entry_yes hin, ⟨_, _, _, rfl, by rw [Hst.out]; exact hp3⟩, ⟨_, _, _, rfl, by rw [Hst.out]; exact hq4⟩⟩, hB3⟩
        case measure => simp [intOf]; omega
      · have hno := rskOf_no Hx.out (show x < 0 ∨ 20 < x by omega)
        have hkI : (k : Int) < (n : Int) := by omega
        clear hp hq
        go_wp2_with fail
        refine (l1In_no _ _ _ _ (by omega)).mono ?_
        rintro e w1 ⟨rfl, hd1⟩
        have hB1 := hB.trans (hd1.below _)
        go_wp2
        go_ret3
        exact ⟨_, _, _, _, _, _, _, rfl, by rw [hno]; exact IIO.nil, by rw [hno]; exact IIO.nil, by rw [hno]; exact rfl, hB1⟩
    · obtain rfl : k = n := by omega
      have hok := rskOf_ok (xs := xs) (by rw [Hn.out]; omega) (all_of (by rw [Hn.out]; exact hall))
      rw [Hn.out] at hok
      clear hall
      have HP := Lib.hid hp; clear hp
      have HQ := Lib.hid hq; clear hq
      have Hok := Lib.hid hok; clear hok
      go_wp2
      go_ret3
      exact ⟨_, _, _, _, _, _, _, rfl, by rw [Hok.out]; exact HP.out, by rw [Hok.out]; exact HQ.out, by rw [Hok.out]; exact rfl, hB⟩
end Go.Proofs.Ytleehkgfoicmdaa
