/-
  Contracts of InsertNumber, the program's and the reference's.
-/
import Derived.Test.YtleehkgfoicmdaaInserted
import Derived.Test.YtleehkgfoicmdaaTableau2
import Derived.OwnWalk
namespace Go.Proofs.Ytleehkgfoicmdaa
open Go.RowKit

def insNum (t : List (List Int)) (x : Int) : List (List Int) × Int × Bool :=
  if tabOk t = true ∧ 0 ≤ x ∧ x ≤ 20 then if tabOk (insTab t x).1 = true then ((insTab t x).1, ((insTab t x).2 : Int), true) else ([], 0, false) else ([], 0, false)
theorem tab_small {t : List (List Int)} (h : tabOk t = true) : t.length ≤ 16 ∧ ∀ l ∈ t, l.length ≤ 16 := by
  simp only [tabOk, Bool.and_eq_true] at h
  have h1 := shape_bd h.1
  rw [lens_length] at h1
  refine ⟨h1, fun l hl => ?_⟩
  obtain ⟨i, hi⟩ := List.mem_iff_getElem?.1 hl
  have h2 := lens_at hi
  have h3 := h.1
  simp only [isShape, Bool.and_eq_true, List.all_eq_true] at h3
  have h4 := h3.2 i (by have := lt_of_some h2; simpa using this)
  simp only [shapeAt, getD_of h2, Bool.and_eq_true, decide_eq_true_eq] at h4
  omega
theorem sz_small {t : List (List Int)} (h : ∀ l ∈ t, l.length ≤ 16) : sz_II t ≤ 16 * t.length := by
  induction t with
  | nil => simp [sz_II]
  | cons l t ih =>
    have h1 := h l (by simp)
    have h2 := ih (fun l hl => h l (by simp [hl]))
    simp only [sz_II, List.length_cons]; omega
theorem tab_short {t : List (List Int)} (h : tabOk t = true) : ShortII t := fun l hl => Nat.le_trans ((tab_small h).2 l hl) (by omega)
theorem ins_short {t : List (List Int)} (x : Int) (h : tabOk t = true) : ShortII (insTab t x).1 := by
  have h1 := tab_small h
  have h2 := sz_small h1.2
  have h3 := insTab_sz t x
  intro l hl
  have := sz_II_each hl
  omega
theorem ins_few {t : List (List Int)} (x : Int) (h : tabOk t = true) : (insTab t x).1.length ≤ 17 := by
  have h1 := tab_small h
  have h2 := (insTab_len t x).2
  rw [h2]; split <;> omega
theorem insNum_tab (t : List (List Int)) (x : Int) : (insNum t x).1 = [] ∨ tabOk (insNum t x).1 = true := by
  unfold insNum
  split
  · split
    · right; assumption
    · left; rfl
  · left; rfl
theorem insNum_few (t : List (List Int)) (x : Int) : (insNum t x).1.length ≤ 16 ∧ sz_II (insNum t x).1 ≤ 256 ∧ ShortII (insNum t x).1 := by
  rcases insNum_tab t x with h | h
  · rw [h]; exact ⟨by simp, by simp [sz_II], by intro l hl; simp at hl⟩
  · have h1 := tab_small h
    have h2 := sz_small h1.2
    exact ⟨h1.1, by omega, tab_short h⟩
theorem insNum_no {t : List (List Int)} {x : Int} (h : tabOk t = false ∨ x < 0 ∨ 20 < x) : insNum t x = ([], 0, false) := by
  rw [insNum, if_neg]
  rintro ⟨h1, h2, h3⟩
  rcases h with h | h | h
  · rw [h1] at h; cases h
  · omega
  · omega
theorem insNum_bad {t : List (List Int)} {x : Int} (h : tabOk (insTab t x).1 = false) : insNum t x = ([], 0, false) := by
  rw [insNum, h]
  split <;> rfl
theorem insNum_ok {t : List (List Int)} {x : Int} (h : tabOk t = true) (hx : 0 ≤ x ∧ x ≤ 20) (h2 : tabOk (insTab t x).1 = true) : insNum t x = ((insTab t x).1, ((insTab t x).2 : Int), true) := by
  rw [insNum, if_pos ⟨h, hx⟩, if_pos h2]

theorem isEntry_no (n : Int) (w : World) (h : n < 0 ∨ 20 < n) :
    Calls Try.prog 90 #[.int .i64 n] w fun e w' => e = .returned (.bool false) ∧ Drew w w' := by
  by_cases h1 : 0 ≤ n
  · have h2 : ¬ n ≤ 20 := by omega
    go_enter Try.func90, Try.ntmps90
    go_wp2
    go_ret
    exact ⟨by simp, Drew.refl _⟩
  · go_enter Try.func90, Try.ntmps90
    go_wp2
    go_ret
    exact ⟨by simp, Drew.refl _⟩
theorem isEntry_yes (n : Int) (w : World) (h : 0 ≤ n ∧ n ≤ 20) :
    Calls Try.prog 90 #[.int .i64 n] w fun e w' => e = .returned (.bool true) ∧ Drew w w' := by
  obtain ⟨h1, h2⟩ := h
  go_enter Try.func90, Try.ntmps90
  go_wp2
  go_ret
  exact ⟨by simp, Drew.refl _⟩

set_option maxRecDepth 100000 in
set_option maxHeartbeats 1600000 in
theorem specInsNum_any (a : Option Addr) (n c : Nat) (xss : List (List Int)) (x : Int) (w : World) (hr : RII w a xss) (hn : xss.length = n) (hb : n ≤ 1048576) (hsh : ShortII xss) (_hl : -9223372036854775808 ≤ x) (_hu : x ≤ 9223372036854775807) :
    Calls Try.prog 57 #[.slice a n c, .int .i64 x] w fun e w' => ∃ a' n' c' r1 r2, e = .returned (.tuple #[.slice a' n' c', .int .i64 r1, .bool r2]) ∧ IIO w' w.heap.size w'.heap.size a' n' c' (insNum xss x).1 ∧ Hid (r1 = (insNum xss x).2.1) ∧ Hid (r2 = (insNum xss x).2.2) ∧ Below w.heap.size w w' := by
  have Hn := Lib.hid hn; clear hn
  have HSh := Lib.hid hsh; clear hsh
  cases ht : tabOk xss
  · have hno := insNum_no (x := x) (.inl ht)
    have Ht := Lib.hid ht; clear ht
    go_enter Try.func57, Try.ntmps57
    go_wp2_with fail
    refine (is (specTab_any _ _ _ xss _ hr Hn.out hb HSh.out) Ht.out).mono ?_
    rintro e w1 ⟨rfl, hd1⟩
    have hb1 : Below w.heap.size w w1 := hd1.below _
    go_wp2
    go_ret3
    exact ⟨_, _, _, _, _, rfl, by rw [hno]; exact IIO.nil, by rw [hno]; exact rfl, by rw [hno]; exact rfl, hb1⟩
  · by_cases hx : 0 ≤ x ∧ x ≤ 20
    · have hs := ins_short x ht
      have hf := ins_few x ht
      obtain ⟨T, hT⟩ : ∃ T, insTab xss x = T := ⟨_, rfl⟩
      rw [hT] at hs hf
      cases ht2 : tabOk T.1
      · have hno := insNum_bad (t := xss) (x := x) (by rw [hT]; exact ht2)
        have Ht := Lib.hid ht; clear ht
        have HT := Lib.hid hT; clear hT
        have Ht2 := Lib.hid ht2; clear ht2
        have Hs := Lib.hid hs; clear hs
        have Hno := Lib.hid hno; clear hno
        go_enter Try.func57, Try.ntmps57
        go_wp2_with fail
        refine (is (specTab_any _ _ _ xss _ hr Hn.out hb HSh.out) Ht.out).mono ?_
        rintro e w1 ⟨rfl, hd1⟩
        have hb1 : Below w.heap.size w w1 := hd1.below _
        go_wp2_with fail
        refine (l1In_yes _ _ _ _ hx).mono ?_
        rintro e w2 ⟨rfl, hd2⟩
        have hb2 : Below w.heap.size w w2 := hb1.trans (hd2.below _)
        go_wp2_with fail
        refine (l4Insert_any _ _ _ xss x _ (hr.below hb2) Hn.out hb HSh.out).mono ?_
        rintro e w3 ⟨a3, n3, c3, r3, rfl, ho3, Hr3, hd3⟩
        rw [HT.out] at ho3 Hr3
        have hb3 := hb2.trans (hd3.mono hb2.size)
        have hl3 := ho3.len
        go_wp2_with fail
        refine (is (specTab_any _ _ _ T.1 _ ho3.rd hl3 (by omega) Hs.out) Ht2.out).mono ?_
        rintro e w4 ⟨rfl, hd4⟩
        have hb4 : Below w.heap.size w w4 := hb3.trans (hd4.below _)
        go_wp2
        go_ret3
        exact ⟨_, _, _, _, _, rfl, by rw [Hno.out]; exact IIO.nil, by rw [Hno.out]; exact rfl, by rw [Hno.out]; exact rfl, hb4⟩
      · have hok := insNum_ok ht hx (by rw [hT]; exact ht2)
        rw [hT] at hok
        have Ht := Lib.hid ht; clear ht
        have HT := Lib.hid hT; clear hT
        have Ht2 := Lib.hid ht2; clear ht2
        have Hs := Lib.hid hs; clear hs
        have Hok := Lib.hid hok; clear hok
        go_enter Try.func57, Try.ntmps57
        go_wp2_with fail
        refine (is (specTab_any _ _ _ xss _ hr Hn.out hb HSh.out) Ht.out).mono ?_
        rintro e w1 ⟨rfl, hd1⟩
        have hb1 : Below w.heap.size w w1 := hd1.below _
        go_wp2_with fail
        refine (l1In_yes _ _ _ _ hx).mono ?_
        rintro e w2 ⟨rfl, hd2⟩
        have hb2 : Below w.heap.size w w2 := hb1.trans (hd2.below _)
        go_wp2_with fail
        refine (l4Insert_any _ _ _ xss x _ (hr.below hb2) Hn.out hb HSh.out).mono ?_
        rintro e w3 ⟨a3, n3, c3, r3, rfl, ho3, Hr3, hd3⟩
        rw [HT.out] at ho3 Hr3
        have hb3 := hb2.trans (hd3.mono hb2.size)
        have hl3 := ho3.len
        go_wp2_with fail
        refine (is (specTab_any _ _ _ T.1 _ ho3.rd hl3 (by omega) Hs.out) Ht2.out).mono ?_
        rintro e w4 ⟨rfl, hd4⟩
        have hb4 : Below w.heap.size w w4 := hb3.trans (hd4.below _)
        have ho4 : IIO w4 w2.heap.size w3.heap.size a3 n3 c3 T.1 := ho3.below (hd4.below _)
        have hz4 : w3.heap.size ≤ w4.heap.size := (hd4.below w3.heap.size).size
        have Ho := Lib.hid ((ho4.mono hz4).base hb2.size)
        clear ho4 ho3 hl3 hd3 hd4 hb3 hd2 hd1
        go_wp2
        go_ret3
        exact ⟨_, _, _, _, _, rfl, by rw [Hok.out]; exact Ho.out, by rw [Hok.out]; exact Hr3, by rw [Hok.out]; exact rfl, hb4⟩
    · have hno := insNum_no (t := xss) (x := x) (.inr (by omega))
      have Ht := Lib.hid ht; clear ht
      go_enter Try.func57, Try.ntmps57
      go_wp2_with fail
      refine (is (specTab_any _ _ _ xss _ hr Hn.out hb HSh.out) Ht.out).mono ?_
      rintro e w1 ⟨rfl, hd1⟩
      have hb1 : Below w.heap.size w w1 := hd1.below _
      go_wp2_with fail
      refine (l1In_no _ _ _ _ (by omega)).mono ?_
      rintro e w2 ⟨rfl, hd2⟩
      have hb2 : Below w.heap.size w w2 := hb1.trans (hd2.below _)
      go_wp2
      go_ret3
      exact ⟨_, _, _, _, _, rfl, by rw [hno]; exact IIO.nil, by rw [hno]; exact rfl, by rw [hno]; exact rfl, hb2⟩

set_option maxRecDepth 100000 in
set_option maxHeartbeats 1600000 in
theorem implInsNum_any (a : Option Addr) (n c : Nat) (xss : List (List Int)) (x : Int) (w : World) (hr : RII w a xss) (hn : xss.length = n) (hb : n ≤ 1048576) (hsh : ShortII xss) (_hl : -9223372036854775808 ≤ x) (_hu : x ≤ 9223372036854775807) :
    Calls Try.prog 58 #[.slice a n c, .int .i64 x] w fun e w' => ∃ a' n' c' r1 r2, e = .returned (.tuple #[.slice a' n' c', .int .i64 r1, .bool r2]) ∧ IIO w' w.heap.size w'.heap.size a' n' c' (insNum xss x).1 ∧ Hid (r1 = (insNum xss x).2.1) ∧ Hid (r2 = (insNum xss x).2.2) ∧ Below w.heap.size w w' := by
  have Hn := Lib.hid hn; clear hn
  have HSh := Lib.hid hsh; clear hsh
  cases ht : tabOk xss
  · have hno := insNum_no (x := x) (.inl ht)
    have Ht := Lib.hid ht; clear ht
    go_enter Try.func58, Try.ntmps58
    go_wp2_with fail
    refine (is (implTab_any _ _ _ xss _ hr Hn.out hb HSh.out) Ht.out).mono ?_
    rintro e w1 ⟨rfl, hd1⟩
    have hb1 : Below w.heap.size w w1 := hd1
    go_wp2
    go_ret3
    exact ⟨_, _, _, _, _, rfl, by rw [hno]; exact IIO.nil, by rw [hno]; exact rfl, by rw [hno]; exact rfl, hb1⟩
  · by_cases hx : 0 ≤ x ∧ x ≤ 20
    · have hs := ins_short x ht
      have hf := ins_few x ht
      obtain ⟨T, hT⟩ : ∃ T, insTab xss x = T := ⟨_, rfl⟩
      rw [hT] at hs hf
      cases ht2 : tabOk T.1
      · have hno := insNum_bad (t := xss) (x := x) (by rw [hT]; exact ht2)
        have Ht := Lib.hid ht; clear ht
        have HT := Lib.hid hT; clear hT
        have Ht2 := Lib.hid ht2; clear ht2
        have Hs := Lib.hid hs; clear hs
        have Hno := Lib.hid hno; clear hno
        go_enter Try.func58, Try.ntmps58
        go_wp2_with fail
        refine (is (implTab_any _ _ _ xss _ hr Hn.out hb HSh.out) Ht.out).mono ?_
        rintro e w1 ⟨rfl, hd1⟩
        have hb1 : Below w.heap.size w w1 := hd1
        go_wp2_with fail
        refine (isEntry_yes _ _ hx).mono ?_
        rintro e w2 ⟨rfl, hd2⟩
        have hb2 : Below w.heap.size w w2 := hb1.trans (hd2.below _)
        go_wp2_with fail
        refine (inserted_any _ _ _ xss x _ (hr.below hb2) Hn.out hb HSh.out).mono ?_
        rintro e w3 ⟨a3, n3, c3, r3, rfl, ho3, Hr3, hd3⟩
        rw [HT.out] at ho3 Hr3
        have hb3 := hb2.trans (hd3.mono hb2.size)
        have hl3 := ho3.len
        go_wp2_with fail
        refine (is (implTab_any _ _ _ T.1 _ ho3.rd hl3 (by omega) Hs.out) Ht2.out).mono ?_
        rintro e w4 ⟨rfl, hd4⟩
        have hb4 : Below w.heap.size w w4 := hb3.trans (hd4.mono hb3.size)
        go_wp2
        go_ret3
        exact ⟨_, _, _, _, _, rfl, by rw [Hno.out]; exact IIO.nil, by rw [Hno.out]; exact rfl, by rw [Hno.out]; exact rfl, hb4⟩
      · have hok := insNum_ok ht hx (by rw [hT]; exact ht2)
        rw [hT] at hok
        have Ht := Lib.hid ht; clear ht
        have HT := Lib.hid hT; clear hT
        have Ht2 := Lib.hid ht2; clear ht2
        have Hs := Lib.hid hs; clear hs
        have Hok := Lib.hid hok; clear hok
        go_enter Try.func58, Try.ntmps58
        go_wp2_with fail
        refine (is (implTab_any _ _ _ xss _ hr Hn.out hb HSh.out) Ht.out).mono ?_
        rintro e w1 ⟨rfl, hd1⟩
        have hb1 : Below w.heap.size w w1 := hd1
        go_wp2_with fail
        refine (isEntry_yes _ _ hx).mono ?_
        rintro e w2 ⟨rfl, hd2⟩
        have hb2 : Below w.heap.size w w2 := hb1.trans (hd2.below _)
        go_wp2_with fail
        refine (inserted_any _ _ _ xss x _ (hr.below hb2) Hn.out hb HSh.out).mono ?_
        rintro e w3 ⟨a3, n3, c3, r3, rfl, ho3, Hr3, hd3⟩
        rw [HT.out] at ho3 Hr3
        have hb3 := hb2.trans (hd3.mono hb2.size)
        have hl3 := ho3.len
        go_wp2_with fail
        refine (is (implTab_any _ _ _ T.1 _ ho3.rd hl3 (by omega) Hs.out) Ht2.out).mono ?_
        rintro e w4 ⟨rfl, hd4⟩
        have hb4 : Below w.heap.size w w4 := hb3.trans (hd4.mono hb3.size)
        have ho4 : IIO w4 w2.heap.size w3.heap.size a3 n3 c3 T.1 := ho3.below (hd4)
        have hz4 : w3.heap.size ≤ w4.heap.size := hd4.size
        have Ho := Lib.hid ((ho4.mono hz4).base hb2.size)
        clear ho4 ho3 hl3 hd3 hd4 hb3 hd2 hd1
        go_wp2
        go_ret3
        exact ⟨_, _, _, _, _, rfl, by rw [Hok.out]; exact Ho.out, by rw [Hok.out]; exact Hr3, by rw [Hok.out]; exact rfl, hb4⟩
    · have hno := insNum_no (t := xss) (x := x) (.inr (by omega))
      have Ht := Lib.hid ht; clear ht
      go_enter Try.func58, Try.ntmps58
      go_wp2_with fail
      refine (is (implTab_any _ _ _ xss _ hr Hn.out hb HSh.out) Ht.out).mono ?_
      rintro e w1 ⟨rfl, hd1⟩
      have hb1 : Below w.heap.size w w1 := hd1
      go_wp2_with fail
      refine (isEntry_no _ _ (by omega)).mono ?_
      rintro e w2 ⟨rfl, hd2⟩
      have hb2 : Below w.heap.size w w2 := hb1.trans (hd2.below _)
      go_wp2
      go_ret3
      exact ⟨_, _, _, _, _, rfl, by rw [hno]; exact IIO.nil, by rw [hno]; exact rfl, by rw [hno]; exact rfl, hb2⟩
end Go.Proofs.Ytleehkgfoicmdaa
