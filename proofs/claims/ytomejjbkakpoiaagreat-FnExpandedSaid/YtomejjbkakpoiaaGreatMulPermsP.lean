/-
  Contracts of MulPerms, the program's and the reference's. Written by a program of ours.
-/
import Derived.Test.YtomejjbkakpoiaaGreatBuE29
import Derived.Test.YtomejjbkakpoiaaGreatBuE23
import Derived.Test.YtomejjbkakpoiaaGreatBuE28
namespace Go.Proofs.YtomejjbkakpoiaaGreat
open Go.RowKit Go.MapKept Go.ChangeMaps

def mpB (u v : List Int) : Bool := schOk u && (schOk v && mulOk (schT u) (schT v))
def mpT (u v : List Int) : List (List Int × Int) := if mpB u v = true then expT (mulT (schT u) (schT v)) else []
def mpOk (u v : List Int) : Bool := mpB u v && expOk (mulT (schT u) (schT v))
theorem mp_no {u v : List Int} (h : mpB u v = false) : mpT u v = [] ∧ mpOk u v = false := by
  unfold mpT mpOk
  rw [h]
  exact ⟨if_neg (by simp), rfl⟩
theorem mp_yes {u v : List Int} (h : mpB u v = true) : mpT u v = expT (mulT (schT u) (schT v)) ∧ mpOk u v = expOk (mulT (schT u) (schT v)) := by
  unfold mpT mpOk
  rw [h]
  exact ⟨if_pos rfl, rfl⟩
theorem mulT_short (f g : List (List Int × Int)) : Short_P (mulT f g) := by
  unfold mulT
  split
  · intro p hp; rw [closedT_each p hp]; omega
  · intro p hp; cases hp
theorem mpT_len (u v : List Int) : (mpT u v).length ≤ 1048576 := by
  unfold mpT
  split
  · exact expT_len _
  · exact Nat.zero_le _
theorem mpT_short (u v : List Int) : ∀ p ∈ mpT u v, p.1.length ≤ 1048576 := by
  unfold mpT
  split
  · exact expT_short _
  · intro p hp; cases hp
theorem mpT_sz (u v : List Int) : sz_K (mpT u v) ≤ 1099511627776 := by
  unfold mpT
  split
  · exact expT_sz _
  · exact Nat.zero_le _

set_option maxRecDepth 100000 in
set_option maxHeartbeats 6400000 in
theorem implMulPerms_any (a b : Option Addr) (n c m d : Nat) (xs ys : List Int) (w : World) (hx : RI w a xs) (hy : RI w b ys) (hn : xs.length = n) (hm : ys.length = m) (hb : n ≤ 1048576) (hb' : m ≤ 1048576) (hc : n ≤ c) (hd : m ≤ d) :
    Calls Tryz.prog 20 #[.slice a n c, .slice b m d] w fun e w' => ∃ a' n' c' r, e = .returned (.tuple #[.slice a' n' c', .bool r]) ∧ KO w' w.heap.size w'.heap.size a' n' c' (mpT xs ys) ∧ Hid (r = mpOk xs ys) ∧ Below w.heap.size w w' := by
  have Hn := Lib.hid hn; clear hn
  have Hm := Lib.hid hm; clear hm
  cases h1 : schOk xs
  · have H0 := Lib.hid (mp_no (show mpB xs ys = false by unfold mpB; rw [h1]; rfl))
    have H1 := Lib.hid h1
    obtain ⟨rr, hrr⟩ : ∃ r, schOk ys = r := ⟨_, rfl⟩
    have H2 := Lib.hid hrr
    obtain ⟨rs, hrs⟩ : ∃ r, mulOk (schT xs) (schT ys) = r := ⟨_, rfl⟩
    have H3 := Lib.hid hrs
    clear h1 hrr hrs
    go_enter Tryz.func20, Tryz.ntmps20
    go_wp2_with fail
    refine (implSch_any _ _ _ xs _ hx Hn.out hb hc).mono ?_
    rintro e w1 ⟨a1, n1, c1, r1, rfl, ho1, hh1, hb1⟩
    obtain rfl : r1 = false := by rw [hh1.out]; exact H1.out
    have hy1 := hy.below hb1
    have Ho1 := Lib.hid ho1
    clear ho1 hh1
    go_wp2_with fail
    refine (implSch_any _ _ _ ys _ hy1 Hm.out hb' hd).mono ?_
    rintro e w2 ⟨a2, n2, c2, r2, rfl, ho2, hh2, hb2⟩
    obtain rfl : r2 = rr := by rw [hh2.out]; exact H2.out
    have hB2 := hb1.trans (hb2.mono hb1.size)
    have Ho2 := Lib.hid ho2
    have Hx2 := Lib.hid (Ho1.out.below hb2)
    clear ho2 hh2
    go_wp2
    go_ret2
    exact ⟨_, _, _, _, rfl, by rw [H0.out.1]; exact KO.nil, H0.out.2.symm, hB2⟩
  cases h2 : schOk ys
  · have H0 := Lib.hid (mp_no (show mpB xs ys = false by unfold mpB; rw [h1, h2]; rfl))
    have H1 := Lib.hid h1
    have H2 := Lib.hid h2
    obtain ⟨rs, hrs⟩ : ∃ r, mulOk (schT xs) (schT ys) = r := ⟨_, rfl⟩
    have H3 := Lib.hid hrs
    clear h1 h2 hrs
    go_enter Tryz.func20, Tryz.ntmps20
    go_wp2_with fail
    refine (implSch_any _ _ _ xs _ hx Hn.out hb hc).mono ?_
    rintro e w1 ⟨a1, n1, c1, r1, rfl, ho1, hh1, hb1⟩
    obtain rfl : r1 = true := by rw [hh1.out]; exact H1.out
    have hy1 := hy.below hb1
    have Ho1 := Lib.hid ho1
    clear ho1 hh1
    go_wp2_with fail
    refine (implSch_any _ _ _ ys _ hy1 Hm.out hb' hd).mono ?_
    rintro e w2 ⟨a2, n2, c2, r2, rfl, ho2, hh2, hb2⟩
    obtain rfl : r2 = false := by rw [hh2.out]; exact H2.out
    have hB2 := hb1.trans (hb2.mono hb1.size)
    have Ho2 := Lib.hid ho2
    have Hx2 := Lib.hid (Ho1.out.below hb2)
    clear ho2 hh2
    go_wp2
    go_ret2
    exact ⟨_, _, _, _, rfl, by rw [H0.out.1]; exact KO.nil, H0.out.2.symm, hB2⟩
  have H1 := Lib.hid h1
  have H2 := Lib.hid h2
  cases h3 : mulOk (schT xs) (schT ys)
  · have H0 := Lib.hid (mp_no (show mpB xs ys = false by unfold mpB; rw [h1, h2, h3]; rfl))
    have H3 := Lib.hid h3
    clear h1 h2 h3
    go_enter Tryz.func20, Tryz.ntmps20
    go_wp2_with fail
    refine (implSch_any _ _ _ xs _ hx Hn.out hb hc).mono ?_
    rintro e w1 ⟨a1, n1, c1, r1, rfl, ho1, hh1, hb1⟩
    obtain rfl : r1 = true := by rw [hh1.out]; exact H1.out
    have hy1 := hy.below hb1
    have Ho1 := Lib.hid ho1
    clear ho1 hh1
    go_wp2_with fail
    refine (implSch_any _ _ _ ys _ hy1 Hm.out hb' hd).mono ?_
    rintro e w2 ⟨a2, n2, c2, r2, rfl, ho2, hh2, hb2⟩
    obtain rfl : r2 = true := by rw [hh2.out]; exact H2.out
    have hB2 := hb1.trans (hb2.mono hb1.size)
    have Ho2 := Lib.hid ho2
    have Hx2 := Lib.hid (Ho1.out.below hb2)
    clear ho2 hh2
    have hq1 : n1 ≤ 1048576 := by rw [← Ho1.out.len]; exact schT_len xs
    have hq2 : n2 ≤ 1048576 := by rw [← Ho2.out.len]; exact schT_len ys
    go_wp2_with fail
    refine (implMul_any _ _ _ _ _ _ (schT xs) (schT ys) _ Hx2.out.rd Ho2.out.rd Ho1.out.len Ho2.out.len hq1 hq2).mono ?_
    rintro e w3 ⟨a3, n3, c3, r3, rfl, ho3, hh3, hb3⟩
    obtain rfl : r3 = false := by rw [hh3.out]; exact H3.out
    have hB3 := hB2.trans (hb3.mono hB2.size)
    have Ho3 := Lib.hid ho3
    clear ho3 hh3
    go_wp2
    go_ret2
    exact ⟨_, _, _, _, rfl, by rw [H0.out.1]; exact KO.nil, H0.out.2.symm, hB3⟩
  have H0 := Lib.hid (mp_yes (show mpB xs ys = true by unfold mpB; rw [h1, h2, h3]; rfl))
  have H3 := Lib.hid h3
  clear h1 h2 h3
  go_enter Tryz.func20, Tryz.ntmps20
  go_wp2_with fail
  refine (implSch_any _ _ _ xs _ hx Hn.out hb hc).mono ?_
  rintro e w1 ⟨a1, n1, c1, r1, rfl, ho1, hh1, hb1⟩
  obtain rfl : r1 = true := by rw [hh1.out]; exact H1.out
  have hy1 := hy.below hb1
  have Ho1 := Lib.hid ho1
  clear ho1 hh1
  go_wp2_with fail
  refine (implSch_any _ _ _ ys _ hy1 Hm.out hb' hd).mono ?_
  rintro e w2 ⟨a2, n2, c2, r2, rfl, ho2, hh2, hb2⟩
  obtain rfl : r2 = true := by rw [hh2.out]; exact H2.out
  have hB2 := hb1.trans (hb2.mono hb1.size)
  have Ho2 := Lib.hid ho2
  have Hx2 := Lib.hid (Ho1.out.below hb2)
  clear ho2 hh2
  have hq1 : n1 ≤ 1048576 := by rw [← Ho1.out.len]; exact schT_len xs
  have hq2 : n2 ≤ 1048576 := by rw [← Ho2.out.len]; exact schT_len ys
  go_wp2_with fail
  refine (implMul_any _ _ _ _ _ _ (schT xs) (schT ys) _ Hx2.out.rd Ho2.out.rd Ho1.out.len Ho2.out.len hq1 hq2).mono ?_
  rintro e w3 ⟨a3, n3, c3, r3, rfl, ho3, hh3, hb3⟩
  obtain rfl : r3 = true := by rw [hh3.out]; exact H3.out
  have hB3 := hB2.trans (hb3.mono hB2.size)
  have Ho3 := Lib.hid ho3
  clear ho3 hh3
  have hq3 : n3 ≤ 1048576 := by have := mulT_len (schT xs) (schT ys); rw [Ho3.out.len] at this; omega
  go_wp2_with fail
  refine (implExp_any _ _ _ (mulT (schT xs) (schT ys)) _ Ho3.out.rd Ho3.out.len hq3 (mulT_short _ _)).mono ?_
  rintro e w9 ⟨a9, n9, c9, r9, rfl, ho9, hh9, hb9⟩
  have hB9 := hB3.trans (hb9.mono hB3.size)
  have Ho9 := Lib.hid (ho9.mono (B' := w.heap.size) (S' := w9.heap.size) hB3.size (Nat.le_refl _))
  clear ho9
  go_wp2
  go_ret2
  exact ⟨_, _, _, _, rfl, by rw [H0.out.1]; exact Ho9.out, by rw [H0.out.2]; exact hh9, hB9⟩

set_option maxRecDepth 100000 in
set_option maxHeartbeats 6400000 in
theorem specMulPerms_any (a b : Option Addr) (n c m d : Nat) (xs ys : List Int) (w : World) (hx : RI w a xs) (hy : RI w b ys) (hn : xs.length = n) (hm : ys.length = m) (hb : n ≤ 1048576) (hb' : m ≤ 1048576) (hc : n ≤ c) (hd : m ≤ d) :
    Calls Tryz.prog 21 #[.slice a n c, .slice b m d] w fun e w' => ∃ a' n' c' r, e = .returned (.tuple #[.slice a' n' c', .bool r]) ∧ KN w' w.heap.size w'.heap.size a' n' c' (mpT xs ys) ∧ Hid (r = mpOk xs ys) ∧ Below w.heap.size w w' := by
  have Hn := Lib.hid hn; clear hn
  have Hm := Lib.hid hm; clear hm
  cases h1 : schOk xs
  · have H0 := Lib.hid (mp_no (show mpB xs ys = false by unfold mpB; rw [h1]; rfl))
    have H1 := Lib.hid h1
    obtain ⟨rr, hrr⟩ : ∃ r, schOk ys = r := ⟨_, rfl⟩
    have H2 := Lib.hid hrr
    obtain ⟨rs, hrs⟩ : ∃ r, mulOk (schT xs) (schT ys) = r := ⟨_, rfl⟩
    have H3 := Lib.hid hrs
    clear h1 hrr hrs
    go_enter Tryz.func21, Tryz.ntmps21
    go_wp2_with fail
    refine (specSch_any _ _ _ xs _ hx Hn.out hb hc).mono ?_
    rintro e w1 ⟨a1, n1, c1, r1, rfl, ho1, hh1, hb1⟩
    obtain rfl : r1 = false := by rw [hh1.out]; exact H1.out
    have hy1 := hy.below hb1
    have Ho1 := Lib.hid ho1
    clear ho1 hh1
    go_wp2_with fail
    refine (specSch_any _ _ _ ys _ hy1 Hm.out hb' hd).mono ?_
    rintro e w2 ⟨a2, n2, c2, r2, rfl, ho2, hh2, hb2⟩
    obtain rfl : r2 = rr := by rw [hh2.out]; exact H2.out
    have hB2 := hb1.trans (hb2.mono hb1.size)
    have Ho2 := Lib.hid ho2
    have Hx2 := Lib.hid (Ho1.out.below hb2)
    clear ho2 hh2
    have hq1 : n1 ≤ 1048576 := by rw [← Ho1.out.len]; exact schT_len xs
    have hq2 : n2 ≤ 1048576 := by rw [← Ho2.out.len]; exact schT_len ys
    go_wp2_with fail
    refine (specMul_any _ _ _ _ _ _ (schT xs) (schT ys) _ Hx2.out.rd Ho2.out.rd Ho1.out.len Ho2.out.len hq1 hq2).mono ?_
    rintro e w3 ⟨a3, n3, c3, r3, rfl, ho3, hh3, hb3⟩
    obtain rfl : r3 = rs := by rw [hh3.out]; exact H3.out
    have hB3 := hB2.trans (hb3.mono hB2.size)
    have Ho3 := Lib.hid ho3
    clear ho3 hh3
    go_wp2
    go_ret2
    exact ⟨_, _, _, _, rfl, by rw [H0.out.1]; exact KN.nil, H0.out.2.symm, hB3⟩
  cases h2 : schOk ys
  · have H0 := Lib.hid (mp_no (show mpB xs ys = false by unfold mpB; rw [h1, h2]; rfl))
    have H1 := Lib.hid h1
    have H2 := Lib.hid h2
    obtain ⟨rs, hrs⟩ : ∃ r, mulOk (schT xs) (schT ys) = r := ⟨_, rfl⟩
    have H3 := Lib.hid hrs
    clear h1 h2 hrs
    go_enter Tryz.func21, Tryz.ntmps21
    go_wp2_with fail
    refine (specSch_any _ _ _ xs _ hx Hn.out hb hc).mono ?_
    rintro e w1 ⟨a1, n1, c1, r1, rfl, ho1, hh1, hb1⟩
    obtain rfl : r1 = true := by rw [hh1.out]; exact H1.out
    have hy1 := hy.below hb1
    have Ho1 := Lib.hid ho1
    clear ho1 hh1
    go_wp2_with fail
    refine (specSch_any _ _ _ ys _ hy1 Hm.out hb' hd).mono ?_
    rintro e w2 ⟨a2, n2, c2, r2, rfl, ho2, hh2, hb2⟩
    obtain rfl : r2 = false := by rw [hh2.out]; exact H2.out
    have hB2 := hb1.trans (hb2.mono hb1.size)
    have Ho2 := Lib.hid ho2
    have Hx2 := Lib.hid (Ho1.out.below hb2)
    clear ho2 hh2
    have hq1 : n1 ≤ 1048576 := by rw [← Ho1.out.len]; exact schT_len xs
    have hq2 : n2 ≤ 1048576 := by rw [← Ho2.out.len]; exact schT_len ys
    go_wp2_with fail
    refine (specMul_any _ _ _ _ _ _ (schT xs) (schT ys) _ Hx2.out.rd Ho2.out.rd Ho1.out.len Ho2.out.len hq1 hq2).mono ?_
    rintro e w3 ⟨a3, n3, c3, r3, rfl, ho3, hh3, hb3⟩
    obtain rfl : r3 = rs := by rw [hh3.out]; exact H3.out
    have hB3 := hB2.trans (hb3.mono hB2.size)
    have Ho3 := Lib.hid ho3
    clear ho3 hh3
    go_wp2
    go_ret2
    exact ⟨_, _, _, _, rfl, by rw [H0.out.1]; exact KN.nil, H0.out.2.symm, hB3⟩
  have H1 := Lib.hid h1
  have H2 := Lib.hid h2
  cases h3 : mulOk (schT xs) (schT ys)
  · have H0 := Lib.hid (mp_no (show mpB xs ys = false by unfold mpB; rw [h1, h2, h3]; rfl))
    have H3 := Lib.hid h3
    clear h1 h2 h3
    go_enter Tryz.func21, Tryz.ntmps21
    go_wp2_with fail
    refine (specSch_any _ _ _ xs _ hx Hn.out hb hc).mono ?_
    rintro e w1 ⟨a1, n1, c1, r1, rfl, ho1, hh1, hb1⟩
    obtain rfl : r1 = true := by rw [hh1.out]; exact H1.out
    have hy1 := hy.below hb1
    have Ho1 := Lib.hid ho1
    clear ho1 hh1
    go_wp2_with fail
    refine (specSch_any _ _ _ ys _ hy1 Hm.out hb' hd).mono ?_
    rintro e w2 ⟨a2, n2, c2, r2, rfl, ho2, hh2, hb2⟩
    obtain rfl : r2 = true := by rw [hh2.out]; exact H2.out
    have hB2 := hb1.trans (hb2.mono hb1.size)
    have Ho2 := Lib.hid ho2
    have Hx2 := Lib.hid (Ho1.out.below hb2)
    clear ho2 hh2
    have hq1 : n1 ≤ 1048576 := by rw [← Ho1.out.len]; exact schT_len xs
    have hq2 : n2 ≤ 1048576 := by rw [← Ho2.out.len]; exact schT_len ys
    go_wp2_with fail
    refine (specMul_any _ _ _ _ _ _ (schT xs) (schT ys) _ Hx2.out.rd Ho2.out.rd Ho1.out.len Ho2.out.len hq1 hq2).mono ?_
    rintro e w3 ⟨a3, n3, c3, r3, rfl, ho3, hh3, hb3⟩
    obtain rfl : r3 = false := by rw [hh3.out]; exact H3.out
    have hB3 := hB2.trans (hb3.mono hB2.size)
    have Ho3 := Lib.hid ho3
    clear ho3 hh3
    go_wp2
    go_ret2
    exact ⟨_, _, _, _, rfl, by rw [H0.out.1]; exact KN.nil, H0.out.2.symm, hB3⟩
  have H0 := Lib.hid (mp_yes (show mpB xs ys = true by unfold mpB; rw [h1, h2, h3]; rfl))
  have H3 := Lib.hid h3
  clear h1 h2 h3
  go_enter Tryz.func21, Tryz.ntmps21
  go_wp2_with fail
  refine (specSch_any _ _ _ xs _ hx Hn.out hb hc).mono ?_
  rintro e w1 ⟨a1, n1, c1, r1, rfl, ho1, hh1, hb1⟩
  obtain rfl : r1 = true := by rw [hh1.out]; exact H1.out
  have hy1 := hy.below hb1
  have Ho1 := Lib.hid ho1
  clear ho1 hh1
  go_wp2_with fail
  refine (specSch_any _ _ _ ys _ hy1 Hm.out hb' hd).mono ?_
  rintro e w2 ⟨a2, n2, c2, r2, rfl, ho2, hh2, hb2⟩
  obtain rfl : r2 = true := by rw [hh2.out]; exact H2.out
  have hB2 := hb1.trans (hb2.mono hb1.size)
  have Ho2 := Lib.hid ho2
  have Hx2 := Lib.hid (Ho1.out.below hb2)
  clear ho2 hh2
  have hq1 : n1 ≤ 1048576 := by rw [← Ho1.out.len]; exact schT_len xs
  have hq2 : n2 ≤ 1048576 := by rw [← Ho2.out.len]; exact schT_len ys
  go_wp2_with fail
  refine (specMul_any _ _ _ _ _ _ (schT xs) (schT ys) _ Hx2.out.rd Ho2.out.rd Ho1.out.len Ho2.out.len hq1 hq2).mono ?_
  rintro e w3 ⟨a3, n3, c3, r3, rfl, ho3, hh3, hb3⟩
  obtain rfl : r3 = true := by rw [hh3.out]; exact H3.out
  have hB3 := hB2.trans (hb3.mono hB2.size)
  have Ho3 := Lib.hid ho3
  clear ho3 hh3
  have hq3 : n3 ≤ 1048576 := by have := mulT_len (schT xs) (schT ys); rw [Ho3.out.len] at this; omega
  go_wp2_with fail
  refine (specExp_any _ _ _ (mulT (schT xs) (schT ys)) _ Ho3.out.rd Ho3.out.len hq3 (mulT_short _ _)).mono ?_
  rintro e w9 ⟨a9, n9, c9, r9, rfl, ho9, hh9, hb9⟩
  have hB9 := hB3.trans (hb9.mono hB3.size)
  have Ho9 := Lib.hid (ho9.mono (B' := w.heap.size) (S' := w9.heap.size) hB3.size (Nat.le_refl _))
  clear ho9
  go_wp2
  go_ret2
  exact ⟨_, _, _, _, rfl, by rw [H0.out.1]; exact Ho9.out, by rw [H0.out.2]; exact hh9, hB9⟩

theorem implMP_any (a : Option Addr) (n c : Nat) (xs : List Int) (a' : Option Addr) (n' c' : Nat) (ys : List Int) (w : World) (hr : RI w a xs) (hn : xs.length = n) (hb : n ≤ 1048576) (hc : n ≤ c) (hr' : RI w a' ys) (hn' : ys.length = n') (hb' : n' ≤ 1048576) (hc' : n' ≤ c') :
    Calls Tryz.prog 20 #[.slice a n c, .slice a' n' c'] w fun e w' => ∃ a' n' c' r, e = .returned (.tuple #[.slice a' n' c', .bool r]) ∧ KO w' w.heap.size w'.heap.size a' n' c' (mpT xs ys) ∧ Hid (r = mpOk xs ys) ∧ Below w.heap.size w w' :=
  (implMulPerms_any a a' n c n' c' xs ys w hr hr' hn hn' hb hb' hc hc').mono fun _ _ h => h
theorem specMP_any (a : Option Addr) (n c : Nat) (xs : List Int) (a' : Option Addr) (n' c' : Nat) (ys : List Int) (w : World) (hr : RI w a xs) (hn : xs.length = n) (hb : n ≤ 1048576) (hc : n ≤ c) (hr' : RI w a' ys) (hn' : ys.length = n') (hb' : n' ≤ 1048576) (hc' : n' ≤ c') :
    Calls Tryz.prog 21 #[.slice a n c, .slice a' n' c'] w fun e w' => ∃ a' n' c' r, e = .returned (.tuple #[.slice a' n' c', .bool r]) ∧ KN w' w.heap.size w'.heap.size a' n' c' (mpT xs ys) ∧ Hid (r = mpOk xs ys) ∧ Below w.heap.size w w' :=
  (specMulPerms_any a a' n c n' c' xs ys w hr hr' hn hn' hb hb' hc hc').mono fun _ _ h => h
end Go.Proofs.YtomejjbkakpoiaaGreat
