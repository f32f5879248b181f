/-
  A polynomial taken apart into Schubert polynomials, from its greatest term down: plain.
  ExpandPoly of the program.
  ExpandPoly of the reference.
-/
import Derived.Test.YtocgcgmlemoekaaGreatDecLaw
import Derived.Test.YtocgcgmlemoekaaGreatClsPoly
import Derived.Test.YtocgcgmlemoekaaGreatAscK
import Derived.Test.YtocgcgmlemoekaaGreatFirst
import Derived.Test.YtocgcgmlemoekaaGreatPocNo
import Derived.Test.YtocgcgmlemoekaaGreatL3Add
import Derived.Deep.RegionHeld3
namespace Go.Proofs.YtocgcgmlemoekaaGreat
open Go.RowKit

def natDigs (k : Int) : List Nat := (List.range 7).map fun i => (dig k i).toNat
theorem digs_nat (k : Int) : digs k = natL (natDigs k) := by
  unfold digs natL natDigs
  rw [List.map_map]
  refine List.map_congr_left fun i _ => ?_
  have := (dig_range k i).1
  simp only [Function.comp]
  omega
/-- the exponents are a code -/
def stOk (k : Int) : Bool := (List.range 7).all fun i : Nat => decide (dig k i ≤ 6 - (i : Int))
theorem stOk_at {k : Int} (h : stOk k = true) {i : Nat} (hi : i < 7) : dig k i ≤ 6 - (i : Int) := by
  unfold stOk at h
  rw [List.all_eq_true] at h
  simpa using h i (List.mem_range.2 hi)
theorem stOk_no {k : Int} (h : stOk k = false) : ∃ i : Nat, i < 7 ∧ 6 - (i : Int) < dig k i ∧ ∀ j, j < i → dig k j ≤ 6 - (j : Int) := by
  have hex : ∃ i : Nat, i < 7 ∧ 6 - (i : Int) < dig k i := by
    unfold stOk at h
    rw [List.all_eq_false] at h
    obtain ⟨i, hi, hd⟩ := h
    exact ⟨i, List.mem_range.1 hi, by simpa using hd⟩
  have : ∀ n i : Nat, i ≤ n → i < 7 → 6 - (i : Int) < dig k i → ∃ i : Nat, i < 7 ∧ 6 - (i : Int) < dig k i ∧ ∀ j, j < i → dig k j ≤ 6 - (j : Int) := by
    intro n
    induction n with
    | zero =>
      intro i hi h7 hd
      exact ⟨i, h7, hd, fun j hj => by omega⟩
    | succ n ih =>
      intro i hi h7 hd
      by_cases hall : ∀ j, j < i → dig k j ≤ 6 - (j : Int)
      · exact ⟨i, h7, hd, hall⟩
      · obtain ⟨j, hj⟩ := Classical.not_forall.1 hall
        obtain ⟨hji, hdj⟩ := Classical.not_imp.1 hj
        exact ih j (by omega) (by omega) (by omega)
  obtain ⟨i, h7, hd⟩ := hex
  exact this i i (Nat.le_refl _) h7 hd
theorem stOk_code {k : Int} (h : stOk k = true) : CodeOk (natDigs k) := by
  have h0 := stOk_at h (i := 0) (by omega)
  have h1 := stOk_at h (i := 1) (by omega)
  have h2 := stOk_at h (i := 2) (by omega)
  have h3 := stOk_at h (i := 3) (by omega)
  have h4 := stOk_at h (i := 4) (by omega)
  have h5 := stOk_at h (i := 5) (by omega)
  have h6 := stOk_at h (i := 6) (by omega)
  have e : natDigs k = [(dig k 0).toNat, (dig k 1).toNat, (dig k 2).toNat, (dig k 3).toNat, (dig k 4).toNat, (dig k 5).toNat, (dig k 6).toNat] := rfl
  rw [e]
  simp only [CodeOk, List.length_cons, List.length_nil]
  refine ⟨?_, ?_, ?_, ?_, ?_, ?_, ?_, trivial⟩ <;> omega
/-- the permutation of seven of a code -/
def pOf (k : Int) : List Int := pcL (ident 7) (natDigs k)
theorem natDigs_length (k : Int) : (natDigs k).length = 7 := by simp [natDigs]
theorem pOf_decode {k : Int} (h : stOk k = true) : decode (digs k) = pOf k := by
  rw [digs_nat, decode_eq (stOk_code h), natDigs_length]
  rfl
theorem pOf_poc (k : Int) : (poc 7 (digs k) 7).2 = pOf k := by
  rw [digs_nat, poc_eq (natDigs_length k)]
  rfl
theorem pOf_perm {k : Int} (h : stOk k = true) : (pOf k).Perm (ident 7) := pcL_perm (by rw [ident_length, natDigs_length]) (stOk_code h)
theorem pOf_length {k : Int} (h : stOk k = true) : (pOf k).length = 7 := by rw [(pOf_perm h).length_eq, ident_length]
theorem pOf_pm {k : Int} (h : stOk k = true) : Pm (pOf k) 7 := by
  have hl := pOf_length h
  have ht : (pOf k).take 7 = pOf k := List.take_of_length_le (by omega)
  refine ⟨by omega, ?_, fun x hx => ?_⟩
  · rw [ht, (pOf_perm h).nodup_iff]; exact ident_nodup 7
  · rw [ht, (pOf_perm h).mem_iff] at hx
    unfold ident at hx
    obtain ⟨i, hi, rfl⟩ := List.mem_map.1 hx
    rw [List.mem_range] at hi
    omega
theorem Pm.perm {xs : List Int} {m : Nat} (h : Pm xs m) (h1 : 1 ≤ m) (h7 : m ≤ 7) : isPerm (xs.take m) = true := by
  obtain ⟨hm, hn, hb⟩ := h
  have hl : (xs.take m).length = m := by rw [List.length_take]; omega
  rw [isPerm_iff, hl]
  exact ⟨h1, h7, hb, hn⟩
theorem pOf_isPerm {k : Int} (h : stOk k = true) : isPerm (pOf k) = true := by
  have := (pOf_pm h).perm (by omega) (Nat.le_refl _)
  rwa [List.take_of_length_le (by rw [pOf_length h]; exact Nat.le_refl _)] at this
theorem cK_pOf {k : Int} (h : stOk k = true) (hk : inK k) : cK (pOf k) = k := by
  unfold cK pOf
  rw [cod_pcL (by rw [ident_length, natDigs_length]) (stOk_code h) (ident_sorted 7), ← digs_nat, keyL_digs hk]
/-- without what is not moved at the end -/
def tOf (k : Int) : List Int := (pOf k).take (trimLen (pOf k) 7)
theorem trimLen_pos (xs : List Int) : ∀ m, 1 ≤ m → 1 ≤ trimLen xs m := by
  intro m
  induction m with
  | zero => intro h; omega
  | succ m ih =>
    intro _
    rcases m with _ | m
    · exact Nat.le_refl _
    · rw [trimLen]
      split
      · exact ih (by omega)
      · omega
theorem tOf_pm {k : Int} (h : stOk k = true) : Pm (pOf k) (trimLen (pOf k) 7) := (cK_trim (pOf_pm h)).2
theorem tOf_length {k : Int} (h : stOk k = true) : (tOf k).length = trimLen (pOf k) 7 := by
  unfold tOf
  rw [List.length_take, pOf_length h]
  have := trimLen_le (pOf k) 7
  omega
theorem tOf_bound {k : Int} (h : stOk k = true) : 1 ≤ (tOf k).length ∧ (tOf k).length ≤ 7 := by
  rw [tOf_length h]
  exact ⟨trimLen_pos _ 7 (by omega), trimLen_le _ 7⟩
theorem tOf_isPerm {k : Int} (h : stOk k = true) : isPerm (tOf k) = true := by
  have := tOf_bound h
  rw [tOf_length h] at this
  exact (tOf_pm h).perm this.1 this.2
theorem tOf_trim {k : Int} (h : stOk k = true) : trimLen (tOf k) (tOf k).length = (tOf k).length := by
  rw [tOf_length h]
  unfold tOf
  rw [trimLen_take _ _ _ (Nat.le_refl _), trimLen_idem]
theorem cK_tOf {k : Int} (h : stOk k = true) (hk : inK k) : cK (tOf k) = k := by
  have h1 := (cK_trim (pOf_pm h)).1
  rw [List.take_of_length_le (i := 7) (by rw [pOf_length h]; exact Nat.le_refl _), cK_pOf h hk] at h1
  exact h1
theorem schOf_tOf {k : Int} (h : stOk k = true) : schOf (tOf k) = schM (tOf k) (tOf k).length := by
  unfold schOf
  rw [tOf_trim h, List.take_length]
theorem schOf_pOf {k : Int} (h : stOk k = true) : schOf (pOf k) = schM (tOf k) (tOf k).length := by
  unfold schOf
  rw [pOf_length h, tOf_length h]
  rfl
theorem leads_tOf {k : Int} (h : stOk k = true) (hk : inK k) : Leads (schM (tOf k) (tOf k).length) k fun m => m < k := by
  have hb := tOf_bound h
  have hn : (tOf k).Nodup := ((isPerm_iff _).1 (tOf_isPerm h)).2.2.2
  have := schub_leads hn hb.2
  rw [cK_tOf h hk] at this
  exact this

/-! the steps -/
theorem scale_wrap (c : Int) (G : Mons) : Eqv (scaleM (wrap64 c) G) (scaleM c G) := Eqv.of_wsum fun v => by
  have e : ∀ c : Int, wsum (scaleM c G) v = c * wsum G v := by
    intro c
    unfold scaleM
    induction G with
    | nil => simp [wsum]
    | cons a G ih => rw [List.map_cons, wsum, ih, wsum, Int.mul_add, Int.mul_assoc]
  rw [e, e, ← Int.sub_mul]
  refine Int.dvd_mul_of_dvd_left ?_
  have := wrap_dvd c
  have e2 : wrap64 c - c = -(c - wrap64 c) := by omega
  rw [e2]
  exact Int.dvd_neg.2 this
theorem plus_wrap (F : Mons) (c : Int) (G : Mons) : Eqv (plusM F (wrap64 c) G) (plusM F c G) := (Eqv.refl F).append (scale_wrap c G)
/-- what is left when the class of the greatest term is taken away -/
def exNext (F : Mons) (k c : Int) : Mons := canon (plusM F (-c) (schM (tOf k) (tOf k).length))
def exTo : Nat → Mons → List (List Int × Int) → Option (List (List Int × Int))
  | 0, _, _ => none
  | _ + 1, [], L => some L
  | f + 1, (k, c) :: F, L => if stOk k = true ∧ L.length < 100 then exTo f (exNext ((k, c) :: F) k c) (L ++ [(tOf k, c)]) else none
theorem exTo_nil (f : Nat) (L : List (List Int × Int)) : exTo (f + 1) [] L = some L := rfl
theorem exTo_bad {f : Nat} {k c : Int} {F : Mons} {L : List (List Int × Int)} (h : stOk k = false ∨ ¬ L.length < 100) : exTo (f + 1) ((k, c) :: F) L = none := by
  rw [exTo, if_neg]
  rcases h with h | h
  · rw [h]; simp
  · exact fun e => h e.2
theorem exTo_step {f : Nat} {k c : Int} {F : Mons} {L : List (List Int × Int)} (h : stOk k = true) (h' : L.length < 100) : exTo (f + 1) ((k, c) :: F) L = exTo f (exNext ((k, c) :: F) k c) (L ++ [(tOf k, c)]) := by
  rw [exTo, if_pos ⟨h, h'⟩]
structure ExInv (F : Mons) (L : List (List Int × Int)) : Prop where
  canon : canon F = F
  bd : Bd 24 F
  keys : ∃ Ks : Mons, L = Ks.map (fun q => (tOf q.1, q.2)) ∧ (Ks.Pairwise fun a b => b.1 < a.1) ∧ (∀ q ∈ Ks, stOk q.1 = true ∧ inK q.1) ∧ ∀ p ∈ F, ∀ q ∈ Ks, p.1 < q.1
theorem canon_canon (F : Mons) : canon (canon F) = canon F := canon_eqv (canon_self F)
theorem ExInv.start {F : Mons} (h : Bd 24 F) : ExInv (Go.Proofs.YtocgcgmlemoekaaGreat.canon F) [] := ⟨canon_canon F, h.canon, [], rfl, List.Pairwise.nil, by simp, by simp⟩
theorem ExInv.head {k c : Int} {F : Mons} {L : List (List Int × Int)} (h : ExInv ((k, c) :: F) L) : inK k ∧ in64 c ∧ c ≠ 0 ∧ coef ((k, c) :: F) k = c ∧ ∀ p ∈ (k, c) :: F, p.1 ≤ k := by
  have hm : (k, c) ∈ Go.Proofs.YtocgcgmlemoekaaGreat.canon ((k, c) :: F) := by rw [h.canon]; exact List.mem_cons_self
  obtain ⟨h1, h2⟩ := canon_mem.1 hm
  have hs := canon_sorted ((k, c) :: F)
  rw [h.canon] at hs
  refine ⟨(h.bd _ List.mem_cons_self).1, canon_64 _ _ hm, h1, h2.symm, fun p hp => ?_⟩
  rcases List.mem_cons.1 hp with rfl | hp
  · exact Int.le_refl _
  · exact Int.le_of_lt (List.rel_of_pairwise_cons hs hp)
theorem ExInv.next {k c : Int} {F : Mons} {L : List (List Int × Int)} (h : ExInv ((k, c) :: F) L) (hs : stOk k = true) : ExInv (exNext ((k, c) :: F) k c) (L ++ [(tOf k, c)]) := by
  obtain ⟨hk, hc, h0, hcf, hle⟩ := h.head
  obtain ⟨Ks, hL, hd, hall, hbelow⟩ := h.keys
  have hlead := leads_tOf hs hk
  have hlt := lead_taken hle hcf hlead
  have hb7 : B7 (schM (tOf k) (tOf k).length) := sch_b7 _ (tOf_bound hs).2 rfl
  refine ⟨canon_canon _, (h.bd.plus hb7.bd).canon, Ks ++ [(k, c)], by rw [hL]; simp, ?_, fun q hq => ?_, fun p hp q hq => ?_⟩
  · rw [List.pairwise_append]
    refine ⟨hd, List.pairwise_singleton _ _, fun a ha b hb => ?_⟩
    rw [List.mem_singleton] at hb
    subst hb
    exact hbelow _ List.mem_cons_self a ha
  · rcases List.mem_append.1 hq with hq | hq
    · exact hall q hq
    · rw [List.mem_singleton] at hq; subst hq; exact ⟨hs, hk⟩
  · have h1 := hlt p hp
    rcases List.mem_append.1 hq with hq | hq
    · have h2 := hbelow _ List.mem_cons_self q hq
      simp only at h2
      omega
    · rw [List.mem_singleton] at hq; subst hq; exact h1
theorem ExInv.apart {F : Mons} {L : List (List Int × Int)} (h : ExInv F L) : GoodK L := by
  obtain ⟨Ks, hL, hd, hall, _⟩ := h.keys
  subst hL
  refine ⟨fun p hp => ?_, fun i j p q hp hq he => ?_⟩
  · obtain ⟨r, hr, rfl⟩ := List.mem_map.1 hp
    have := (tOf_bound (hall r hr).1).2
    show (tOf r.1).length ≤ _
    omega
  · rw [List.getElem?_map] at hp hq
    obtain ⟨r, hr, rfl⟩ := Option.map_eq_some_iff.1 hp
    obtain ⟨s, hs, rfl⟩ := Option.map_eq_some_iff.1 hq
    simp only at he
    have h1 := hall r (List.mem_of_getElem? hr)
    have h2 := hall s (List.mem_of_getElem? hs)
    have e : r.1 = s.1 := by rw [← cK_tOf h1.1 h1.2, ← cK_tOf h2.1 h2.2, he]
    obtain ⟨hi, rfl⟩ := List.getElem?_eq_some_iff.1 hr
    obtain ⟨hj, rfl⟩ := List.getElem?_eq_some_iff.1 hs
    have hpw := List.pairwise_iff_getElem.1 hd
    rcases Nat.lt_trichotomy i j with h | h | h
    · have := hpw i j hi hj h; omega
    · exact h
    · have := hpw j i hj hi h; omega
/-- the permutation of the greatest term is not there yet -/
theorem ExInv.fresh {k c : Int} {F : Mons} {L : List (List Int × Int)} (h : ExInv ((k, c) :: F) L) (hs : stOk k = true) : ∀ q ∈ L, q.1 ≠ tOf k := by
  obtain ⟨Ks, hL, _, hall, hbelow⟩ := h.keys
  obtain ⟨hk, _⟩ := h.head
  subst hL
  intro q hq e
  obtain ⟨r, hr, rfl⟩ := List.mem_map.1 hq
  have h1 := hall r hr
  have h2 := hbelow _ List.mem_cons_self r hr
  simp only at e h2
  have : r.1 = k := by rw [← cK_tOf h1.1 h1.2, e, cK_tOf hs hk]
  omega

/-! what ExpandPoly gives -/
def exM (F : Mons) : Option (List (List Int × Int)) := exTo 101 (canon F) []
def expT (xs : List (List Int × Int)) : List (List Int × Int) := if polyOk xs = true then match exM (monsOf xs) with | some L => if classesOk (sortK L) = true then sortK L else [] | none => [] else []
def expOk (xs : List (List Int × Int)) : Bool := polyOk xs && match exM (monsOf xs) with | some L => classesOk (sortK L) | none => false
theorem exp_no {xs : List (List Int × Int)} (h : polyOk xs = false) : expT xs = [] ∧ expOk xs = false := by unfold expT expOk; rw [h]; exact ⟨rfl, rfl⟩
theorem exp_none {xs : List (List Int × Int)} (h : exM (monsOf xs) = none) : expT xs = [] ∧ expOk xs = false := by unfold expT expOk; rw [h]; exact ⟨by split <;> rfl, by simp⟩
theorem exp_some {xs L : List (List Int × Int)} (h : polyOk xs = true) (h' : exM (monsOf xs) = some L) : (classesOk (sortK L) = true → expT xs = sortK L ∧ expOk xs = true) ∧ (classesOk (sortK L) = false → expT xs = [] ∧ expOk xs = false) := by
  unfold expT expOk
  rw [h, h']
  constructor
  · intro hc; simp [hc]
  · intro hc; simp [hc]
theorem expT_cases (xs : List (List Int × Int)) : expT xs = [] ∨ classesOk (expT xs) = true := by
  unfold expT
  split
  · split
    · split
      · rename_i h; exact .inr h
      · exact .inl rfl
    · exact .inl rfl
  · exact .inl rfl
theorem expT_len (xs : List (List Int × Int)) : (expT xs).length ≤ 1048576 := by
  rcases expT_cases xs with e | h
  · rw [e]; exact Nat.zero_le _
  · have := classes_len h; omega
theorem expT_short (xs : List (List Int × Int)) : ∀ p ∈ expT xs, p.1.length ≤ 1048576 := by
  rcases expT_cases xs with e | h
  · rw [e]; simp
  · intro p hp
    obtain ⟨i, hi⟩ := List.getElem?_of_mem hp
    have := (classes_each h hi).2
    omega
theorem expT_sz (xs : List (List Int × Int)) : sz_K (expT xs) ≤ 1099511627776 := by
  rcases expT_cases xs with e | h
  · rw [e]; exact Nat.zero_le _
  · have h1 := sz_T_bound (L := expT xs) (B := 7) fun p hp => by
      obtain ⟨i, hi⟩ := List.getElem?_of_mem hp
      exact (classes_each h hi).2
    have := classes_len h
    show sz_T (expT xs) ≤ _
    omega
end Go.Proofs.YtocgcgmlemoekaaGreat

namespace Go.Proofs.YtocgcgmlemoekaaGreat
open Go.RowKit Go.MapKept Go.ChangeMaps

theorem PF.besideK {w w' : World} {b B S n c : Nat} {F : Mons} {a : Option Addr} {xs : List (List Int × Int)} (h : PF w b F) (ho : KO w B S a n c xs) (hg : w.grownBy w' (Value.slice a n c).ownBlock) : PF w' b F := by
  refine h.kept hg fun e => ?_
  obtain ⟨vs, h1, _⟩ := ho
  obtain ⟨l, ⟨es, clock, hb, _⟩, _⟩ := h
  rcases row2_shape h1 with ⟨_, rfl, _⟩ | ⟨g, rfl, _, _, _, _, cur, hcur⟩
  · simp [Value.ownBlock] at e
  · simp only [Value.ownBlock, Option.some.injEq] at e
    subst e
    rw [hcur] at hb
    simp at hb
theorem digs_at_lt {k : Int} {j : Nat} {x : Int} (h : (digs k)[j]? = some x) : j < 7 ∧ x = dig k j := by
  have hj := lt_of_some h
  rw [digs_length] at hj
  rw [digs_at hj] at h
  exact ⟨hj, (Option.some.inj h).symm⟩
theorem exNext_pf {w : World} {r : Nat} {F : Mons} {k c c' : Int} {m : Nat} {p : List Int} (h : PF w r (plusM F c' (schM (p.take (trimLen p m)) (trimLen p m)))) (hc : c' = wrap64 (-c)) (hp : p = tOf k) (hm : m = p.length) (hs : stOk k = true) : PF w r (exNext F k c) := by
  subst hc hm hp
  rw [tOf_trim hs, List.take_length] at h
  exact h.eqv ((plus_wrap F (-c) _).trans (canon_self _).symm)
set_option maxRecDepth 100000 in
set_option maxHeartbeats 6400000 in
theorem implExp_post (a : Option Addr) (n c : Nat) (xs : List (List Int × Int)) (w : World) (hr : RP w a xs) (hn : xs.length = n) (hb : n ≤ 1048576) :
    Calls Tryz.prog 17 #[.slice a n c] w (PostK w (expT xs) (expOk xs)) := by
  have Hn := Lib.hid hn
  cases hok : polyOk xs
  · have H0 := Lib.hid (exp_no hok)
    have Hok := Lib.hid hok
    clear hok hn
    go_enter Tryz.func17, Tryz.ntmps17
    go_wp2_with fail
    refine (is (implPolyOk_any _ _ _ xs _ hr Hn.out hb) Hok.out).mono ?_
    rintro e w1 ⟨rfl, hB1⟩
    go_wp2
    go_ret2
    exact ⟨_, _, _, _, rfl, by rw [H0.out.1]; exact KO.nil, H0.out.2.symm, hB1⟩
  have Hok := Lib.hid hok
  have HBd := Lib.hid (polyOk_mons hok)
  have q22 : ∀ (w : World) (a : Option Addr) (n c n' c' : Nat), (binOp .eql 22 (.slice a n c) (.slice none n' c')).run Tryz.prog w = .ok (.bool a.isNone) w := fun w a n c n' c' => Lib.run_eql_slice_nil w _ _ a n c n' c' Tryz.underlying22
  clear hok hn
  go_enter Tryz.func17, Tryz.ntmps17
  go_wp2_with fail
  refine (is (implPolyOk_any _ _ _ xs _ hr Hn.out hb) Hok.out).mono ?_
  rintro e w1 ⟨rfl, hB1⟩
  have hr1 := hr.below hB1
  go_wp2_with fail
  refine (open_any _ _ _ xs _ hr1 Hn.out Hok.out).mono ?_
  rintro e w2 ⟨r2, rfl, _, hF2, hb2⟩
  have hB2 := hB1.trans (hb2.mono hB1.size)
  have hBa : Below w2.heap.size w2 (w2.alloc (.cells #[] 38)) := (Below.refl _ _).alloc (Nat.le_refl _) _
  have HF0 := Lib.hid ((hF2.eqv (canon_self (monsOf xs)).symm).below hBa)
  have HK0 := Lib.hid ((KO.made w2).mono (B' := w.heap.size) (S' := (w2.alloc (.cells #[] 38)).heap.size) hB2.size (Nat.le_refl _))
  have hB3 := hB2.trans (hBa.mono hB2.size)
  clear hF2 hb2 hBa hB1 hB2 hr1
  go_wp2
  go_loopw [4, 5] (fun rv ov wr => Hid (∃ (r : Nat) (F L : Mons) (CL : List (List Int × Int)) (a1 : Option Addr) (m c1 : Nat), rv = .map (some r) ∧ ov = .slice a1 m c1 ∧ m ≤ 100 ∧ L = [] ∧ PF wr r F ∧ KO wr w.heap.size wr.heap.size a1 m c1 CL ∧ ExInv F CL ∧ exM (monsOf xs) = exTo (101 - m) F CL) ∧ Below w.heap.size w wr) (fun _ ov _ => 101 - lenOf ov)
  case atStart => exact ⟨⟨r2, _, [], [], _, 0, _, rfl, rfl, by omega, rfl, HF0.out, HK0.out, ExInv.start HBd.out, rfl⟩, hB3⟩
  case round =>
    clear HF0 HK0 hB3
    obtain ⟨HV, hB⟩ := hrel
    obtain ⟨wo, rfl⟩ : ∃ wo : World, wo = wr := ⟨_, rfl⟩
    obtain ⟨r, F, _, CL, a1, m, c1, rfl, rfl, hm, _, hF, hK, hI, hex⟩ := HV.out
    clear HV
    have hlenF := fun ty => hF.length ty
    rw [hI.canon] at hlenF
    obtain ⟨f, hf⟩ : ∃ f, 101 - m = f + 1 := ⟨100 - m, by omega⟩
    have Hcl := Lib.hid hK.len
    have HI := Lib.hid hI
    have Hex := Lib.hid hex
    rw [hf] at Hex
    cases F with
    | nil =>
      have HS := Lib.hid (exp_some Hok.out (Hex.out.trans (exTo_nil f CL)))
      have HG := Lib.hid hI.apart
      have HK := Lib.hid hK
      have hcb : m ≤ 1048576 := by omega
      have hDst := hI.apart.dst
      clear hF hK hI hex q22
      go_wp2_with fail
      refine (sortCls_any _ _ _ _ _ CL _ HK.out HG.out hcb).mono ?_
      rintro e w5 ⟨rfl, ys, hperm, hasc, hK5, hO5⟩
      have hys : ys = sortK CL := asc_unique hasc (sortK_asc hDst) (hperm.trans (sortK_perm CL).symm)
      subst hys
      have hB5 := hO5.below hB (Nat.le_refl _) hB.size
      have hz5 := hO5.size
      have HK5 := Lib.hid (hK5.mono (B' := w.heap.size) (S' := w5.heap.size) (Nat.le_refl _) hz5)
      have HShs := Lib.hid (show Short_P (sortK CL) from fun p hp => HG.out.each p ((sortK_perm CL).mem_iff.1 hp))
      have Hsl := Lib.hid hK5.len
      clear hK5 hperm hasc hDst hO5
      cases hc : classesOk (sortK CL)
      · have Hc := Lib.hid hc
        have HR := Lib.hid (HS.out.2 hc)
        clear hc
        go_wp2_with fail
        refine (is (implClassesOk_any _ _ _ (sortK CL) _ HK5.out.rd Hsl.out hcb HShs.out) Hc.out).mono ?_
        rintro e w6 ⟨rfl, hb6⟩
        have hB6 := hB5.trans (hb6.mono hB5.size)
        go_wp2
        go_ret2
        exact ⟨_, _, _, _, rfl, by rw [HR.out.1]; exact KO.nil, HR.out.2.symm, hB6⟩
      · have Hc := Lib.hid hc
        have HR := Lib.hid (HS.out.1 hc)
        clear hc
        go_wp2_with fail
        refine (is (implClassesOk_any _ _ _ (sortK CL) _ HK5.out.rd Hsl.out hcb HShs.out) Hc.out).mono ?_
        rintro e w6 ⟨rfl, hb6⟩
        have hB6 := hB5.trans (hb6.mono hB5.size)
        have HK6 := Lib.hid ((HK5.out.below hb6).mono (B' := w.heap.size) (S' := w6.heap.size) (Nat.le_refl _) hb6.size)
        go_wp2
        go_ret2
        exact ⟨_, _, _, _, rfl, by rw [HR.out.1]; exact HK6.out, HR.out.2.symm, hB6⟩
    | cons p F =>
      obtain ⟨k, cc⟩ := p
      obtain ⟨hk, hc64, hc0, hcf, hle⟩ := hI.head
      have Hfirst := Lib.hid (first_any r ((k, cc) :: F) wo hF hI.canon)
      have HF := Lib.hid (fun w2 (h : Below wo.heap.size wo w2) => hF.below h)
      have HK := Lib.hid (fun w2 (h : Below wo.heap.size wo w2) => hK.below h)
      have Hcf := Lib.hid hcf
      have q1 : (0 : Int) < ((((k, cc) :: F).length : Nat) : Int) := by simp only [List.length_cons]; omega
      clear hF hK hI hex hle hcf
      go_wp2_with fail
      refine Hfirst.out.mono ?_
      rintro e w3 ⟨rfl, hb3⟩
      have hz3 := hb3.size
      unfold kV
      obtain ⟨W1, hW1⟩ : ∃ W1, w3.alloc (.cells (cells7 k) 53) = W1 := ⟨_, rfl⟩
      have g0 : W1.heap[w3.heap.size]? = some (.cells (cells7 k) 53) := by rw [← hW1]; exact heap_alloc_new w3 _
      have hBW1 : Below w3.heap.size w3 W1 := by rw [← hW1]; exact (Below.refl _ _).alloc (Nat.le_refl _) _
      have hbW := hb3.trans (hBW1.mono hz3)
      have hri := cells7_ri g0
      have hzW : w3.heap.size < W1.heap.size := (Array.getElem?_eq_some_iff.1 g0).1
      unfold cells7 at hW1
      cases hs : stOk k
      · have HR := Lib.hid (exp_none (xs := xs) (Hex.out.trans (exTo_bad (.inl hs))))
        obtain ⟨i0, hi7, hbad, hgood⟩ := stOk_no hs
        have Hg := Lib.hid (show ∀ (j : Nat) (x : Int), j < i0 → (digs k)[j]? = some x → 0 ≤ x ∧ x < ((7 : Nat) : Int) - j from fun j x hj hx => by
          obtain ⟨_, rfl⟩ := digs_at_lt hx
          have := hgood j hj
          have := (dig_range k j).1
          omega)
        have Hat := Lib.hid (digs_at (k := k) hi7)
        have hbad' : ((7 : Nat) : Int) - i0 ≤ dig k i0 := by omega
        have hBW := hB.trans (hbW.mono hB.size)
        have Hri := Lib.hid hri
        clear hgood hs g0 hri
        go_wp2_with fail
        refine (permOfCode_no _ 7 _ (digs k) _ Hri.out (digs_length k) (by omega) i0 _ hi7 Hat.out hbad' Hg.out).mono ?_
        rintro e w4 ⟨rfl, hb4⟩
        have hB4 := hBW.trans (hb4.mono hBW.size)
        go_wp2_with fail
        refine (implTrim_none _).mono ?_
        rintro e w5 ⟨rfl, hb5⟩
        have hB5 := hB4.trans (hb5.mono hB4.size)
        go_wp2
        go_ret2
        exact ⟨_, _, _, _, rfl, by rw [HR.out.1]; exact KO.nil, HR.out.2.symm, hB5⟩
      · have Hs := Lib.hid hs
        have Hg := Lib.hid (show ∀ (j : Nat) (x : Int), (digs k)[j]? = some x → 0 ≤ x ∧ x < ((7 : Nat) : Int) - j from fun j x hx => by
          obtain ⟨hj, rfl⟩ := digs_at_lt hx
          have := stOk_at hs hj
          have := (dig_range k j).1
          omega)
        have Hri := Lib.hid hri
        have Htb := Lib.hid (tOf_bound hs)
        clear hs hri
        go_wp2_with fail
        refine (permOfCode_any _ 7 _ (digs k) _ Hri.out (digs_length k) (by omega) Hg.out).mono ?_
        rintro e w4 ⟨a4, c4, rfl, ho4, hb4⟩
        rw [pOf_poc] at ho4
        have hbw4 := hbW.trans (hb4.mono hbW.size)
        have Ho4 := Lib.hid ho4
        clear ho4
        go_wp2_with fail
        refine (implTrim_any _ 7 _ (pOf k) _ Ho4.out.rd Ho4.out.len (by omega) Ho4.out.1.lt (pOf_isPerm Hs.out)).mono ?_
        rintro e w5 ⟨a5, c5, rfl, ho5, hb5⟩
        have hbw5 := hbw4.trans (hb5.mono hbw4.size)
        have hz5 := hbw5.size
        have Hl5 := Lib.hid (tOf_length Hs.out)
        obtain ⟨l, hl⟩ : ∃ l, trimLen (pOf k) 7 = l := ⟨_, rfl⟩
        have ho5' : OwI w5 w4.heap.size w5.heap.size a5 l c5 (tOf k) := by unfold tOf; rw [hl] at ho5 ⊢; exact ho5
        rw [hl] at Hl5 ⊢
        have hl1 : 1 ≤ l := by have := Htb.out.1; rw [Hl5.out] at this; exact this
        have hl7 : l ≤ 7 := by have := Htb.out.2; rw [Hl5.out] at this; exact this
        obtain ⟨g5, rfl, _⟩ := OI.cons ho5'.1 (j := 0) (by omega)
        have Ho5 := Lib.hid (ho5'.mono (B' := wo.heap.size) (S' := w5.heap.size) hbw4.size (Nat.le_refl _))
        have g5c : w5.heap[w3.heap.size]? = some (.cells (cells7 k) 53) := by
          rw [hb5.block _ (Nat.lt_of_lt_of_le hzW hb4.size), hb4.block _ hzW]
          exact g0
        obtain ⟨x0, x1, x2, x3, x4, x5, x6⟩ := cells7_at g5c
        have hlook := (HF.out w5 hbw5).look hk
        unfold kV at hlook
        rw [Hcf.out] at hlook
        have hB5 := hB.trans (hbw5.mono hB.size)
        have HF5 := Lib.hid (fun w2 (h : Below w5.heap.size w5 w2) => HF.out w2 (hbw5.trans (h.mono hz5)))
        have HK5 := Lib.hid (HK.out w5 hbw5)
        clear ho5 ho5' hl g0 g5c hb5 hb4 HF HK hb3 hBW1 hbW hbw4
        by_cases h100 : m < 100
        · have hne : ((m : Int) == 100) = false := by simp; omega
          have hbs := hB.size
          have Hexn := Lib.hid (Hex.out.trans (exTo_step Hs.out (by rw [Hcl.out]; exact h100)))
          have HIn := Lib.hid (HI.out.next Hs.out)
          have hm1 : m + 1 ≤ 1048576 := by omega
          go_wp2_with (first | (at_builtin; go_loud (refine wpList_pushTK (by rfl) (by rfl) _ _ (by rfl) HK5.out (by rfl) Ho5.out hbs (by rfl) (by rfl) hm1 (by omega) hz5 (Nat.le_refl _) ?_)))
          intro a6 c6 w6 ho6 hg6
          have hB6 := below_grown (v := .slice a1 m c1) hB5 hg6 (Nat.le_trans hbs hz5) HK5.out.lo
          have HF6 := Lib.hid ((HF5.out w5 (Below.refl _ _)).besideK HK5.out hg6)
          have Ho6 := Lib.hid (KN.keep HK5.out.kn Ho5.out hg6)
          have HO6 := Lib.hid ho6
          have hneg : IntKind.i64.wrap (-cc) = wrap64 (-cc) := IntWalk.i64_left _
          obtain ⟨cn, hcn⟩ : ∃ cn, wrap64 (-cc) = cn := ⟨_, rfl⟩
          rw [hcn] at hneg
          have Hcn := Lib.hid hcn
          clear ho6 hg6 hB5 HK5 HF5 Ho5 hcn
          go_wp2_with fail
          refine (implSchub_any _ _ _ (tOf k) _ Ho6.out.rd Hl5.out hl7 Ho6.out.1.lt (tOf_isPerm Hs.out)).mono ?_
          rintro e w7 ⟨r7, rfl, hF7, hb7⟩
          have hB7 := hB6.trans (hb7.mono hB6.size)
          have HF7 := Lib.hid hF7
          have HF67 := Lib.hid (HF6.out.below hb7)
          have HO7 := Lib.hid (HO6.out.below hb7)
          have hz7 := hb7.size
          clear hF7 hb7 HF6 Ho6 HO6 hB6
          go_wp2_with fail
          refine (plus_any r r7 cn _ _ _ HF67.out HF7.out).mono ?_
          rintro e w8 ⟨r8, rfl, _, hF8, hb8⟩
          have hB8 := hB7.trans (hb8.mono hB7.size)
          have HF8 := Lib.hid (exNext_pf (c := cc) hF8 Hcn.out.symm rfl Hl5.out.symm Hs.out)
          have HO8 := Lib.hid ((HO7.out.below hb8).mono (B' := w.heap.size) (S' := w8.heap.size) (Nat.le_refl _) (Nat.le_trans hz7 hb8.size))
          have Hf := Lib.hid (show f = 101 - (m + 1) by omega)
          have HE := Lib.hid (show exM (monsOf xs) = exTo (101 - (m + 1)) (exNext ((k, cc) :: F) k cc) (CL ++ [(tOf k, cc)]) by rw [← Hf.out]; exact Hexn.out)
          clear hF8 hb8 HF67 HF7 HO7 hneg
          go_wp2
          go_roundw
          case rel => exact ⟨⟨r8, _, [], _, _, m + 1, _, rfl, rfl, by omega, rfl, HF8.out, HO8.out, HIn.out, HE.out⟩, hB8⟩
          case measure => simp only [lenOf]; omega
        · have hm100 : m = 100 := by omega
          subst hm100
          have HR := Lib.hid (exp_none (xs := xs) (Hex.out.trans (exTo_bad (.inr (by rw [Hcl.out]; omega)))))
          go_wp2
          go_ret2
          exact ⟨_, _, _, _, rfl, by rw [HR.out.1]; exact KO.nil, HR.out.2.symm, hB5⟩
end Go.Proofs.YtocgcgmlemoekaaGreat

namespace Go.Proofs.YtocgcgmlemoekaaGreat
open Go.RowKit

theorem polyOk_desc {xs : List (List Int × Int)} (h : polyOk xs = true) : ∀ (d i : Nat), i + d + 1 < xs.length → keyL (termOf xs (i + d + 1)).1 < keyL (termOf xs i).1 := by
  have step : ∀ i, i + 1 < xs.length → keyL (termOf xs (i + 1)).1 < keyL (termOf xs i).1 := by
    intro i hi
    unfold polyOk at h
    simp only [Bool.and_eq_true, decide_eq_true_eq, List.all_eq_true, List.mem_range] at h
    have := h.2 (i + 1) hi
    unfold termAt at this
    simp only [Bool.and_eq_true, Bool.or_eq_true, decide_eq_true_eq, Nat.add_sub_cancel] at this
    rcases this.2 with h2 | h2
    · simp at h2
    · exact h2
  intro d
  induction d with
  | zero => intro i hi; exact step i hi
  | succ d ih =>
    intro i hi
    have h1 := ih i (by omega)
    have h2 := step (i + d + 1) (by omega)
    have e : i + (d + 1) + 1 = i + d + 1 + 1 := by omega
    rw [e]
    omega
theorem canon_monsOf {xs : List (List Int × Int)} (h : polyOk xs = true) : canon (monsOf xs) = monsOf xs := by
  refine (canon_unique ?_ ?_ (Eqv.refl _)).symm
  · unfold monsOf
    rw [List.pairwise_map, List.pairwise_iff_getElem]
    intro i j hi hj hij
    have := polyOk_desc h (j - i - 1) i (by omega)
    have e : i + (j - i - 1) + 1 = j := by omega
    rw [e, termOf_at (List.getElem?_eq_getElem hi), termOf_at (List.getElem?_eq_getElem hj)] at this
    exact this
  · intro p hp
    obtain ⟨q, hq, rfl⟩ := List.mem_map.1 hp
    obtain ⟨k, hk⟩ := List.getElem?_of_mem hq
    obtain ⟨s, c⟩ := q
    have := polyOk_each h hk
    simp only
    omega
def exS (F : Mons) : List (List Int × Int) := match exTo 101 F [] with | some L => sortK L | none => []
def exB (F : Mons) : Bool := match exTo 101 F [] with | some L => classesOk (sortK L) | none => false
theorem exS_some {F : Mons} {L : List (List Int × Int)} (h : exTo 101 F [] = some L) : exS F = sortK L ∧ exB F = classesOk (sortK L) := by unfold exS exB; rw [h]; exact ⟨rfl, rfl⟩
theorem exS_none {F : Mons} (h : exTo 101 F [] = none) : exS F = [] ∧ exB F = false := by unfold exS exB; rw [h]; exact ⟨rfl, rfl⟩
theorem exS_exp {xs : List (List Int × Int)} (h : polyOk xs = true) : (exB (monsOf xs) = true → expT xs = exS (monsOf xs) ∧ expOk xs = true) ∧ (exB (monsOf xs) = false → expT xs = [] ∧ expOk xs = false) := by
  have e : exM (monsOf xs) = exTo 101 (monsOf xs) [] := by unfold exM; rw [canon_monsOf h]
  cases ho : exTo 101 (monsOf xs) [] with
  | none =>
    have h1 := exS_none ho
    have h2 := exp_none (xs := xs) (e.trans ho)
    rw [h1.1, h1.2]
    exact ⟨fun h => (by cases h), fun _ => h2⟩
  | some L =>
    have h1 := exS_some ho
    have h2 := exp_some h (e.trans ho)
    rw [h1.1, h1.2]
    exact h2
theorem exNext_len (F : Mons) (k c : Int) (hs : stOk k = true) : (exNext F k c).length ≤ F.length + 5040 := by
  have hb7 : B7 (schM (tOf k) (tOf k).length) := sch_b7 _ (tOf_bound hs).2 rfl
  have h1 : exNext F k c = canon (plusM F (-c) (canon (schM (tOf k) (tOf k).length))) := canon_eqv (plusM_eqv (Eqv.refl F) (canon_self _).symm)
  rw [h1]
  refine Nat.le_trans (canon_le _) ?_
  unfold plusM scaleM
  rw [List.length_append, List.length_map]
  have := hb7.count
  omega
theorem exNext_canon {F : Mons} {k c c' : Int} {p : List Int} {m : Nat} (hc : c' = wrap64 (-c)) (hp : p = pOf k) (hm : m = 7) (hs : stOk k = true) : canon (plusM F c' (canon (schM (p.take (trimLen p m)) (trimLen p m)))) = exNext F k c := by
  subst hc hp hm
  have e : schM ((pOf k).take (trimLen (pOf k) 7)) (trimLen (pOf k) 7) = schM (tOf k) (tOf k).length := by rw [tOf_length hs]; rfl
  rw [e]
  exact canon_eqv ((plusM_eqv (Eqv.refl F) (canon_self _)).trans (plus_wrap F (-c) _))
theorem stOk_of {k : Int} (h : ∀ j : Nat, j < 7 → dig k j ≤ 6 - (j : Int)) : stOk k = true := by
  unfold stOk
  rw [List.all_eq_true]
  intro j hj
  have := h j (List.mem_range.1 hj)
  simpa using this
theorem stOk_bad {k : Int} {j : Nat} (hj : j < 7) (h : ¬ dig k j ≤ 6 - (j : Int)) : stOk k = false := by
  unfold stOk
  rw [List.all_eq_false]
  exact ⟨j, List.mem_range.2 hj, by simpa using h⟩

set_option maxRecDepth 100000 in
set_option maxHeartbeats 6400000 in
theorem l3Expand_post (B0 S0 : Nat) (a : Option Addr) (n c : Nat) (F0 : Mons) (w : World) (hM : MO w B0 S0 a n c F0) (hn : n ≤ 600) (hI0 : ExInv F0 []) :
    Calls Tryz.prog 26 #[.slice a n c] w (PostN w (exS F0) (exB F0)) := by
  have hBa : Below w.heap.size w (w.alloc (.cells #[] 38)) := (Below.refl _ _).alloc (Nat.le_refl _) _
  have HM0 := Lib.hid (hM.below hBa)
  have HK0 := Lib.hid (KN.made w)
  have HI0 := Lib.hid hI0
  have Hl0 := Lib.hid hM.len
  clear hM hI0
  go_enter Tryz.func26, Tryz.ntmps26
  go_wp2
  go_loopw [0, 4] (fun fv ov wr => Hid (∃ (F : Mons) (CL : List (List Int × Int)) (A1 S1 : Nat) (a0 : Option Addr) (n0 c0 : Nat) (a1 : Option Addr) (m c1 : Nat), fv = .slice a0 n0 c0 ∧ ov = .slice a1 m c1 ∧ m ≤ 100 ∧ n0 ≤ 600 + m * 5040 ∧ MO wr A1 S1 a0 n0 c0 F ∧ KN wr w.heap.size wr.heap.size a1 m c1 (sortK CL) ∧ CL.length = m ∧ ExInv F CL ∧ exTo 101 F0 [] = exTo (101 - m) F CL) ∧ Below w.heap.size w wr) (fun _ ov _ => 101 - lenOf ov)
  case atStart => exact ⟨⟨F0, [], _, _, _, _, _, _, 0, _, rfl, rfl, by omega, by omega, HM0.out, HK0.out, rfl, HI0.out, rfl⟩, hBa⟩
  case round =>
    clear HM0 HK0 hBa HI0
    obtain ⟨HV, hB⟩ := hrel
    obtain ⟨wo, rfl⟩ : ∃ wo : World, wo = wr := ⟨_, rfl⟩
    obtain ⟨F, CL, A1, S1, a0, n0, c0, a1, m, c1, rfl, rfl, hm, hn0, hM, hK, hcl, hI, hex⟩ := HV.out
    clear HV
    obtain ⟨f, hf⟩ : ∃ f, 101 - m = f + 1 := ⟨100 - m, by omega⟩
    have HI := Lib.hid hI
    have Hex := Lib.hid hex
    rw [hf] at Hex
    have Hcl := Lib.hid hcl
    have Hln := Lib.hid hM.len
    have hcb : m ≤ 1048576 := by omega
    have HSh := Lib.hid (show Short_P (sortK CL) from fun p hp => hI.apart.each p ((sortK_perm CL).mem_iff.1 hp))
    have Hsl := Lib.hid hK.len
    cases F with
    | nil =>
      have hn00 : n0 = 0 := by have := Hln.out; simpa using this.symm
      subst hn00
      have HS := Lib.hid (exS_some (Hex.out.trans (exTo_nil f CL)))
      have HK := Lib.hid hK
      clear hM hK hcl hI hex
      obtain ⟨R, hR⟩ : ∃ R, classesOk (sortK CL) = R := ⟨_, rfl⟩
      have HR := Lib.hid hR
      clear hR
      go_wp2_with fail
      refine (is (specClassesOk_any _ _ _ (sortK CL) _ HK.out.rd Hsl.out hcb HSh.out) HR.out).mono ?_
      rintro e w6 ⟨rfl, hb6⟩
      have hB6 := hB.trans (hb6.mono hB.size)
      have HK6 := Lib.hid ((HK.out.below hb6).mono (B' := w.heap.size) (S' := w6.heap.size) (Nat.le_refl _) hb6.size)
      go_wp2
      go_ret2
      exact ⟨_, _, _, _, rfl, by rw [HS.out.1]; exact HK6.out, HR.out.symm.trans HS.out.2.symm, hB6⟩
    | cons p F =>
      obtain ⟨k, cc⟩ := p
      obtain ⟨hk, hc64, hc0, hcf, hle⟩ := hI.head
      have hn1 : 0 < n0 := by have := Hln.out; simp at this; omega
      obtain ⟨b, off, rfl, hcell⟩ := hM.rd.at (k := 0) (by simp)
      obtain ⟨p1, p2⟩ := hcell 0 (k, cc) rfl
      simp only [Nat.zero_mul, Nat.add_zero] at p1 p2
      have HM := Lib.hid (fun w2 (h : Below wo.heap.size wo w2) => hM.below h)
      have HK := Lib.hid (fun w2 (h : Below wo.heap.size wo w2) => hK.below h)
      have Hk := Lib.hid hk
      have H64 := Lib.hid (show ∀ p ∈ (k, cc) :: F, in64 p.2 from by
        have := canon_64 ((k, cc) :: F)
        rw [hI.canon] at this
        exact this)
      have hbz : b < wo.heap.size := World.block_lt_of_cell? _ _ p1
      have S_of : ∀ w2, Below wo.heap.size wo w2 → w2.cell? ⟨b, off + 1, none⟩ = some (.int .i64 cc) := by
        intro w2 hb2
        rw [hb2.cell (p := ⟨b, off + 1, none⟩) hbz]; exact p2
      have q1 : (0 : Int) < (n0 : Int) := by omega
      clear hM hK hcl hI hex hcell hk hc64 hcf hle
      go_wp2_with fail
      refine (l2Exp_any k _ Hk.out).mono ?_
      rintro e w3 ⟨a3, c3, rfl, ho3, hb3⟩
      have hz3 := hb3.size
      have Ho3 := Lib.hid ho3
      have HS3 := Lib.hid (S_of w3 hb3)
      have hB3 := hB.trans (hb3.mono hB.size)
      obtain ⟨g3, rfl, _⟩ := OI.cons ho3.1 (j := 0) (by omega)
      clear ho3
      clear p1 p2
      go_wp2
      go_loop [6] (fun iv => ∃ i : Nat, iv = .int .i64 i ∧ i ≤ 7 ∧ Hid (∀ j : Nat, j < i → dig k j ≤ 6 - (j : Int))) (fun iv => 7 - (intOf iv).toNat)
      case atStart => exact ⟨0, rfl, by omega, fun j hj => by omega⟩
      case round =>
        obtain ⟨i, rfl, hi, Hgood⟩ := hrel
        by_cases hlt : i < 7
        · obtain ⟨g', e0, _, ⟨y, hy, hcy⟩, _⟩ := OI.cons Ho3.out.1 (j := i) hlt
          obtain rfl : g3 = g' := by simpa using e0
          have hyd : y = dig k i := by rw [digs_at hlt] at hy; exact (Option.some.inj hy).symm
          have hd := dig_range k i
          rw [← hyd] at hd
          have Hyd := Lib.hid hyd
          have q2 : (i : Int) < 7 := by omega
          have q3 : (i : Int) < ((7 : Nat) : Int) := by omega
          clear hy e0 hyd
          by_cases hyi : 6 - (i : Int) < y
          · have hbad : stOk k = false := stOk_bad hlt (by rw [← Hyd.out]; omega)
            have HR := Lib.hid (exS_none (Hex.out.trans (exTo_bad (.inl hbad))))
            go_wp2
            go_ret2
            exact ⟨_, _, _, _, rfl, by rw [HR.out.1]; exact KN.nil, HR.out.2.symm, hB3⟩
          · have Hg2 := Lib.hid (show ∀ j : Nat, j < i + 1 → dig k j ≤ 6 - (j : Int) from fun j hj => by
              rcases Nat.lt_or_ge j i with h | h
              · exact Hgood.out j h
              · obtain rfl : j = i := by omega
                rw [← Hyd.out]; omega)
            go_wp2
            go_round
            case rel => exact ⟨i + 1, by go_num, by omega, Hg2.out⟩
            case measure => simp [intOf]; omega
        · obtain rfl : i = 7 := by omega
          have Hs := Lib.hid (stOk_of Hgood.out)
          have Hdec := Lib.hid (pOf_decode Hs.out)
          have q2 : ¬ ((7 : Nat) : Int) < ((7 : Nat) : Int) := by omega
          have Hdg := Lib.hid (show ∀ x ∈ digs k, 0 ≤ x ∧ x ≤ 1000 from fun x hx => by have := digs_Digs k x hx; unfold isD at this; omega)
          have Hfresh := Lib.hid (show ∀ q ∈ sortK CL, q.1 ≠ tOf k from fun q hq => HI.out.fresh Hs.out q ((sortK_perm CL).mem_iff.1 hq))
          go_wp2_with fail
          refine (l1Decode_any _ 7 _ (digs k) _ Ho3.out.rd (digs_length k) (by omega) Hdg.out).mono ?_
          rintro e w4 ⟨a4, n4, c4, rfl, ho4, hb4⟩
          rw [Hdec.out] at ho4
          have hn4 : n4 = 7 := by rw [← ho4.len]; exact pOf_length Hs.out
          subst hn4
          have hbw4 := hb3.trans (hb4.mono hz3)
          have hB4 := hB.trans (hbw4.mono hB.size)
          have Ho4 := Lib.hid ho4
          have y4 := S_of w4 hbw4
          have hz4 := hbw4.size
          have HKr := Lib.hid ((HK.out w4 hbw4).rd)
          clear ho4 hb4
          go_wp2_with fail
          refine (l3Add_any _ _ _ (sortK CL) _ 7 _ (pOf k) cc _ HKr.out Hsl.out (by omega) HSh.out Ho4.out.rd Ho4.out.len (by omega) Ho4.out.1.lt hc0 (v := tOf k) rfl Hfresh.out).mono ?_
          rintro e w5 ⟨a5, c5, rfl, ho5, hb5⟩
          have hbw5 := hbw4.trans (hb5.mono hz4)
          have hB5 := hB.trans (hbw5.mono hB.size)
          have hz5 := hbw5.size
          have HInx := Lib.hid (HI.out.next Hs.out)
          have HSort := Lib.hid (show insK (tOf k) cc (sortK CL) = sortK (CL ++ [(tOf k, cc)]) from sortK_snoc (p := (tOf k, cc)) HInx.out.apart.dst)
          rw [HSort.out] at ho5
          have Ho5 := Lib.hid (ho5.mono (B' := w.heap.size) (S' := w5.heap.size) hB4.size (Nat.le_refl _))
          have Ho45 := Lib.hid (Ho4.out.below hb5)
          clear ho5 hb5 y4
          by_cases h100 : m < 100
          · have q4 : ¬ (100 : Int) < (m : Int) + 1 := by omega
            have Hexn := Lib.hid (Hex.out.trans (exTo_step Hs.out (by rw [Hcl.out]; exact h100)))
            have hn4 : IntKind.i64.wrap (-cc) = wrap64 (-cc) := IntWalk.i64_left _
            obtain ⟨cn, hcn⟩ : ∃ cn, wrap64 (-cc) = cn := ⟨_, rfl⟩
            rw [hcn] at hn4
            have hn5 : IntKind.i64.wrap (0 - cc) = cn := by rw [Int.zero_sub]; exact hn4
            have HcS := Lib.hid (show (canon (schM ((pOf k).take (trimLen (pOf k) 7)) (trimLen (pOf k) 7))).length ≤ 5040 by
              have h1 := (schOf_b7 (p := pOf k) (by rw [pOf_length Hs.out]; omega)).count
              unfold schOf at h1
              rw [pOf_length Hs.out] at h1
              exact h1)
            have Hcan := Lib.hid (exNext_canon (F := (k, cc) :: F) (c := cc) (p := pOf k) (m := 7) hcn.symm rfl rfl Hs.out)
            have Hnl := Lib.hid (exNext_len ((k, cc) :: F) k cc Hs.out)
            have d0 := hbw5
            have d1 : Below wo.heap.size wo w5.drew := hbw5.trans (Drew.below ⟨1, rfl⟩ _)
            have e5 : Below w5.heap.size w5 w5.drew := Drew.below ⟨1, rfl⟩ _
            have y5 := S_of w5 hbw5
            have Ho45d := Lib.hid (Ho45.out.rd.below e5)
            have hz7 : ((7 : Nat) : Int) = 7 := rfl
            clear hcn
            go_wp2
            go_region_held3 (fun w' => w'.cell? ⟨b, off + 1, none⟩ = some (.int .i64 cc)) ((first | exact S_of _ d0 | exact S_of _ d1 | exact S_of _ ‹_›))
              ((first | (go_at_call 22; refine (l3Schubert_any _ 7 _ (pOf k) _ (by first | exact Ho45d.out | exact Ho45.out.rd) (pOf_length Hs.out) (by omega) Ho4.out.1.lt).mono ?_; rintro e w6 ⟨a6, n6, c6, rfl, ho6, hb6⟩; have d2 := Below.trans d1 (hb6.mono (Below.size d1))) | (go_at_call 50; refine (l2Plus_any _ _ _ _ _ _ _ _ _ _ _ _ (HM.out _ d2) ho6.rd ho6.len (by have h1 := HcS.out; rw [ho6.len] at h1; omega) H64.out).mono ?_; rintro e w7 ⟨a7, n7, c7, rfl, ho7, hb7⟩; have d3 := d2.trans (hb7.mono d2.size))))
            rw [Hcan.out] at ho7
            have hB7 := hB.trans (d3.mono hB.size)
            have hn7 : n7 ≤ 600 + (m + 1) * 5040 := by
              have h1 := Hnl.out
              rw [ho7.len, Hln.out] at h1
              omega
            have HO7 := Lib.hid ho7
            have hb57 : Below w5.heap.size w5 w7 := e5.trans ((hb6.mono e5.size).trans (hb7.mono (Nat.le_trans e5.size hb6.size)))
            have HK7 := Lib.hid ((Ho5.out.below hb57).mono (B' := w.heap.size) (S' := w7.heap.size) (Nat.le_refl _) hb57.size)
            have HE := Lib.hid (show exTo 101 F0 [] = exTo (101 - (m + 1)) (exNext ((k, cc) :: F) k cc) (CL ++ [(tOf k, cc)]) by rw [show 101 - (m + 1) = f by omega]; exact Hexn.out)
            have Hcl2 := Lib.hid (show (CL ++ [(tOf k, cc)]).length = m + 1 by rw [List.length_append, Hcl.out]; rfl)
            clear ho7 ho6 S_of d0 d1 d2 d3 hb6 hb7 HM HK e5 y5 hb57
            go_wp2
            go_roundw
            case rel => exact ⟨⟨_, CL ++ [(tOf k, cc)], _, _, _, _, _, _, m + 1, _, rfl, rfl, by omega, hn7, HO7.out, HK7.out, Hcl2.out, HInx.out, HE.out⟩, hB7⟩
            case measure => simp only [lenOf]; omega
          · have hm100 : m = 100 := by omega
            subst hm100
            have HR := Lib.hid (exS_none (Hex.out.trans (exTo_bad (.inr (by rw [Hcl.out]; omega)))))
            go_wp2
            go_ret2
            exact ⟨_, _, _, _, rfl, by rw [HR.out.1]; exact KN.nil, HR.out.2.symm, hB5⟩

set_option maxRecDepth 100000 in
set_option maxHeartbeats 1600000 in
theorem specExp_post (a : Option Addr) (n c : Nat) (xs : List (List Int × Int)) (w : World) (hr : RP w a xs) (hn : xs.length = n) (hb : n ≤ 1048576) :
    Calls Tryz.prog 14 #[.slice a n c] w (PostN w (expT xs) (expOk xs)) := by
  have Hn := Lib.hid hn
  cases hok : polyOk xs
  · have H0 := Lib.hid (exp_no hok)
    have Hok := Lib.hid hok
    clear hok hn
    go_enter Tryz.func14, Tryz.ntmps14
    go_wp2_with fail
    refine (is (specPolyOk_any _ _ _ xs _ hr Hn.out hb) Hok.out).mono ?_
    rintro e w1 ⟨rfl, hB1⟩
    go_wp2
    go_ret2
    exact ⟨_, _, _, _, rfl, by rw [H0.out.1]; exact KN.nil, H0.out.2.symm, hB1⟩
  have Hok := Lib.hid hok
  have HBd := Lib.hid (polyOk_mons hok)
  have HI := Lib.hid (show ExInv (monsOf xs) [] by have := ExInv.start (polyOk_mons hok); rw [canon_monsOf hok] at this; exact this)
  have HX := Lib.hid (exS_exp hok)
  have hn6 : n ≤ 600 := by rw [← hn]; exact polyOk_len hok
  clear hok hn
  go_enter Tryz.func14, Tryz.ntmps14
  go_wp2_with fail
  refine (is (specPolyOk_any _ _ _ xs _ hr Hn.out hb) Hok.out).mono ?_
  rintro e w1 ⟨rfl, hB1⟩
  have hr1 := hr.below hB1
  go_wp2_with fail
  refine (l2Open_any _ _ _ xs _ hr1 Hn.out Hok.out).mono ?_
  rintro e w2 ⟨a2, c2, rfl, ho2, hb2⟩
  have hB2 := hB1.trans (hb2.mono hB1.size)
  have Ho2 := Lib.hid ho2
  clear ho2
  go_wp2_with fail
  refine (l3Expand_post _ _ _ _ _ (monsOf xs) _ Ho2.out hn6 HI.out).mono ?_
  intro e w3 hp
  obtain ⟨a3, n3, c3, r3, rfl, ho3, hh3, hb3⟩ := hp
  have hB3 := hB2.trans (hb3.mono hB2.size)
  have Ho3 := Lib.hid (ho3.mono (B' := w.heap.size) (S' := w3.heap.size) hB2.size (Nat.le_refl _))
  have hrb := hh3.out
  cases hx : exB (monsOf xs)
  · rw [hx] at hrb
    have HR := Lib.hid (HX.out.2 hx)
    subst hrb
    clear ho3 hx
    go_wp2
    go_ret2
    exact ⟨_, _, _, _, rfl, by rw [HR.out.1]; exact KN.nil, HR.out.2.symm, hB3⟩
  · rw [hx] at hrb
    have HR := Lib.hid (HX.out.1 hx)
    subst hrb
    clear ho3 hx
    go_wp2
    go_ret2
    exact ⟨_, _, _, _, rfl, by rw [HR.out.1]; exact Ho3.out, HR.out.2.symm, hB3⟩
theorem specExp_any (a : Option Addr) (n c : Nat) (xs : List (List Int × Int)) (w : World) (hr : RP w a xs) (hn : xs.length = n) (hb : n ≤ 1048576) (_hsh : Short_P xs) :
    Calls Tryz.prog 14 #[.slice a n c] w fun e w' => ∃ a' n' c' r, e = .returned (.tuple #[.slice a' n' c', .bool r]) ∧ KN w' w.heap.size w'.heap.size a' n' c' (expT xs) ∧ Hid (r = expOk xs) ∧ Below w.heap.size w w' :=
  (specExp_post a n c xs w hr hn hb).mono fun _ _ h => h
theorem implExp_any (a : Option Addr) (n c : Nat) (xs : List (List Int × Int)) (w : World) (hr : RP w a xs) (hn : xs.length = n) (hb : n ≤ 1048576) (_hsh : Short_P xs) :
    Calls Tryz.prog 17 #[.slice a n c] w fun e w' => ∃ a' n' c' r, e = .returned (.tuple #[.slice a' n' c', .bool r]) ∧ KO w' w.heap.size w'.heap.size a' n' c' (expT xs) ∧ Hid (r = expOk xs) ∧ Below w.heap.size w w' :=
  (implExp_post a n c xs w hr hn hb).mono fun _ _ h => h
end Go.Proofs.YtocgcgmlemoekaaGreat
