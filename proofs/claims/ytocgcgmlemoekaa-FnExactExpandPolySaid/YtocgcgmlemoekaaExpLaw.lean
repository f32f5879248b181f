/-
  A polynomial taken apart into Schubert polynomials, from its greatest term down: plain.
-/
import Derived.Test.YtocgcgmlemoekaaDecLaw
import Derived.Test.YtocgcgmlemoekaaClsPoly
import Derived.Test.YtocgcgmlemoekaaSortK
import Derived.Test.YtocgcgmlemoekaaKN
namespace Go.Proofs.Ytocgcgmlemoekaa
open Go.RowKit

def natDigs (k : Int) : List Nat := (List.range 7).map fun i => (dig k i).toNat
theorem digs_nat (k : Int) : digs k = natL (natDigs k) := by
  unfold digs natL natDigs
  rw [List.map_map]
  refine List.map_congr_left fun i _ => ?_
  have := (dig_range k i).1
  simp only [Function.comp]
  omega
/-- the exponents are a code -/
def stOk (k : Int) : Bool := (List.range 7).all fun i : Nat => decide (dig k i ≤ 6 - (i : Int))
theorem stOk_at {k : Int} (h : stOk k = true) {i : Nat} (hi : i < 7) : dig k i ≤ 6 - (i : Int) := by
  unfold stOk at h
  rw [List.all_eq_true] at h
  simpa using h i (List.mem_range.2 hi)
theorem stOk_no {k : Int} (h : stOk k = false) : ∃ i : Nat, i < 7 ∧ 6 - (i : Int) < dig k i ∧ ∀ j, j < i → dig k j ≤ 6 - (j : Int) := by
  have hex : ∃ i : Nat, i < 7 ∧ 6 - (i : Int) < dig k i := by
    unfold stOk at h
    rw [List.all_eq_false] at h
    obtain ⟨i, hi, hd⟩ := h
    exact ⟨i, List.mem_range.1 hi, by simpa using hd⟩
  have : ∀ n i : Nat, i ≤ n → i < 7 → 6 - (i : Int) < dig k i → ∃ i : Nat, i < 7 ∧ 6 - (i : Int) < dig k i ∧ ∀ j, j < i → dig k j ≤ 6 - (j : Int) := by
    intro n
    induction n with
    | zero =>
      intro i hi h7 hd
      exact ⟨i, h7, hd, fun j hj => by omega⟩
    | succ n ih =>
      intro i hi h7 hd
      by_cases hall : ∀ j, j < i → dig k j ≤ 6 - (j : Int)
      · exact ⟨i, h7, hd, hall⟩
      · obtain ⟨j, hj⟩ := Classical.not_forall.1 hall
        obtain ⟨hji, hdj⟩ := Classical.not_imp.1 hj
        exact ih j (by omega) (by omega) (by omega)
  obtain ⟨i, h7, hd⟩ := hex
  exact this i i (Nat.le_refl _) h7 hd
theorem stOk_code {k : Int} (h : stOk k = true) : CodeOk (natDigs k) := by
  have h0 := stOk_at h (i := 0) (by omega)
  have h1 := stOk_at h (i := 1) (by omega)
  have h2 := stOk_at h (i := 2) (by omega)
  have h3 := stOk_at h (i := 3) (by omega)
  have h4 := stOk_at h (i := 4) (by omega)
  have h5 := stOk_at h (i := 5) (by omega)
  have h6 := stOk_at h (i := 6) (by omega)
  have e : natDigs k = [(dig k 0).toNat, (dig k 1).toNat, (dig k 2).toNat, (dig k 3).toNat, (dig k 4).toNat, (dig k 5).toNat, (dig k 6).toNat] := rfl
  rw [e]
  simp only [CodeOk, List.length_cons, List.length_nil]
  refine ⟨?_, ?_, ?_, ?_, ?_, ?_, ?_, trivial⟩ <;> omega
/-- the permutation of seven of a code -/
def pOf (k : Int) : List Int := pcL (ident 7) (natDigs k)
theorem natDigs_length (k : Int) : (natDigs k).length = 7 := by simp [natDigs]
theorem pOf_decode {k : Int} (h : stOk k = true) : decode (digs k) = pOf k := by
  rw [digs_nat, decode_eq (stOk_code h), natDigs_length]
  rfl
theorem pOf_poc (k : Int) : (poc 7 (digs k) 7).2 = pOf k := by
  rw [digs_nat, poc_eq (natDigs_length k)]
  rfl
theorem pOf_perm {k : Int} (h : stOk k = true) : (pOf k).Perm (ident 7) := pcL_perm (by rw [ident_length, natDigs_length]) (stOk_code h)
theorem pOf_length {k : Int} (h : stOk k = true) : (pOf k).length = 7 := by rw [(pOf_perm h).length_eq, ident_length]
theorem pOf_pm {k : Int} (h : stOk k = true) : Pm (pOf k) 7 := by
  have hl := pOf_length h
  have ht : (pOf k).take 7 = pOf k := List.take_of_length_le (by omega)
  refine ⟨by omega, ?_, fun x hx => ?_⟩
  · rw [ht, (pOf_perm h).nodup_iff]; exact ident_nodup 7
  · rw [ht, (pOf_perm h).mem_iff] at hx
    unfold ident at hx
    obtain ⟨i, hi, rfl⟩ := List.mem_map.1 hx
    rw [List.mem_range] at hi
    omega
theorem Pm.perm {xs : List Int} {m : Nat} (h : Pm xs m) (h1 : 1 ≤ m) (h7 : m ≤ 7) : isPerm (xs.take m) = true := by
  obtain ⟨hm, hn, hb⟩ := h
  have hl : (xs.take m).length = m := by rw [List.length_take]; omega
  rw [isPerm_iff, hl]
  exact ⟨h1, h7, hb, hn⟩
theorem pOf_isPerm {k : Int} (h : stOk k = true) : isPerm (pOf k) = true := by
  have := (pOf_pm h).perm (by omega) (Nat.le_refl _)
  rwa [List.take_of_length_le (by rw [pOf_length h]; exact Nat.le_refl _)] at this
theorem cK_pOf {k : Int} (h : stOk k = true) (hk : inK k) : cK (pOf k) = k := by
  unfold cK pOf
  rw [cod_pcL (by rw [ident_length, natDigs_length]) (stOk_code h) (ident_sorted 7), ← digs_nat, keyL_digs hk]
/-- without what is not moved at the end -/
def tOf (k : Int) : List Int := (pOf k).take (trimLen (pOf k) 7)
theorem trimLen_pos (xs : List Int) : ∀ m, 1 ≤ m → 1 ≤ trimLen xs m := by
  intro m
  induction m with
  | zero => intro h; omega
  | succ m ih =>
    intro _
    rcases m with _ | m
    · exact Nat.le_refl _
    · rw [trimLen]
      split
      · exact ih (by omega)
      · omega
theorem tOf_pm {k : Int} (h : stOk k = true) : Pm (pOf k) (trimLen (pOf k) 7) := (cK_trim (pOf_pm h)).2
theorem tOf_length {k : Int} (h : stOk k = true) : (tOf k).length = trimLen (pOf k) 7 := by
  unfold tOf
  rw [List.length_take, pOf_length h]
  have := trimLen_le (pOf k) 7
  omega
theorem tOf_bound {k : Int} (h : stOk k = true) : 1 ≤ (tOf k).length ∧ (tOf k).length ≤ 7 := by
  rw [tOf_length h]
  exact ⟨trimLen_pos _ 7 (by omega), trimLen_le _ 7⟩
theorem tOf_isPerm {k : Int} (h : stOk k = true) : isPerm (tOf k) = true := by
  have := tOf_bound h
  rw [tOf_length h] at this
  exact (tOf_pm h).perm this.1 this.2
theorem tOf_trim {k : Int} (h : stOk k = true) : trimLen (tOf k) (tOf k).length = (tOf k).length := by
  rw [tOf_length h]
  unfold tOf
  rw [trimLen_take _ _ _ (Nat.le_refl _), trimLen_idem]
theorem cK_tOf {k : Int} (h : stOk k = true) (hk : inK k) : cK (tOf k) = k := by
  have h1 := (cK_trim (pOf_pm h)).1
  rw [List.take_of_length_le (i := 7) (by rw [pOf_length h]; exact Nat.le_refl _), cK_pOf h hk] at h1
  exact h1
theorem schOf_tOf {k : Int} (h : stOk k = true) : schOf (tOf k) = schM (tOf k) (tOf k).length := by
  unfold schOf
  rw [tOf_trim h, List.take_length]
theorem schOf_pOf {k : Int} (h : stOk k = true) : schOf (pOf k) = schM (tOf k) (tOf k).length := by
  unfold schOf
  rw [pOf_length h, tOf_length h]
  rfl
theorem leads_tOf {k : Int} (h : stOk k = true) (hk : inK k) : Leads (schM (tOf k) (tOf k).length) k fun m => m < k := by
  have hb := tOf_bound h
  have hn : (tOf k).Nodup := ((isPerm_iff _).1 (tOf_isPerm h)).2.2.2
  have := schub_leads hn hb.2
  rw [cK_tOf h hk] at this
  exact this

/-! the steps -/
theorem scale_wrap (c : Int) (G : Mons) : Eqv (scaleM (wrap64 c) G) (scaleM c G) := Eqv.of_wsum fun v => by
  have e : ∀ c : Int, wsum (scaleM c G) v = c * wsum G v := by
    intro c
    unfold scaleM
    induction G with
    | nil => simp [wsum]
    | cons a G ih => rw [List.map_cons, wsum, ih, wsum, Int.mul_add, Int.mul_assoc]
  rw [e, e, ← Int.sub_mul]
  refine Int.dvd_mul_of_dvd_left ?_
  have := wrap_dvd c
  have e2 : wrap64 c - c = -(c - wrap64 c) := by omega
  rw [e2]
  exact Int.dvd_neg.2 this
theorem plus_wrap (F : Mons) (c : Int) (G : Mons) : Eqv (plusM F (wrap64 c) G) (plusM F c G) := (Eqv.refl F).append (scale_wrap c G)
/-- what is left when the class of the greatest term is taken away -/
def exNext (F : Mons) (k c : Int) : Mons := canon (plusM F (-c) (schM (tOf k) (tOf k).length))
def exTo : Nat → Mons → List (List Int × Int) → Option (List (List Int × Int))
  | 0, _, _ => none
  | _ + 1, [], L => some L
  | f + 1, (k, c) :: F, L => if stOk k = true ∧ L.length < 100 then exTo f (exNext ((k, c) :: F) k c) (L ++ [(tOf k, c)]) else none
theorem exTo_nil (f : Nat) (L : List (List Int × Int)) : exTo (f + 1) [] L = some L := rfl
theorem exTo_bad {f : Nat} {k c : Int} {F : Mons} {L : List (List Int × Int)} (h : stOk k = false ∨ ¬ L.length < 100) : exTo (f + 1) ((k, c) :: F) L = none := by
  rw [exTo, if_neg]
  rcases h with h | h
  · rw [h]; simp
  · exact fun e => h e.2
theorem exTo_step {f : Nat} {k c : Int} {F : Mons} {L : List (List Int × Int)} (h : stOk k = true) (h' : L.length < 100) : exTo (f + 1) ((k, c) :: F) L = exTo f (exNext ((k, c) :: F) k c) (L ++ [(tOf k, c)]) := by
  rw [exTo, if_pos ⟨h, h'⟩]
structure ExInv (F : Mons) (L : List (List Int × Int)) : Prop where
  canon : canon F = F
  bd : Bd 24 F
  keys : ∃ Ks : Mons, L = Ks.map (fun q => (tOf q.1, q.2)) ∧ (Ks.Pairwise fun a b => b.1 < a.1) ∧ (∀ q ∈ Ks, stOk q.1 = true ∧ inK q.1) ∧ ∀ p ∈ F, ∀ q ∈ Ks, p.1 < q.1
theorem canon_canon (F : Mons) : canon (canon F) = canon F := canon_eqv (canon_self F)
theorem ExInv.start {F : Mons} (h : Bd 24 F) : ExInv (Go.Proofs.Ytocgcgmlemoekaa.canon F) [] := ⟨canon_canon F, h.canon, [], rfl, List.Pairwise.nil, by simp, by simp⟩
theorem ExInv.head {k c : Int} {F : Mons} {L : List (List Int × Int)} (h : ExInv ((k, c) :: F) L) : inK k ∧ in64 c ∧ c ≠ 0 ∧ coef ((k, c) :: F) k = c ∧ ∀ p ∈ (k, c) :: F, p.1 ≤ k := by
  have hm : (k, c) ∈ Go.Proofs.Ytocgcgmlemoekaa.canon ((k, c) :: F) := by rw [h.canon]; exact List.mem_cons_self
  obtain ⟨h1, h2⟩ := canon_mem.1 hm
  have hs := canon_sorted ((k, c) :: F)
  rw [h.canon] at hs
  refine ⟨(h.bd _ List.mem_cons_self).1, canon_64 _ _ hm, h1, h2.symm, fun p hp => ?_⟩
  rcases List.mem_cons.1 hp with rfl | hp
  · exact Int.le_refl _
  · exact Int.le_of_lt (List.rel_of_pairwise_cons hs hp)
theorem ExInv.next {k c : Int} {F : Mons} {L : List (List Int × Int)} (h : ExInv ((k, c) :: F) L) (hs : stOk k = true) : ExInv (exNext ((k, c) :: F) k c) (L ++ [(tOf k, c)]) := by
  obtain ⟨hk, hc, h0, hcf, hle⟩ := h.head
  obtain ⟨Ks, hL, hd, hall, hbelow⟩ := h.keys
  have hlead := leads_tOf hs hk
  have hlt := lead_taken hle hcf hlead
  have hb7 : B7 (schM (tOf k) (tOf k).length) := sch_b7 _ (tOf_bound hs).2 rfl
  refine ⟨canon_canon _, (h.bd.plus hb7.bd).canon, Ks ++ [(k, c)], by rw [hL]; simp, ?_, fun q hq => ?_, fun p hp q hq => ?_⟩
  · rw [List.pairwise_append]
    refine ⟨hd, List.pairwise_singleton _ _, fun a ha b hb => ?_⟩
    rw [List.mem_singleton] at hb
    subst hb
    exact hbelow _ List.mem_cons_self a ha
  · rcases List.mem_append.1 hq with hq | hq
    · exact hall q hq
    · rw [List.mem_singleton] at hq; subst hq; exact ⟨hs, hk⟩
  · have h1 := hlt p hp
    rcases List.mem_append.1 hq with hq | hq
    · have h2 := hbelow _ List.mem_cons_self q hq
      simp only at h2
      omega
    · rw [List.mem_singleton] at hq; subst hq; exact h1
theorem ExInv.apart {F : Mons} {L : List (List Int × Int)} (h : ExInv F L) : GoodK L := by
  obtain ⟨Ks, hL, hd, hall, _⟩ := h.keys
  subst hL
  refine ⟨fun p hp => ?_, fun i j p q hp hq he => ?_⟩
  · obtain ⟨r, hr, rfl⟩ := List.mem_map.1 hp
    have := (tOf_bound (hall r hr).1).2
    show (tOf r.1).length ≤ _
    omega
  · rw [List.getElem?_map] at hp hq
    obtain ⟨r, hr, rfl⟩ := Option.map_eq_some_iff.1 hp
    obtain ⟨s, hs, rfl⟩ := Option.map_eq_some_iff.1 hq
    simp only at he
    have h1 := hall r (List.mem_of_getElem? hr)
    have h2 := hall s (List.mem_of_getElem? hs)
    have e : r.1 = s.1 := by rw [← cK_tOf h1.1 h1.2, ← cK_tOf h2.1 h2.2, he]
    obtain ⟨hi, rfl⟩ := List.getElem?_eq_some_iff.1 hr
    obtain ⟨hj, rfl⟩ := List.getElem?_eq_some_iff.1 hs
    have hpw := List.pairwise_iff_getElem.1 hd
    rcases Nat.lt_trichotomy i j with h | h | h
    · have := hpw i j hi hj h; omega
    · exact h
    · have := hpw j i hj hi h; omega
/-- the permutation of the greatest term is not there yet -/
theorem ExInv.fresh {k c : Int} {F : Mons} {L : List (List Int × Int)} (h : ExInv ((k, c) :: F) L) (hs : stOk k = true) : ∀ q ∈ L, q.1 ≠ tOf k := by
  obtain ⟨Ks, hL, _, hall, hbelow⟩ := h.keys
  obtain ⟨hk, _⟩ := h.head
  subst hL
  intro q hq e
  obtain ⟨r, hr, rfl⟩ := List.mem_map.1 hq
  have h1 := hall r hr
  have h2 := hbelow _ List.mem_cons_self r hr
  simp only at e h2
  have : r.1 = k := by rw [← cK_tOf h1.1 h1.2, e, cK_tOf hs hk]
  omega

/-! ascending lists -/
def Asc (L : List (List Int × Int)) : Prop := L.Pairwise fun p q => less p.1 q.1 = true
theorem asc_unique {L M : List (List Int × Int)} (hL : Asc L) (hM : Asc M) (h : L.Perm M) : L = M :=
  List.Perm.eq_of_pairwise (le := fun (p q : List Int × Int) => less p.1 q.1 = true) (fun x y _ _ h1 h2 => by
    have := less_trans h1 h2
    rw [less_irrefl] at this
    cases this) hL hM h
theorem insK_perm (v : List Int) (x : Int) (xs : List (List Int × Int)) : (insK v x xs).Perm ((v, x) :: xs) := by
  unfold insK
  refine List.perm_middle.trans (List.Perm.cons _ ?_)
  rw [List.takeWhile_append_dropWhile]
theorem insK_asc {v : List Int} {x : Int} {xs : List (List Int × Int)} (h : Asc xs) (hne : ∀ q ∈ xs, q.1 ≠ v) : Asc (insK v x xs) := by
  unfold insK Asc
  induction xs with
  | nil => exact List.pairwise_singleton _ _
  | cons p xs ih =>
    have hp := List.pairwise_cons.1 h
    rw [List.takeWhile_cons, List.dropWhile_cons]
    split
    · rename_i hl
      have ih' := ih hp.2 fun q hq => hne q (List.mem_cons_of_mem _ hq)
      rw [List.cons_append, List.pairwise_cons]
      refine ⟨fun q hq => ?_, ih'⟩
      have hq' : q ∈ (v, x) :: xs := (insK_perm v x xs).mem_iff.1 hq
      rcases List.mem_cons.1 hq' with rfl | hq'
      · exact hl
      · exact hp.1 q hq'
    · rename_i hl
      have hvp : less v p.1 = true := by
        cases h1 : less v p.1 with
        | true => rfl
        | false => exact absurd (less_total (by simpa using hl) h1) (hne p List.mem_cons_self)
      rw [List.nil_append, List.pairwise_cons]
      refine ⟨fun q hq => ?_, h⟩
      rcases List.mem_cons.1 hq with rfl | hq
      · exact hvp
      · exact less_trans hvp (hp.1 q hq)
/-- put into ascending order -/
def sortK : List (List Int × Int) → List (List Int × Int)
  | [] => []
  | p :: L => insK p.1 p.2 (sortK L)
theorem sortK_perm (L : List (List Int × Int)) : (sortK L).Perm L := by
  induction L with
  | nil => exact List.Perm.refl _
  | cons p L ih => exact (insK_perm _ _ _).trans (ih.cons _)
def Dst (L : List (List Int × Int)) : Prop := L.Pairwise fun p q => p.1 ≠ q.1
theorem sortK_asc {L : List (List Int × Int)} (h : Dst L) : Asc (sortK L) := by
  induction L with
  | nil => exact List.Pairwise.nil
  | cons p L ih =>
    have hp := List.pairwise_cons.1 h
    exact insK_asc (ih hp.2) fun q hq => Ne.symm (hp.1 q ((sortK_perm L).mem_iff.1 hq))
theorem GoodK.dst {L : List (List Int × Int)} (h : GoodK L) : Dst L := by
  unfold Dst
  rw [List.pairwise_iff_getElem]
  intro i j hi hj hij e
  have := h.apart i j _ _ (List.getElem?_eq_getElem hi) (List.getElem?_eq_getElem hj) e
  omega
theorem sortK_snoc {L : List (List Int × Int)} {p : List Int × Int} (h : Dst (L ++ [p])) : insK p.1 p.2 (sortK L) = sortK (L ++ [p]) := by
  have hp : Dst L ∧ ∀ q ∈ L, q.1 ≠ p.1 := by
    obtain ⟨h1, _, h3⟩ := List.pairwise_append.1 h
    exact ⟨h1, fun q hq => h3 q hq p (by simp)⟩
  refine asc_unique (insK_asc (sortK_asc hp.1) fun q hq => hp.2 q ((sortK_perm L).mem_iff.1 hq)) (sortK_asc h) ?_
  refine (insK_perm _ _ _).trans (((sortK_perm L).cons _).trans ?_)
  exact (List.perm_append_singleton p L).symm.trans (sortK_perm _).symm
/-! what ExpandPoly gives -/
def exM (F : Mons) : Option (List (List Int × Int)) := exTo 101 (canon F) []
def expT (xs : List (List Int × Int)) : List (List Int × Int) := if polyOk xs = true then match exM (monsOf xs) with | some L => if classesOk (sortK L) = true then sortK L else [] | none => [] else []
def expOk (xs : List (List Int × Int)) : Bool := polyOk xs && match exM (monsOf xs) with | some L => classesOk (sortK L) | none => false
theorem exp_no {xs : List (List Int × Int)} (h : polyOk xs = false) : expT xs = [] ∧ expOk xs = false := by unfold expT expOk; rw [h]; exact ⟨rfl, rfl⟩
theorem exp_none {xs : List (List Int × Int)} (h : exM (monsOf xs) = none) : expT xs = [] ∧ expOk xs = false := by unfold expT expOk; rw [h]; exact ⟨by split <;> rfl, by simp⟩
theorem exp_some {xs L : List (List Int × Int)} (h : polyOk xs = true) (h' : exM (monsOf xs) = some L) : (classesOk (sortK L) = true → expT xs = sortK L ∧ expOk xs = true) ∧ (classesOk (sortK L) = false → expT xs = [] ∧ expOk xs = false) := by
  unfold expT expOk
  rw [h, h']
  constructor
  · intro hc; simp [hc]
  · intro hc; simp [hc]
theorem expT_cases (xs : List (List Int × Int)) : expT xs = [] ∨ classesOk (expT xs) = true := by
  unfold expT
  split
  · split
    · split
      · rename_i h; exact .inr h
      · exact .inl rfl
    · exact .inl rfl
  · exact .inl rfl
theorem expT_len (xs : List (List Int × Int)) : (expT xs).length ≤ 1048576 := by
  rcases expT_cases xs with e | h
  · rw [e]; exact Nat.zero_le _
  · have := classes_len h; omega
theorem expT_short (xs : List (List Int × Int)) : ∀ p ∈ expT xs, p.1.length ≤ 1048576 := by
  rcases expT_cases xs with e | h
  · rw [e]; simp
  · intro p hp
    obtain ⟨i, hi⟩ := List.getElem?_of_mem hp
    have := (classes_each h hi).2
    omega
theorem sz_T_bound {L : List (List Int × Int)} {B : Nat} (h : ∀ p ∈ L, p.1.length ≤ B) : sz_T L ≤ L.length * (B + 1) := by
  induction L with
  | nil => exact Nat.zero_le _
  | cons p L ih =>
    have h1 := ih fun q hq => h q (List.mem_cons_of_mem _ hq)
    have h2 := h p List.mem_cons_self
    rw [sz_T, List.length_cons, Nat.succ_mul]
    omega
theorem expT_sz (xs : List (List Int × Int)) : sz_K (expT xs) ≤ 1099511627776 := by
  rcases expT_cases xs with e | h
  · rw [e]; exact Nat.zero_le _
  · have h1 := sz_T_bound (L := expT xs) (B := 7) fun p hp => by
      obtain ⟨i, hi⟩ := List.getElem?_of_mem hp
      exact (classes_each h hi).2
    have := classes_len h
    show sz_T (expT xs) ≤ _
    omega
end Go.Proofs.Ytocgcgmlemoekaa
