/-
  KeyPoly of the program.
-/
import Derived.Test.YtjljacmepidgcaaBuK24
import Derived.Test.YtjljacmepidgcaaBuK11
import Derived.Test.YtjljacmepidgcaaBuK19
namespace Go.Proofs.Ytjljacmepidgcaa
open Go.RowKit Go.MapKept

def keyIn (xs : List Int) : Bool := decide (1 ≤ xs.length) && decide (xs.length ≤ 5) && xs.all fun x => decide (0 ≤ x ∧ x ≤ 4)
def keyM (xs : List Int) : Mons := (ups xs).foldr demM [(keyL (fell xs), 1)]
def keyT (xs : List Int) : List (List Int × Int) := if keyIn xs = true then closedT (keyM xs) else []
def keyOk (xs : List Int) : Bool := keyIn xs && polyOk (termsM (keyM xs))
theorem key_no {xs : List Int} (h : keyIn xs = false) : keyT xs = [] ∧ keyOk xs = false := by
  unfold keyT keyOk
  rw [h]
  exact ⟨rfl, rfl⟩
theorem key_yes {xs : List Int} (h : keyIn xs = true) : keyT xs = closedT (keyM xs) ∧ keyOk xs = polyOk (termsM (keyM xs)) := by
  unfold keyT keyOk
  rw [h]
  exact ⟨if_pos rfl, rfl⟩
theorem keyT_cases (xs : List Int) : keyT xs = [] ∨ ∃ F, keyT xs = closedT F := by
  unfold keyT
  split
  · exact .inr ⟨_, rfl⟩
  · exact .inl rfl
theorem keyT_len (xs : List Int) : (keyT xs).length ≤ 1048576 := by
  rcases keyT_cases xs with e | ⟨F, e⟩
  · rw [e]; exact Nat.zero_le _
  · rw [e]; have := closedT_len F; omega
theorem keyT_sz (xs : List Int) : sz_T (keyT xs) ≤ 1099511627776 := by
  rcases keyT_cases xs with e | ⟨F, e⟩
  · rw [e]; exact Nat.zero_le _
  · rw [e, sz_T_sevens closedT_each]; have := closedT_len F; omega
theorem keyT_short (xs : List Int) : ∀ p ∈ keyT xs, p.1.length ≤ 1048576 := by
  rcases keyT_cases xs with e | ⟨F, e⟩
  · rw [e]; simp
  · rw [e]; intro p hp; rw [closedT_each p hp]; omega
def In4 (xs : List Int) : Prop := ∀ x ∈ xs, 0 ≤ x ∧ x ≤ 4
theorem keyIn_false {xs : List Int} (h : ¬ (1 ≤ xs.length ∧ xs.length ≤ 5) ∨ ∃ (k : Nat) (x : Int), xs[k]? = some x ∧ ¬ (0 ≤ x ∧ x ≤ 4)) : keyIn xs = false := by
  cases hk : keyIn xs with
  | false => rfl
  | true =>
    unfold keyIn at hk
    simp only [Bool.and_eq_true, decide_eq_true_eq, List.all_eq_true] at hk
    rcases h with h | ⟨k, x, hx, h⟩
    · exact absurd hk.1 h
    · exact absurd (hk.2 x (List.mem_of_getElem? hx)) h
theorem keyIn_true {xs : List Int} (h : 1 ≤ xs.length ∧ xs.length ≤ 5) (h4 : In4 xs) : keyIn xs = true := by
  unfold keyIn
  simp only [Bool.and_eq_true, decide_eq_true_eq, List.all_eq_true]
  exact ⟨h, h4⟩
theorem In4.digs {xs : List Int} (h : In4 xs) : Digs xs := fun x hx => by have := h x hx; unfold isD; omega
theorem In4.perm {xs ys : List Int} (h : In4 xs) (hp : ys.Perm xs) : In4 ys := fun x hx => h x (hp.mem_iff.1 hx)
theorem keyL_zeros (xs : List Int) (n : Nat) : keyL (xs ++ List.replicate n 0) = keyL xs := by
  have hz : ∀ n, keyL (List.replicate n 0) = 0 := by
    intro n
    induction n with
    | zero => rfl
    | succ n ih => rw [List.replicate_succ, keyL, ih]; rfl
  induction xs with
  | nil => exact hz n
  | cons a l ih => rw [List.cons_append, keyL, keyL, ih]
/-- exponents up to 4 at the first n places -/
def kb (n : Nat) (j : Nat) : Nat := if j < n then 4 else 0
theorem kb_le (n j : Nat) : kb n j ≤ 4 := by unfold kb; split <;> omega
theorem Bv.kb_start {xs : List Int} {n : Nat} (hn : xs.length = n) (h7 : n ≤ 7) (h : In4 xs) : Bv (kb n) [(keyL xs, 1)] := fun p hp => by
  rw [List.mem_singleton] at hp
  subst hp
  refine ⟨keyL_small h.digs (by omega), fun j hj => ?_⟩
  have hp7 : (xs ++ List.replicate (7 - n) 0).length = 7 := by simp; omega
  have hd : Digs (xs ++ List.replicate (7 - n) 0) := fun x hx => by
    rcases List.mem_append.1 hx with hx | hx
    · exact h.digs x hx
    · rw [List.eq_of_mem_replicate hx]; unfold isD; omega
  have := dig_keyL hp7 hd hj
  rw [keyL_zeros] at this
  show dig (keyL xs) j ≤ _
  unfold kb
  rcases Nat.lt_or_ge j n with hjn | hjn
  · rw [if_pos hjn]
    rw [List.getElem?_append_left (by omega)] at this
    exact (h _ (List.mem_of_getElem? this)).2
  · rw [if_neg (by omega)]
    rw [List.getElem?_append_right (by omega), List.getElem?_replicate] at this
    split at this
    · rw [← Option.some.inj this]; exact Int.le_refl _
    · cases this
theorem Bv.kb_dem {n : Nat} {F : Mons} (h : Bv (kb n) F) {i : Nat} (hi : i ≤ 5) (hin : i + 1 < n) : Bv (kb n) (demM i F) :=
  h.dem_same hi (by have := kb_le n i; omega) (by unfold kb; rw [if_pos hin, if_pos (by omega)])
theorem kb_low {n : Nat} (hn : n ≤ 7) {F : Mons} (h : Bv (kb n) F) : ∀ l : List Nat, (∀ k ∈ l, k + 1 < n) → Bv (kb n) (l.foldr demM F) := by
  intro l
  induction l with
  | nil => intro _; exact h
  | cons k l ih =>
    intro hl
    have hk := hl k List.mem_cons_self
    exact (ih fun q hq => hl q (List.mem_cons_of_mem _ hq)).kb_dem (by omega) hk
theorem kb_count {n : Nat} (h5 : n ≤ 5) {F : Mons} (h : Bv (kb n) F) : (canon F).length ≤ 3125 := by
  have : Bv (kb 5) F := h.mono fun j _ => by unfold kb; split <;> split <;> omega
  exact this.count

/-! the program -/
theorem polyOk_one {s : List Int} (h7 : s.length = 7) (hs : s.all small = true) : polyOk [(s, 1)] = true := by
  refine polyOk_true (by simp) fun j hj => ?_
  obtain rfl : j = 0 := by simpa using hj
  exact termAt_first rfl (by simp [headOk, h7, coefOk]) hs
theorem RP.one {w : World} {b : Option Addr} {d : Nat} {s : List Int} {x : Int} (hr : RI w b s) (hd : s.length ≤ d) : RP (w.alloc (.cells #[.slice b s.length d, .int .i64 x] 45)) (some ⟨w.heap.size, 0, none⟩) [(s, x)] := by
  have hB : Below w.heap.size w (w.alloc (.cells #[.slice b s.length d, .int .i64 x] 45)) := (Below.refl _ _).alloc (Nat.le_refl _) _
  refine .inr ⟨_, 0, rfl, fun k p hp => ?_⟩
  rcases k with _ | k
  · obtain rfl : (s, x) = p := by simpa using hp
    have g := heap_alloc_new w (.cells #[.slice b s.length d, .int .i64 x] 45)
    exact ⟨b, d, by rw [cell_of_row _ _ 0 _ _ (0, 0) g]; rfl, by rw [cell_of_row _ _ 1 _ _ (0, 0) g]; rfl, hr.below hB, hd⟩
  · simp at hp
end Go.Proofs.Ytjljacmepidgcaa
