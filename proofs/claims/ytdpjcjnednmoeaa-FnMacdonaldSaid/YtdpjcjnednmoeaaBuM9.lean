/-
  The closures of PipeDreams: whether a dream is in a list.
  Plain: ordered lists of dreams; one put in.
  A list without what is like its neighbour ahead: plain.
  Contract of slices.CompactFunc at dreams.
-/
import Derived.Test.YtdpjcjnednmoeaaBuM8
import Derived.Lib.SliceRun
namespace Go.Proofs.Ytdpjcjnednmoeaa
open Go.RowKit

/-- whether the list has the dream -/
def hasD (xss : List (List (Int × Int))) (d : List (Int × Int)) : Bool := xss.contains d
set_option maxRecDepth 100000 in
set_option maxHeartbeats 1600000 in
theorem pipeEq_any (D : Nat) (a b : Option Addr) (n c m e0 : Nat) (xs ys : List (Int × Int)) (w : World) (hD : w.cell? ⟨D, 0, none⟩ = some (.slice b m e0)) (hr : RC w a xs) (hs : RC w b ys) (hn : xs.length = n) (hm : ys.length = m) (hb : n ≤ 1048576) :
    Calls Try.prog 29 #[.slice a n c, .pointer (some ⟨D, 0, none⟩)] w fun e w' => e = .returned (.bool (decide (xs = ys))) ∧ Drew w w' := by
  have Hn := Lib.hid hn; clear hn
  have Hm := Lib.hid hm; clear hm
  obtain ⟨r, hr0⟩ : ∃ r, decide (xs = ys) = r := ⟨_, rfl⟩
  have Hr := Lib.hid hr0
  rw [hr0]
  clear hr0
  go_enter Try.func29, Try.ntmps29
  go_wp2_with fail
  refine (is (equalC_any _ _ _ _ _ _ xs ys _ hr hs Hn.out Hm.out hb) Hr.out).mono ?_
  rintro e w1 ⟨rfl, hd1⟩
  go_wp2
  go_ret
  exact ⟨rfl, hd1⟩

set_option maxRecDepth 100000 in
set_option maxHeartbeats 1600000 in
theorem pipeIndex_any (D : Nat) (a b : Option Addr) (n c m e0 : Nat) (xss : List (List (Int × Int))) (ys : List (Int × Int)) (w : World) (hD : w.cell? ⟨D, 0, none⟩ = some (.slice b m e0)) (hr : RCC w a xss) (hs : RC w b ys) (hn : xss.length = n) (hm : ys.length = m) (hb : n ≤ 1048576) (hsh : ShortCC xss) :
    Calls Try.prog 52 #[.slice a n c, .func (.func 29) #[] #[.pointer (some ⟨D, 0, none⟩)]] w fun e w' => ∃ r : Int, e = .returned (.int .i64 r) ∧ Hid (decide (0 ≤ r) = hasD xss ys) ∧ Drew w w' := by
  have Hn := Lib.hid hn; clear hn
  have Hm := Lib.hid hm; clear hm
  have Hsh := Lib.hid hsh; clear hsh
  go_enter Try.func52, Try.ntmps52
  go_wp2
  go_loopw [8] (fun iv wr => Hid (∃ k : Nat, k ≤ n ∧ iv = .int .i64 k ∧ ∀ j, j < k → xss[j]? ≠ some ys) ∧ Drew w wr) (fun iv _ => n - (intOf iv).toNat)
  case atStart => exact ⟨⟨0, Nat.zero_le _, rfl, fun j hj => by omega⟩, Drew.refl _⟩
  case round =>
    obtain ⟨HV, hd⟩ := hrel
    obtain ⟨wo, rfl⟩ : ∃ wo : World, wo = wr := ⟨_, rfl⟩
    obtain ⟨k, hk, rfl, hno⟩ := HV.out
    clear HV
    have Hno := Lib.hid hno
    clear hno
    by_cases hlt : k < n
    · obtain ⟨x, hx⟩ := some_of (show k < xss.length by rw [Hn.out]; exact hlt)
      obtain ⟨b1, off, rfl, hcell⟩ := (hr.below (hd.below _)).at (k := k) (by rw [Hn.out]; exact hlt)
      obtain ⟨a1, c1, hc1, hr1⟩ := hcell k x hx
      have hxl := Hsh.out x (List.mem_of_getElem? hx)
      have hDo : wo.cell? ⟨D, 0, none⟩ = some (.slice b m e0) := by rw [hd.cell]; exact hD
      have hso := hs.below (hd.below w.heap.size)
      obtain ⟨lx, hlx⟩ : ∃ l, x.length = l := ⟨_, rfl⟩
      rw [hlx] at hc1 hxl
      have Hlx := Lib.hid hlx
      have Hx := Lib.hid hx
      have q1 : (k : Int) < (n : Int) := by omega
      clear hcell hx hlx
      by_cases he : x = ys
      · have He := Lib.hid (show decide (x = ys) = true by simpa using he)
        have Hm2 := Lib.hid (show xss.contains ys = true from List.contains_iff_mem.2 (List.mem_of_getElem? (by rw [Hx.out, he])))
        clear he
        go_wp2_with fail
        refine (is (pipeEq_any D _ _ _ _ _ _ x ys _ hDo hr1 hso Hlx.out Hm.out hxl) He.out).mono ?_
        rintro e w1 ⟨rfl, hd1⟩
        go_wp2
        go_ret
        exact ⟨_, rfl, (show decide ((0 : Int) ≤ (k : Int)) = xss.contains ys by rw [Hm2.out]; simp), hd.trans hd1⟩
      · have He := Lib.hid (show decide (x = ys) = false by simpa using he)
        have Hno2 := Lib.hid (show ∀ j, j < k + 1 → xss[j]? ≠ some ys from fun j hj => by
          rcases Nat.lt_or_ge j k with h | h
          · exact Hno.out j h
          · obtain rfl : j = k := by omega
            rw [Hx.out]
            exact fun e => he (Option.some.inj e))
        clear he
        go_wp2_with fail
        refine (is (pipeEq_any D _ _ _ _ _ _ x ys _ hDo hr1 hso Hlx.out Hm.out hxl) He.out).mono ?_
        rintro e w1 ⟨rfl, hd1⟩
        go_wp2
        go_roundw
        case rel => exact ⟨⟨k + 1, by omega, by go_num, Hno2.out⟩, hd.trans hd1⟩
        case measure => simp [intOf]; omega
    · obtain rfl : k = n := by omega
      have Hm2 := Lib.hid (show xss.contains ys = false by
        rw [Bool.eq_false_iff]
        intro hc
        obtain ⟨j, hj⟩ := List.getElem?_of_mem (List.contains_iff_mem.1 hc)
        exact Hno.out j (by have := (List.getElem?_eq_some_iff.1 hj).1; rw [Hn.out] at this; exact this) hj)
      go_wp2
      go_ret
      exact ⟨_, rfl, (show decide ((0 : Int) ≤ -1) = xss.contains ys by rw [Hm2.out]; simp), hd⟩

set_option maxRecDepth 100000 in
set_option maxHeartbeats 1600000 in
theorem pipeContains_any (D : Nat) (a b : Option Addr) (n c m e0 : Nat) (xss : List (List (Int × Int))) (ys : List (Int × Int)) (w : World) (hD : w.cell? ⟨D, 0, none⟩ = some (.slice b m e0)) (hr : RCC w a xss) (hs : RC w b ys) (hn : xss.length = n) (hm : ys.length = m) (hb : n ≤ 1048576) (hsh : ShortCC xss) :
    Calls Try.prog 28 #[.slice a n c, .func (.func 29) #[] #[.pointer (some ⟨D, 0, none⟩)]] w fun e w' => e = .returned (.bool (hasD xss ys)) ∧ Drew w w' := by
  have Hn := Lib.hid hn; clear hn
  have Hm := Lib.hid hm; clear hm
  have Hsh := Lib.hid hsh; clear hsh
  go_enter Try.func28, Try.ntmps28
  go_wp2_with fail
  refine (pipeIndex_any D _ _ _ _ _ _ xss ys _ hD hr hs Hn.out Hm.out hb Hsh.out).mono ?_
  rintro e w1 ⟨r, rfl, hr1, hd1⟩
  have Hr := Lib.hid hr1.out
  clear hr1
  go_wp2
  go_ret
  exact ⟨ret_bool (by rw [← Hr.out]), hd1⟩

set_option maxRecDepth 100000 in
set_option maxHeartbeats 1600000 in
theorem pipeHas_any (A : Nat) (a b : Option Addr) (n c m e0 : Nat) (xss : List (List (Int × Int))) (ys : List (Int × Int)) (w : World) (hA : w.cell? ⟨A, 0, none⟩ = some (.slice a n c)) (hr : RCC w a xss) (hs : RC w b ys) (hn : xss.length = n) (hm : ys.length = m) (hb : n ≤ 1048576) (hsh : ShortCC xss) :
    Calls Try.prog 27 #[.slice b m e0, .pointer (some ⟨A, 0, none⟩)] w fun e w' => e = .returned (.bool (hasD xss ys)) ∧ Below w.heap.size w w' := by
  have Hn := Lib.hid hn; clear hn
  have Hm := Lib.hid hm; clear hm
  have Hsh := Lib.hid hsh; clear hsh
  have hB0 : Below w.heap.size w (w.alloc (.cells #[.slice b m e0] 44)) := (Below.refl _ _).alloc (Nat.le_refl _) _
  have hD : (w.alloc (.cells #[.slice b m e0] 44)).cell? ⟨w.heap.size, 0, none⟩ = some (.slice b m e0) := by rw [World.cell?_alloc_at _ _ _ _ (by simp)]; rfl
  have hA0 : (w.alloc (.cells #[.slice b m e0] 44)).cell? ⟨A, 0, none⟩ = some (.slice a n c) := by rw [hB0.cell (World.block_lt_of_cell? _ _ hA)]; exact hA
  have hr0 := hr.below hB0
  have hs0 := hs.below hB0
  go_enter Try.func27, Try.ntmps27
  go_wp2_with fail
  refine (pipeContains_any w.heap.size _ _ _ _ _ _ xss ys _ hD hr0 hs0 Hn.out Hm.out hb Hsh.out).mono ?_
  rintro e w1 ⟨rfl, hd1⟩
  have hB1 := hB0.trans (hd1.below _)
  go_wp2
  go_ret
  exact ⟨rfl, hB1⟩
end Go.Proofs.Ytdpjcjnednmoeaa

namespace Go.Proofs.Ytdpjcjnednmoeaa

/-- lists of moderate length, no two alike -/
structure GoodCC (xs : List (List (Int × Int))) : Prop where
  each : ∀ p ∈ xs, p.length ≤ 1048576
  apart : ∀ (i j : Nat) (p q : List (Int × Int)), xs[i]? = some p → xs[j]? = some q → p = q → i = j
/-- how many of the list's first ones lie ahead of x -/
def cutD (x : List (Int × Int)) : List (List (Int × Int)) → Nat
  | [] => 0
  | y :: l => if lessD y x = true then cutD x l + 1 else 0
/-- x put in at its place, unless it is there -/
def insD (x : List (Int × Int)) (l : List (List (Int × Int))) : List (List (Int × Int)) := if l[cutD x l]? = some x then l else l.take (cutD x l) ++ [x] ++ l.drop (cutD x l)
theorem cutD_le (x : List (Int × Int)) : ∀ l : List (List (Int × Int)), cutD x l ≤ l.length
  | [] => Nat.le_refl _
  | y :: l => by
    unfold cutD
    split
    · have := cutD_le x l; simp; omega
    · exact Nat.zero_le _
theorem cutD_lo {x : List (Int × Int)} : ∀ {l : List (List (Int × Int))} {k : Nat} {y : List (Int × Int)}, k < cutD x l → l[k]? = some y → lessD y x = true
  | [], _, _, h, _ => by simp [cutD] at h
  | z :: l, k, y, h, hy => by
    unfold cutD at h
    split at h
    · rename_i hz
      match k, hy with
      | 0, hy => simp at hy; rw [← hy]; exact hz
      | k + 1, hy => exact cutD_lo (l := l) (k := k) (by omega) (by simpa using hy)
    · omega
theorem cutD_hi {x : List (Int × Int)} : ∀ {l : List (List (Int × Int))} {y : List (Int × Int)}, l[cutD x l]? = some y → lessD y x = false
  | [], _, h => by simp at h
  | z :: l, y, h => by
    unfold cutD at h
    split at h
    · exact cutD_hi (l := l) (by simpa using h)
    · rename_i hz
      simp at h
      rw [← h]
      simpa using hz
/-- the place is known by its two sides -/
theorem cutD_at {x : List (Int × Int)} {l : List (List (Int × Int))} {k : Nat} (hk : k ≤ cutD x l) (h : k = l.length ∨ ∃ y, l[k]? = some y ∧ lessD y x = false) : cutD x l = k := by
  have := cutD_le x l
  rcases h with h | ⟨y, hy, hn⟩
  · omega
  · rcases Nat.lt_or_ge k (cutD x l) with hlt | hge
    · have := cutD_lo hlt hy
      rw [hn] at this
      cases this
    · omega
def AscD (l : List (List (Int × Int))) : Prop := l.Pairwise fun p q => lessD p q = true
theorem mem_insD {x y : List (Int × Int)} {l : List (List (Int × Int))} : y ∈ insD x l ↔ y = x ∨ y ∈ l := by
  unfold insD
  split
  · rename_i h
    exact ⟨.inr, fun h' => h'.elim (fun e => e ▸ List.mem_of_getElem? h) id⟩
  · have e : l = l.take (cutD x l) ++ l.drop (cutD x l) := (List.take_append_drop _ _).symm
    conv => rhs; rw [e]
    simp only [List.mem_append, List.mem_singleton]
    constructor
    · rintro ((h | h) | h)
      · exact .inr (.inl h)
      · exact .inl h
      · exact .inr (.inr h)
    · rintro (h | h | h)
      · exact .inl (.inr h)
      · exact .inl (.inl h)
      · exact .inr h
theorem asc_insD {x : List (Int × Int)} {l : List (List (Int × Int))} (h : AscD l) : AscD (insD x l) := by
  unfold insD
  split
  · exact h
  · rename_i hne
    have h0 := h
    unfold AscD at *
    rw [← List.take_append_drop (cutD x l) l, List.pairwise_append] at h
    obtain ⟨h1, h2, h3⟩ := h
    have lo : ∀ y ∈ l.take (cutD x l), lessD y x = true := by
      intro y hy
      obtain ⟨k, hk⟩ := List.getElem?_of_mem hy
      have hkl := (List.getElem?_eq_some_iff.1 hk).1
      rw [List.length_take] at hkl
      rw [List.getElem?_take_of_lt (by omega)] at hk
      exact cutD_lo (by omega) hk
    have hi : ∀ y ∈ l.drop (cutD x l), lessD x y = true := by
      intro y hy
      obtain ⟨k, hk⟩ := List.getElem?_of_mem hy
      rw [List.getElem?_drop] at hk
      have hlt : cutD x l < l.length := by have := (List.getElem?_eq_some_iff.1 hk).1; omega
      have hz : l[cutD x l]? = some l[cutD x l] := List.getElem?_eq_getElem hlt
      have hn := cutD_hi hz
      have hxz : lessD x l[cutD x l] = true := by
        cases hc : lessD x l[cutD x l] with
        | true => rfl
        | false => exact absurd (by rw [hz, lessD_total hn hc]) hne
      match k, hk with
      | 0, hk =>
        rw [Nat.add_zero, hz] at hk
        rw [← Option.some.inj hk]
        exact hxz
      | k + 1, hk =>
        obtain ⟨hkl, e⟩ := List.getElem?_eq_some_iff.1 hk
        have := List.pairwise_iff_getElem.1 h0 (cutD x l) (cutD x l + (k + 1)) hlt hkl (by omega)
        rw [e] at this
        exact lessD_trans hxz this
    rw [List.append_assoc, List.pairwise_append]
    refine ⟨h1, ?_, ?_⟩
    · rw [List.singleton_append, List.pairwise_cons]
      exact ⟨hi, h2⟩
    · intro y hy z hz
      rw [List.singleton_append, List.mem_cons] at hz
      rcases hz with rfl | hz
      · exact lo y hy
      · exact h3 y hy z hz
theorem ascD_ext : ∀ {a b : List (List (Int × Int))}, AscD a → AscD b → (∀ x, x ∈ a ↔ x ∈ b) → a = b
  | [], [], _, _, _ => rfl
  | [], y :: b, _, _, h => absurd ((h y).2 List.mem_cons_self) (by simp)
  | x :: a, [], _, _, h => absurd ((h x).1 List.mem_cons_self) (by simp)
  | x :: a, y :: b, ha, hb, h => by
    obtain ⟨ha1, ha2⟩ := List.pairwise_cons.1 ha
    obtain ⟨hb1, hb2⟩ := List.pairwise_cons.1 hb
    have hxy : x = y := by
      rcases List.mem_cons.1 ((h x).1 List.mem_cons_self) with e | e
      · exact e
      · rcases List.mem_cons.1 ((h y).2 List.mem_cons_self) with e' | e'
        · exact e'.symm
        · have := lessD_trans (hb1 x e) (ha1 y e')
          rw [lessD_irrefl] at this
          cases this
    subst hxy
    rw [ascD_ext ha2 hb2 fun z => ?_]
    constructor
    · intro hz
      rcases List.mem_cons.1 ((h z).1 (List.mem_cons_of_mem _ hz)) with e | e
      · subst e
        have := ha1 z hz
        rw [lessD_irrefl] at this
        cases this
      · exact e
    · intro hz
      rcases List.mem_cons.1 ((h z).2 (List.mem_cons_of_mem _ hz)) with e | e
      · subst e
        have := hb1 z hz
        rw [lessD_irrefl] at this
        cases this
      · exact e
/-- all of a list put in one behind the other -/
def ascD (L : List (List (Int × Int))) : List (List (Int × Int)) := L.foldl (fun l x => insD x l) []
theorem foldl_insD (L : List (List (Int × Int))) : ∀ l, AscD l → AscD (L.foldl (fun l x => insD x l) l) ∧ ∀ y, y ∈ L.foldl (fun l x => insD x l) l ↔ y ∈ L ∨ y ∈ l := by
  induction L with
  | nil => intro l h; exact ⟨h, fun y => by simp⟩
  | cons x L ih =>
    intro l h
    obtain ⟨h1, h2⟩ := ih _ (asc_insD (x := x) h)
    refine ⟨h1, fun y => ?_⟩
    rw [List.foldl_cons, h2, mem_insD, List.mem_cons]
    constructor
    · rintro (h | h | h)
      · exact .inl (.inr h)
      · exact .inl (.inl h)
      · exact .inr h
    · rintro ((h | h) | h)
      · exact .inr (.inl h)
      · exact .inl h
      · exact .inr (.inr h)
theorem ascD_asc (L : List (List (Int × Int))) : AscD (ascD L) := (foldl_insD L [] List.Pairwise.nil).1
theorem mem_ascD {L : List (List (Int × Int))} {y : List (Int × Int)} : y ∈ ascD L ↔ y ∈ L := by
  rw [ascD, (foldl_insD L [] List.Pairwise.nil).2]
  simp
theorem ascD_snoc (L : List (List (Int × Int))) (x : List (Int × Int)) : ascD (L ++ [x]) = insD x (ascD L) := by
  unfold ascD
  rw [List.foldl_append]
  rfl
/-- an ordered list of the same ones is that list -/
theorem ascD_perm {L l : List (List (Int × Int))} (hp : l.Perm L) (hs : l.Pairwise fun p q => lessD p q = true) : l = ascD L := ascD_ext hs (ascD_asc L) fun x => by rw [mem_ascD]; exact hp.mem_iff
theorem insD_length (x : List (Int × Int)) (l : List (List (Int × Int))) : (insD x l).length ≤ l.length + 1 := by
  unfold insD
  split
  · omega
  · have := cutD_le x l
    simp
    omega
end Go.Proofs.Ytdpjcjnednmoeaa

namespace Go.Proofs.Ytdpjcjnednmoeaa

/-- place i is kept -/
def keepI (xss : List (List (Int × Int))) (i : Nat) : Bool := i == 0 || decide (xss.getD i [] ≠ xss.getD (i - 1) [])
/-- the places kept among the first m -/
def compI (xss : List (List (Int × Int))) (m : Nat) : List Nat := (List.range m).filter (keepI xss)
def compD (xss : List (List (Int × Int))) : List (List (Int × Int)) := (compI xss xss.length).map fun i => xss.getD i []
theorem compI_succ (xss : List (List (Int × Int))) (m : Nat) : compI xss (m + 1) = if keepI xss m = true then compI xss m ++ [m] else compI xss m := by
  unfold compI
  rw [List.range_succ, List.filter_append]
  cases h : keepI xss m
  · simp [h]
  · simp [h]
theorem compI_le (xss : List (List (Int × Int))) (m : Nat) : (compI xss m).length ≤ m := by
  unfold compI
  have := List.length_filter_le (keepI xss) (List.range m)
  simpa using this
theorem compI_lt {xss : List (List (Int × Int))} {m i : Nat} (h : i ∈ compI xss m) : i < m := by
  unfold compI at h
  exact List.mem_range.1 (List.mem_filter.1 h).1
/-- nothing dropped as yet -/
theorem compI_all {xss : List (List (Int × Int))} : ∀ {m : Nat}, (∀ i, i < m → keepI xss i = true) → compI xss m = List.range m
  | 0, _ => rfl
  | m + 1, h => by rw [compI_succ, if_pos (h m (by omega)), compI_all (fun i hi => h i (by omega)), List.range_succ]
theorem compI_less {xss : List (List (Int × Int))} {k : Nat} (hk : keepI xss k = false) : ∀ {m : Nat}, k < m → (compI xss m).length + 1 ≤ m
  | 0, h => by omega
  | m + 1, h => by
    rw [compI_succ]
    rcases Nat.lt_or_ge k m with h1 | h1
    · have := compI_less hk h1
      split
      · rw [List.length_append]; simp; omega
      · omega
    · obtain rfl : k = m := by omega
      rw [if_neg (by rw [hk]; simp)]
      have := compI_le xss k
      omega
/-- a list in weak order: what is left is in strict order, and holds the same -/
theorem compI_asc {xss : List (List (Int × Int))} (h : xss.Pairwise fun p q => lessD q p = false) : ∀ {m : Nat}, m ≤ xss.length →
    AscD ((compI xss m).map fun i => xss.getD i []) ∧ (∀ x, x ∈ (compI xss m).map (fun i => xss.getD i []) ↔ x ∈ xss.take m) ∧ (∀ x ∈ (compI xss m).map (fun i => xss.getD i []), 0 < m → x = xss.getD (m - 1) [] ∨ lessD x (xss.getD (m - 1) []) = true)
  | 0, _ => ⟨List.Pairwise.nil, fun x => by simp [compI], fun x hx => by simp [compI] at hx⟩
  | m + 1, hm => by
    obtain ⟨h1, h2, h3⟩ := compI_asc h (m := m) (by omega)
    have hget : ∀ i, (hi : i < xss.length) → xss.getD i [] = xss[i] := fun i hi => by rw [List.getD_eq_getElem?_getD, List.getElem?_eq_getElem hi]; rfl
    have htk : xss.take (m + 1) = xss.take m ++ [xss.getD m []] := by
      rw [List.take_add_one, List.getElem?_eq_getElem (by omega), hget m (by omega)]
      rfl
    rw [compI_succ, htk, Nat.add_sub_cancel]
    by_cases hm0 : m = 0
    · subst hm0
      rw [if_pos (show keepI xss 0 = true from rfl)]
      refine ⟨by simp [AscD, compI], fun x => by simp [compI], fun x hx _ => ?_⟩
      simp [compI] at hx
      exact .inl hx
    have hpw : lessD (xss.getD m []) (xss.getD (m - 1) []) = false := by
      have := List.pairwise_iff_getElem.1 h (m - 1) m (by omega) (by omega) (by omega)
      rw [hget _ (by omega), hget _ (by omega)]
      exact this
    have hlast : xss.getD (m - 1) [] ∈ xss.take m := by
      refine List.mem_of_getElem? (i := m - 1) ?_
      rw [List.getElem?_take_of_lt (by omega), List.getElem?_eq_getElem (by omega), hget _ (by omega)]
    cases hk : keepI xss m
    · rw [if_neg (by simp)]
      have heq : xss.getD m [] = xss.getD (m - 1) [] := by
        unfold keepI at hk
        simp only [Bool.or_eq_false_iff, decide_eq_false_iff_not, ne_eq, Decidable.not_not] at hk
        exact hk.2
      refine ⟨h1, fun x => ?_, fun x hx _ => ?_⟩
      · rw [h2 x, List.mem_append, List.mem_singleton, heq]
        exact ⟨.inl, fun hh => hh.elim id (fun e => e ▸ hlast)⟩
      · rw [heq]
        exact h3 x hx (by omega)
    · rw [if_pos rfl]
      have hne : xss.getD m [] ≠ xss.getD (m - 1) [] := by
        unfold keepI at hk
        rcases (by simpa using hk : m = 0 ∨ _) with e | e
        · exact absurd e hm0
        · exact e
      have hlt : lessD (xss.getD (m - 1) []) (xss.getD m []) = true := by
        cases h9 : lessD (xss.getD (m - 1) []) (xss.getD m [])
        · exact absurd (lessD_total hpw h9) hne
        · rfl
      have hall : ∀ x ∈ (compI xss m).map (fun i => xss.getD i []), lessD x (xss.getD m []) = true := fun x hx => by
        rcases h3 x hx (by omega) with e | e
        · rw [e]; exact hlt
        · exact lessD_trans e hlt
      rw [List.map_append]
      refine ⟨?_, fun x => ?_, fun x hx _ => ?_⟩
      · unfold AscD
        rw [List.pairwise_append]
        refine ⟨h1, by simp, fun x hx y hy => ?_⟩
        simp at hy
        rw [hy]
        exact hall x hx
      · rw [List.mem_append, List.mem_append, h2 x]
        simp
      · rcases List.mem_append.1 hx with hx | hx
        · exact .inr (hall x hx)
        · left
          simpa using hx
theorem compD_asc {xss L : List (List (Int × Int))} (h : xss.Pairwise fun p q => lessD q p = false) (hp : xss.Perm L) : compD xss = ascD L := by
  obtain ⟨h1, h2, _⟩ := compI_asc h (m := xss.length) (Nat.le_refl _)
  refine ascD_ext h1 (ascD_asc L) fun x => ?_
  rw [mem_ascD, ← hp.mem_iff]
  have := h2 x
  rw [List.take_of_length_le (Nat.le_refl _)] at this
  exact this
end Go.Proofs.Ytdpjcjnednmoeaa

namespace Go.Proofs.Ytdpjcjnednmoeaa
open Go.RowKit

theorem ownsRow_first {w : World} {B e g n c k : Nat} {vs : List Value} (h : w.ownsRow B e 1 (.slice (some ⟨g, 0, none⟩) n c) n vs) (hk : k ≤ n) : w.ownsRow B e 1 (.slice (some ⟨g, 0, none⟩) k c) k (vs.take k) := by
  refine ⟨by rw [List.length_take, h.1]; omega, ?_⟩
  rcases h.2 with ⟨h', _⟩ | ⟨g', cap', cur, h', hb, hg, hnc, hcm, hcs, htake⟩
  · simp at h'
  · simp only [Value.slice.injEq, Option.some.injEq, Addr.mk.injEq] at h'
    obtain ⟨⟨rfl, _⟩, _, rfl⟩ := h'
    refine .inr ⟨g, c, cur, rfl, hb, hg, by omega, hcm, hcs, ?_⟩
    rw [← htake, List.take_take]
    congr 1
    omega
theorem ownsRow_clear {B e g n c : Nat} {z : Value} : ∀ (m : Nat) {w : World} {K : Nat} {vs : List Value}, w.ownsRow B e 1 (.slice (some ⟨g, 0, none⟩) n c) n vs →
    ∃ us, (w.setCells g K (List.replicate m z)).ownsRow B e 1 (.slice (some ⟨g, 0, none⟩) n c) n us ∧ us.take K = vs.take K ∧ w.grownBy (w.setCells g K (List.replicate m z)) (some g)
  | 0, w, K, vs, h => ⟨vs, h, rfl, (Grows.refl w (.slice (some ⟨g, 0, none⟩) n c)).grown⟩
  | m + 1, w, K, vs, h => by
    have h1 := h.stored K z
    obtain ⟨us, h2, h3, h4⟩ := ownsRow_clear m (K := K + 1) h1.1
    refine ⟨us, h2, ?_, grownBy.trans h1.2 h4⟩
    have h5 := congrArg (List.take K) h3
    rw [List.take_take, List.take_take, Nat.min_eq_left (by omega)] at h5
    rw [h5, List.take_set_of_le (by omega)]

set_option maxRecDepth 100000 in
set_option maxHeartbeats 3200000 in
theorem compactC_any (B S g c n : Nat) (xss : List (List (Int × Int))) (w : World) (ho : CCO w B S (some ⟨g, 0, none⟩) n c xss) (hb : n ≤ 1048576) (hsh : ShortCC xss) :
    Calls Try.prog 55 #[.slice (some ⟨g, 0, none⟩) n c, .func (.func 30) #[] #[]] w fun e w' => ∃ n', e = .returned (.slice (some ⟨g, 0, none⟩) n' c) ∧ CCO w' B S (some ⟨g, 0, none⟩) n' c (compD xss) ∧ Only B S w w' := by
  have Hn := Lib.hid ho.len
  have HO := Lib.hid ho
  have hr := ho.rd
  have Hsh := Lib.hid hsh; clear hsh
  have hcap : n ≤ c := by
    obtain ⟨vs, h1, _⟩ := ho
    rcases h1.2 with ⟨h', _⟩ | ⟨g', cap', cur, h', hb, hg, hnc, _⟩
    · simp at h'
    · simp only [Value.slice.injEq] at h'
      omega
  have Hall := Lib.hid (show (∀ i, i < n → keepI xss i = true) → compD xss = xss from fun h => by
    unfold compD
    rw [compI_all (by rw [Hn.out]; exact h)]
    apply List.ext_getElem?
    intro k
    rcases Nat.lt_or_ge k xss.length with hk | hk
    · rw [List.getElem?_map, List.getElem?_range hk, List.getElem?_eq_getElem hk, Option.map_some, List.getD_eq_getElem?_getD, List.getElem?_eq_getElem hk]
      rfl
    · rw [List.getElem?_eq_none (by simp; omega), List.getElem?_eq_none hk])
  clear ho
  go_enter Try.func55, Try.ntmps55
  by_cases h2 : n < 2
  · have q0 : (n : Int) < 2 := by omega
    have Hfin := Lib.hid (show CCO w B S (some ⟨g, 0, none⟩) n c (compD xss) by
      rw [Hall.out (fun i hi => by
        obtain rfl : i = 0 := by omega
        rfl)]
      exact HO.out)
    go_wp2
    go_ret
    exact ⟨_, rfl, Hfin.out, Only.refl _ _ _⟩
  have q0 : ¬ (n : Int) < 2 := by omega
  go_wp2
  go_loopw [5] (fun iv wr => Hid (∃ k : Nat, 1 ≤ k ∧ k ≤ n ∧ iv = .int .i64 k ∧ ∀ i, i < k → keepI xss i = true) ∧ Drew w wr) (fun iv _ => n - (intOf iv).toNat)
  case atStart => exact ⟨⟨1, Nat.le_refl _, by omega, rfl, fun i hi => by
    have h0 : i = 0 := by simpa using hi
    subst h0
    rfl⟩, Drew.refl _⟩
  case round =>
    obtain ⟨HV, hd⟩ := hrel
    obtain ⟨wo, rfl⟩ : ∃ wo : World, wo = wr := ⟨_, rfl⟩
    obtain ⟨k, hk1, hk, rfl, hkeep⟩ := HV.out
    clear HV
    have Hkeep := Lib.hid hkeep
    clear hkeep
    by_cases hlt : k < n
    · obtain ⟨j, hj⟩ : ∃ j, k = j + 1 := ⟨k - 1, by omega⟩
      obtain ⟨x, hx⟩ := some_of (show j < xss.length by rw [Hn.out]; omega)
      obtain ⟨y, hy⟩ := some_of (show k < xss.length by rw [Hn.out]; exact hlt)
      rcases hr.below (hd.below w.heap.size) with h0 | ⟨b, off, eb, hcell⟩
      · rw [h0] at hx; simp at hx
      simp only [Option.some.injEq, Addr.mk.injEq] at eb
      obtain ⟨rfl, rfl, _⟩ := eb
      obtain ⟨a1, c1, hc1, hr1⟩ := hcell j x hx
      obtain ⟨a2, c2, hc2, hr2⟩ := hcell k y hy
      simp only [Nat.zero_add] at hc1 hc2
      have hxl := Hsh.out x (List.mem_of_getElem? hx)
      have hyl := Hsh.out y (List.mem_of_getElem? hy)
      have Hkk := Lib.hid (show keepI xss k = decide (y ≠ x) by
        unfold keepI
        rw [show (k == 0) = false by simp; omega, Bool.false_or, List.getD_eq_getElem?_getD, hy, List.getD_eq_getElem?_getD, show k - 1 = j by omega, hx]
        rfl)
      obtain ⟨lx, hlx⟩ : ∃ l, x.length = l := ⟨_, rfl⟩
      obtain ⟨ly, hly⟩ : ∃ l, y.length = l := ⟨_, rfl⟩
      rw [hlx] at hc1 hxl
      rw [hly] at hc2 hyl
      have Hlx := Lib.hid hlx
      have Hly := Lib.hid hly
      have q1 : (k : Int) < (n : Int) := by omega
      have q2 : (j : Int) < (n : Int) := by omega
      have q3 : wrap64 ((k : Int) - 1) = (j : Int) := by unfold wrap64; omega
      have q4 : IntKind.i64.wrap ((k : Int) - 1) = (j : Int) := by rw [IntWalk.i64_in _ (by omega)]; omega
      clear hcell hx hy hlx hly hj
      by_cases hyx : y = x
      · have Hyx := Lib.hid (show decide (y = x) = true by simpa using hyx)
        have Hk0 := Lib.hid (show keepI xss k = false by rw [Hkk.out]; simpa using hyx)
        have q5 : (k : Int) ≤ (c : Int) := by omega
        have q6 : (k : Int) ≤ (n : Int) := by omega
        have q7 : ¬ c = k := by omega
        clear hyx
        go_wp2
        go_quiet ((go_at_call 30; exact quiet (is (equalC_any _ _ _ _ _ _ y x _ (hr2.below ((Drew.drewN _ _).below _)) (hr1.below ((Drew.drewN _ _).below _)) Hly.out Hlx.out (by omega)) Hyx.out)))
        go_wp2
        obtain ⟨vs, v1, v2, v3⟩ := HO.out
        have hvl : vs.length = n := by rw [v3.len]; exact Hn.out
        have HV3 := Lib.hid v3
        have hdq := hd.trans (Drew.drewN wo nq)
        have hgq : w.grownBy (wo.drewN nq) (some g) := (Grows.of_below (.slice (some ⟨g, 0, none⟩) n c) (hdq.below _)).grown
        have hci : (compI xss (k + 1)).length = k := by rw [compI_succ, if_neg (by rw [Hk0.out]; simp), compI_all Hkeep.out, List.length_range]
        have hkm : (compI xss (k + 1)).map (fun i => vs.getD i undef) = vs.take k := by
          rw [compI_succ, if_neg (by rw [Hk0.out]; simp), compI_all Hkeep.out]
          apply List.ext_getElem?
          intro i
          rcases Nat.lt_or_ge i k with h | h
          · rw [List.getElem?_map, List.getElem?_range h, List.getElem?_take_of_lt h, Option.map_some, List.getD_eq_getElem?_getD, List.getElem?_eq_getElem (by omega)]
            rfl
          · rw [List.getElem?_eq_none (by simp; omega), List.getElem?_eq_none (by simp; omega)]
        have h1q : (wo.drewN nq).ownsRow B 44 1 (.slice (some ⟨g, 0, none⟩) n c) n ((compI xss (k + 1)).map (fun i => vs.getD i undef) ++ vs.drop k) := by
          rw [hkm, List.take_append_drop]
          exact ownsRow_only v1 v2 (Only.of_below (hdq.below _)) (.inr (Nat.zero_le _))
        clear hkm hc1 hc2 hr1 hr2
        go_loopw [5, 7] (fun kv tv wr => Hid (∃ K t : Nat, kv = .int .i64 K ∧ tv = .int .i64 t ∧ 1 ≤ t ∧ t ≤ n - k ∧ (compI xss (k + t)).length = K ∧ wr.ownsRow B 44 1 (.slice (some ⟨g, 0, none⟩) n c) n ((compI xss (k + t)).map (fun i => vs.getD i undef) ++ vs.drop K)) ∧ w.grownBy wr (some g)) (fun _ tv _ => n - k - (intOf tv).toNat)
        case atStart => exact ⟨⟨k, 1, rfl, rfl, Nat.le_refl _, by omega, hci, h1q⟩, hgq⟩
        case round =>
          clear h1q hgq hci
          obtain ⟨HV, hgr⟩ := hrel
          obtain ⟨wt, rfl⟩ : ∃ wt : World, wt = wr := ⟨_, rfl⟩
          obtain ⟨K, t, rfl, rfl, ht1, htn, hK, hrow⟩ := HV.out
          clear HV
          have hKl := compI_less Hk0.out (m := k + t) (by omega)
          rw [hK] at hKl
          by_cases htl : t < n - k
          · have r1 : (t : Int) < ((n - k : Nat) : Int) := by omega
            obtain ⟨t', ht'⟩ : ∃ t', t = t' + 1 := ⟨t - 1, by omega⟩
            obtain ⟨x2, hx2⟩ := some_of (show k + t' < xss.length by rw [Hn.out]; omega)
            obtain ⟨y2, hy2⟩ := some_of (show k + t < xss.length by rw [Hn.out]; omega)
            obtain ⟨d1, e1, hv1, hco1⟩ := HV3.out.each _ x2 hx2
            obtain ⟨d2, e2, hv2, hco2⟩ := HV3.out.each _ y2 hy2
            have hw1 : wt.cell? ⟨g, k + t', none⟩ = some (.slice d1 x2.length e1) := by
              rw [hrow.cellAt (k + t') (by omega), List.getElem?_append_right (by rw [List.length_map, hK]; omega), List.length_map, hK, List.getElem?_drop, show K + (k + t' - K) = k + t' by omega]
              exact hv1
            have hw2 : wt.cell? ⟨g, k + t, none⟩ = some (.slice d2 y2.length e2) := by
              rw [hrow.cellAt (k + t) (by omega), List.getElem?_append_right (by rw [List.length_map, hK]; omega), List.length_map, hK, List.getElem?_drop, show K + (k + t - K) = k + t by omega]
              exact hv2
            have hrx := (hco1.kept hgr (fun q hq e => neC_block v1 hco1 q (by rw [← e]; rfl) hq)).rd
            have hry := (hco2.kept hgr (fun q hq e => neC_block v1 hco2 q (by rw [← e]; rfl) hq)).rd
            have hkt : keepI xss (k + t) = decide (y2 ≠ x2) := by
              unfold keepI
              rw [show (k + t == 0) = false by simp; omega, Bool.false_or, List.getD_eq_getElem?_getD, hy2, List.getD_eq_getElem?_getD, show k + t - 1 = k + t' by omega, hx2]
              rfl
            have hgd : vs.getD (k + t) undef = .slice d2 y2.length e2 := by rw [List.getD_eq_getElem?_getD, hv2]; rfl
            have hxl2 := Hsh.out x2 (List.mem_of_getElem? hx2)
            have hyl2 := Hsh.out y2 (List.mem_of_getElem? hy2)
            have Hco2 := Lib.hid hco2
            obtain ⟨lx2, hlx2⟩ : ∃ l, x2.length = l := ⟨_, rfl⟩
            obtain ⟨ly2, hly2⟩ : ∃ l, y2.length = l := ⟨_, rfl⟩
            rw [hlx2] at hw1 hxl2
            rw [hly2] at hw2 hyl2 hgd
            have Hlx2 := Lib.hid hlx2
            have Hly2 := Lib.hid hly2
            have r2 : (t' : Int) < ((n - k : Nat) : Int) := by omega
            have r3 : wrap64 ((t : Int) - 1) = (t' : Int) := by unfold wrap64; omega
            have r4 : IntKind.i64.wrap ((t : Int) - 1) = (t' : Int) := by rw [IntWalk.i64_in _ (by omega)]; omega
            have Hgd := Lib.hid hgd
            have Hrow := Lib.hid hrow
            clear hx2 hy2 hv1 hv2 hlx2 hly2 ht' hco1 hco2 hgd hrow
            by_cases hyx2 : y2 = x2
            · have Hy2 := Lib.hid (show decide (y2 = x2) = true by simpa using hyx2)
              have Hci := Lib.hid (show compI xss (k + (t + 1)) = compI xss (k + t) by rw [← Nat.add_assoc, compI_succ, if_neg (by rw [hkt]; simpa using hyx2)])
              clear hyx2 hkt
              go_wp2
              go_quiet ((go_at_call 30; exact quiet (is (equalC_any _ _ _ _ _ _ y2 x2 _ (hry.below ((Drew.drewN _ _).below _)) (hrx.below ((Drew.drewN _ _).below _)) Hly2.out Hlx2.out (by omega)) Hy2.out)))
              go_wp2
              go_roundw
              case rel => exact ⟨⟨K, t + 1, rfl, by go_num, by omega, by omega, by rw [Hci.out]; exact hK, by rw [Hci.out]; exact ownsRow_only Hrow.out (S := g + 1) (fun q hq => by simp [Value.ownBlock] at hq; omega) (Only.of_below ((Drew.drewN wt _).below _)) (.inr (Nat.zero_le _))⟩, grownBy.trans hgr (Grows.of_below (.slice (some ⟨g, 0, none⟩) n c) ((Drew.drewN wt _).below _)).grown⟩
              case measure => simp [intOf]; omega
            · have Hy2 := Lib.hid (show decide (y2 = x2) = false by simpa using hyx2)
              have Hci := Lib.hid (show compI xss (k + (t + 1)) = compI xss (k + t) ++ [k + t] by rw [← Nat.add_assoc, compI_succ, if_pos (by rw [hkt]; simpa using hyx2)])
              clear hyx2 hkt
              go_wp2
              go_quiet ((go_at_call 30; exact quiet (is (equalC_any _ _ _ _ _ _ y2 x2 _ (hry.below ((Drew.drewN _ _).below _)) (hrx.below ((Drew.drewN _ _).below _)) Hly2.out Hlx2.out (by omega)) Hy2.out)))
              have hwK : wt.cell? ⟨g, K, none⟩ = some (vs.getD K undef) := by
                rw [Hrow.out.cellAt K (by omega), List.getElem?_append_right (by rw [List.length_map, hK]; omega), List.length_map, hK, Nat.sub_self, List.getElem?_drop, Nat.add_zero, List.getD_eq_getElem?_getD, List.getElem?_eq_getElem (by omega)]
                rfl
              have hfK : wt.frozen? ⟨g, K, none⟩ = false := Hrow.out.frozenAt K
              have r5 : (K : Int) < (n : Int) := by omega
              have hrowd : (wt.drewN nq).ownsRow B 44 1 (.slice (some ⟨g, 0, none⟩) n c) n ((compI xss (k + t)).map (fun i => vs.getD i undef) ++ vs.drop K) := ownsRow_only Hrow.out (S := g + 1) (fun q hq => by simp [Value.ownBlock] at hq; omega) (Only.of_below ((Drew.drewN wt nq).below _)) (.inr (Nat.zero_le _))
              have hst := hrowd.stored K (.slice d2 ly2 e2)
              rw [show ((compI xss (k + t)).map (fun i => vs.getD i undef) ++ vs.drop K).set K (.slice d2 ly2 e2) = (compI xss (k + (t + 1))).map (fun i => vs.getD i undef) ++ vs.drop (K + 1) by
                rw [List.set_append_right _ _ (by rw [List.length_map, hK]; omega), List.length_map, hK, Nat.sub_self, List.drop_eq_getElem_cons (by omega), List.set_cons_zero, Hci.out, List.map_append, List.append_assoc]
                rw [List.map_singleton, Hgd.out, List.singleton_append]] at hst
              have Hst := Lib.hid hst
              have hgn := grownBy.trans (grownBy.trans hgr (Grows.of_below (.slice (some ⟨g, 0, none⟩) n c) ((Drew.drewN wt nq).below _)).grown) hst.2
              clear hst hrowd
              go_wp2
              go_roundw
              case rel => exact ⟨⟨K + 1, t + 1, by go_num, by go_num, by omega, by omega, by rw [Hci.out, List.length_append, hK]; rfl, Hst.out.1⟩, hgn⟩
              case measure => simp [intOf]; omega
          · obtain rfl : t = n - k := by omega
            have hKn : K < n := by omega
            rw [show k + (n - k) = n by omega] at hrow hK
            have r1 : ¬ ((n - k : Nat) : Int) < ((n - k : Nat) : Int) := by omega
            have r5 : (K : Int) ≤ (n : Int) := by omega
            have r6 : (K : Int) ≤ (c : Int) := by omega
            have r7 : ¬ c = K := by omega
            have hcl : ∀ ty, (Builtin.clear_ #[31] ty #[.slice (some ⟨g, K, none⟩) (n - K) (c - K)]).run Try.prog wt = .ok (.tuple #[]) (wt.setCells g K (List.replicate (n - K) (.slice none 0 0))) := fun ty =>
              Lib.run_clear_slice wt _ _ ty _ Try.underlying31 (fun w => by kernel_rfl) rfl rfl g K _ _ (by omega) (fun j hj => by rw [hrow.cellAt (K + j) (by omega), List.getElem?_eq_getElem (by rw [List.length_append, List.length_map, hK, List.length_drop]; omega)]; rfl) (fun j hj => hrow.frozenAt (K + j))
            obtain ⟨us, hu1, hu2, hu3⟩ := ownsRow_clear (z := Value.slice none 0 0) (n - K) (K := K) hrow
            have hgf := grownBy.trans hgr hu3
            have hrowK := ownsRow_first hu1 (Nat.le_of_lt hKn)
            rw [hu2, List.take_append_of_le_length (by rw [List.length_map, hK]; exact Nat.le_refl _), List.take_of_length_le (by rw [List.length_map, hK]; exact Nat.le_refl _)] at hrowK
            have hfin : CCO (wt.setCells g K (List.replicate (n - K) (.slice none 0 0))) B S (some ⟨g, 0, none⟩) K c (compD xss) := by
              refine ⟨_, hrowK, v2, ⟨by rw [List.length_map, compD, List.length_map, Hn.out], fun i z hz => ?_, fun i j u v b hu hv hub hvb => ?_⟩⟩
              · unfold compD at hz
                rw [List.getElem?_map, Hn.out] at hz
                obtain ⟨q, hq, rfl⟩ := Option.map_eq_some_iff.1 hz
                have hqn : q < n := compI_lt (List.mem_of_getElem? hq)
                obtain ⟨a9, c9, e9, o9⟩ := HV3.out.each q (xss.getD q []) (by rw [List.getD_eq_getElem?_getD, List.getElem?_eq_getElem (by rw [Hn.out]; exact hqn)]; rfl)
                refine ⟨a9, c9, ?_, o9.kept hgf (fun r hr e => neC_block v1 o9 r (by rw [← e]; rfl) hr)⟩
                rw [List.getElem?_map, hq, Option.map_some, List.getD_eq_getElem?_getD, e9]
                rfl
              · rw [List.getElem?_map] at hu hv
                obtain ⟨p1, hp1, rfl⟩ := Option.map_eq_some_iff.1 hu
                obtain ⟨p2, hp2, rfl⟩ := Option.map_eq_some_iff.1 hv
                have hl1 : p1 < n := compI_lt (List.mem_of_getElem? hp1)
                have hl2 : p2 < n := compI_lt (List.mem_of_getElem? hp2)
                have e12 := HV3.out.apart p1 p2 _ _ b (by rw [List.getD_eq_getElem?_getD, List.getElem?_eq_getElem (by omega)]; rfl) (by rw [List.getD_eq_getElem?_getD, List.getElem?_eq_getElem (by omega)]; rfl) hub hvb
                have hnd : (compI xss n).Nodup := List.Nodup.sublist List.filter_sublist List.nodup_range
                exact (List.getElem?_inj (List.getElem?_eq_some_iff.1 hp1).1 hnd).1 (by rw [hp1, hp2, e12])
            have hon : Only B S w (wt.setCells g K (List.replicate (n - K) (.slice none 0 0))) := Only.of_grown (v := .slice (some ⟨g, 0, none⟩) n c) hgf (fun q hq => (v1.lt q hq).1) v2
            have Hfin := Lib.hid hfin
            have Hon := Lib.hid hon
            clear hfin hon hu1 hu2 hu3 hrowK hrow hgf
            go_wp2
            go_ret
            exact ⟨_, rfl, Hfin.out, Hon.out⟩
      · have Hyx := Lib.hid (show decide (y = x) = false by simpa using hyx)
        have Hk2 := Lib.hid (show ∀ i, i < k + 1 → keepI xss i = true from fun i hi => by
          rcases Nat.lt_or_ge i k with h | h
          · exact Hkeep.out i h
          · obtain rfl : i = k := by omega
            rw [Hkk.out]
            simpa using hyx)
        clear hyx
        go_wp2
        go_quiet ((go_at_call 30; exact quiet (is (equalC_any _ _ _ _ _ _ y x _ (hr2.below ((Drew.drewN _ _).below _)) (hr1.below ((Drew.drewN _ _).below _)) Hly.out Hlx.out (by omega)) Hyx.out)))
        go_wp2
        go_roundw
        case rel => exact ⟨⟨k + 1, by omega, by omega, by go_num, Hk2.out⟩, hd.trans (Drew.drewN _ _)⟩
        case measure => simp [intOf]; omega
    · obtain rfl : k = n := by omega
      have hb0 := hd.below w.heap.size
      have Hfin := Lib.hid (show CCO wo B S (some ⟨g, 0, none⟩) k c (compD xss) by rw [Hall.out Hkeep.out]; exact HO.out.below hb0)
      go_wp2
      go_ret
      exact ⟨_, rfl, Hfin.out, ⟨hb0.os, hb0.tape, hb0.output, hb0.size, fun k hk _ => hb0.block k hk⟩⟩
end Go.Proofs.Ytdpjcjnednmoeaa
