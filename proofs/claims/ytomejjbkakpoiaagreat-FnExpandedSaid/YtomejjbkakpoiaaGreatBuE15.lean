/-
  Codes and their permutations, found in two ways; what is not moved at the end changes no code: plain.
  Contracts of l1Less, slices.Compare and cmp.Compare: the order of lists of integers.
-/
import Derived.Test.YtomejjbkakpoiaaGreatLead
import Derived.Test.YtomejjbkakpoiaaGreatBuE14
import Derived.Test.YtomejjbkakpoiaaGreatBuE3
namespace Go.Proofs.YtomejjbkakpoiaaGreat
open Go.RowKit

/-! from a code to its permutation -/
def pcL : List Int → List Nat → List Int
  | _, [] => []
  | rest, x :: cs => rest.getD x 0 :: pcL (rest.eraseIdx x) cs
/-- codes that are right for n numbers that are left -/
def CodeOk : List Nat → Prop
  | [] => True
  | x :: cs => x < cs.length + 1 ∧ CodeOk cs
theorem eraseIdx_filter {l : List Int} (hn : l.Nodup) : ∀ {i : Nat} {x : Int}, l[i]? = some x → l.eraseIdx i = l.filter fun y => decide (y ≠ x) := by
  induction l with
  | nil => intro i x h; simp at h
  | cons a l ih =>
    intro i x h
    rw [List.nodup_cons] at hn
    cases i with
    | zero =>
      obtain rfl : a = x := by simpa using h
      rw [List.eraseIdx_zero, List.tail_cons, List.filter_cons]
      simp only [ne_eq, not_true, decide_false, Bool.false_eq_true, if_false]
      rw [List.filter_eq_self.2]
      intro y hy
      simp only [decide_eq_true_eq]
      intro e
      exact hn.1 (by rw [← e]; exact hy)
    | succ i =>
      have h' : l[i]? = some x := by simpa using h
      rw [List.eraseIdx_cons_succ, List.filter_cons, ih hn.2 h']
      have : a ≠ x := fun e => hn.1 (by rw [e]; exact List.mem_of_getElem? h')
      simp [this]
theorem pcL_perm {cs : List Nat} : ∀ {rest : List Int}, rest.length = cs.length → CodeOk cs → (pcL rest cs).Perm rest := by
  induction cs with
  | nil =>
    intro rest h _
    rw [List.eq_nil_of_length_eq_zero h]
    exact List.Perm.refl _
  | cons x cs ih =>
    intro rest h hc
    obtain ⟨hx, hc⟩ := hc
    simp only [List.length_cons] at h
    have hl : x < rest.length := by omega
    have e1 : rest.getD x 0 = rest[x] := by rw [List.getD_eq_getElem?_getD, List.getElem?_eq_getElem hl]; rfl
    rw [pcL, e1]
    have h2 := ih (rest := rest.eraseIdx x) (by rw [List.length_eraseIdx, if_pos hl]; omega) hc
    refine (h2.cons _).trans ?_
    rw [List.eraseIdx_eq_take_drop_succ]
    have e2 : rest = rest.take x ++ rest[x] :: rest.drop (x + 1) := by
      rw [← List.drop_eq_getElem_cons hl, List.take_append_drop]
    conv => rhs; rw [e2]
    exact List.perm_middle.symm
theorem sorted_count {rest : List Int} (hs : rest.Pairwise fun a b => a < b) : ∀ {x : Nat} {y : Int}, rest[x]? = some y → ((rest.eraseIdx x).filter fun z => decide (z < y)).length = x := by
  induction hs with
  | nil => intro x y h; simp at h
  | cons h1 h2 ih =>
    rename_i a l
    intro x y h
    cases x with
    | zero =>
      obtain rfl : a = y := by simpa using h
      rw [List.eraseIdx_zero, List.tail_cons, List.length_eq_zero_iff, List.filter_eq_nil_iff]
      intro z hz
      have := h1 z hz
      simp
      omega
    | succ x =>
      have h' : l[x]? = some y := by simpa using h
      have hay := h1 y (List.mem_of_getElem? h')
      rw [List.eraseIdx_cons_succ, List.filter_cons]
      simp only [hay, decide_true, if_true, List.length_cons]
      rw [ih h']
theorem cod_pcL {cs : List Nat} : ∀ {rest : List Int}, rest.length = cs.length → CodeOk cs → (rest.Pairwise fun a b => a < b) → cod (pcL rest cs) = cs := by
  induction cs with
  | nil => intro rest _ _ _; rfl
  | cons x cs ih =>
    intro rest h hc hs
    obtain ⟨hx, hc⟩ := hc
    simp only [List.length_cons] at h
    have hl : x < rest.length := by omega
    have hx2 : rest[x]? = some (rest.getD x 0) := by rw [List.getD_eq_getElem?_getD, List.getElem?_eq_getElem hl]; rfl
    have hl2 : (rest.eraseIdx x).length = cs.length := by rw [List.length_eraseIdx, if_pos hl]; omega
    have hs2 : (rest.eraseIdx x).Pairwise fun a b => a < b := hs.sublist (List.eraseIdx_sublist _ _)
    rw [pcL, cod, ih hl2 hc hs2, ((pcL_perm hl2 hc).filter _).length_eq, sorted_count hs hx2]
theorem ident_sorted (n : Nat) : (ident n).Pairwise fun a b => a < b := by
  unfold ident
  rw [List.pairwise_map]
  exact List.pairwise_lt_range.imp fun h => by omega
theorem ident_nodup (n : Nat) : (ident n).Nodup := (ident_sorted n).imp fun h => by omega

/-! poc -/
theorem getD_nat {ns : List Nat} {k x : Nat} (h : ns[k]? = some x) : (natL ns).getD k 0 = (x : Int) := by
  rw [List.getD_eq_getElem?_getD, natL, List.getElem?_map, h]; rfl
theorem poc_pcL (n : Nat) (ns : List Nat) : ∀ k, k ≤ ns.length → (poc n (natL ns) k).2 ++ pcL (poc n (natL ns) k).1 (ns.drop k) = pcL (ident n) ns := by
  intro k
  induction k with
  | zero => intro _; rw [poc]; simp
  | succ k ih =>
    intro hk
    have h := ih (by omega)
    have hd : ns.drop k = ns[k] :: ns.drop (k + 1) := List.drop_eq_getElem_cons (by omega)
    rw [← h, hd, pcL, poc, getD_nat (List.getElem?_eq_getElem (by omega))]
    simp
theorem poc_eq {n : Nat} {ns : List Nat} (h : ns.length = n) : (poc n (natL ns) n).2 = pcL (ident n) ns := by
  have := poc_pcL n ns n (by omega)
  rw [← this, List.drop_of_length_le (by omega)]
  cases (poc n (natL ns) n).1 <;> simp [pcL]

/-! decode -/
def freeOf (n : Nat) (out : List Int) : List Int := (ident n).filter fun v => !out.contains v
theorem seek_eq (out : List Int) : ∀ (f v x : Nat), x < (((List.range' v f).map fun k : Nat => (k : Int)).filter fun v => !out.contains v).length →
    seek out f v (x : Int) = out ++ [(((List.range' v f).map fun k : Nat => (k : Int)).filter fun v => !out.contains v).getD x 0] := by
  intro f
  induction f with
  | zero => intro v x h; simp at h
  | succ f ih =>
    intro v x h
    rw [seek]
    rw [List.range'_succ, List.map_cons, List.filter_cons] at h ⊢
    cases hc : out.contains (v : Int)
    · rw [hc] at h
      simp only [Bool.not_false, if_true, Bool.false_eq_true, if_false] at h ⊢
      cases x with
      | zero => simp
      | succ x =>
        have e : ¬ ((x + 1 : Nat) : Int) = 0 := by omega
        have e2 : ((x + 1 : Nat) : Int) - 1 = (x : Int) := by omega
        rw [if_neg e, e2, ih (v + 1) x (by simpa using h)]
        simp
    · rw [hc] at h
      simp only [Bool.not_true, Bool.false_eq_true, if_false, if_true] at h ⊢
      exact ih (v + 1) x h
theorem decode_pcL (n : Nat) : ∀ (ns : List Nat) (out : List Int), CodeOk ns → (freeOf n out).length = ns.length →
    (natL ns).foldl (fun out x => seek out n 0 x) out = out ++ pcL (freeOf n out) ns := by
  intro ns
  induction ns with
  | nil => intro out _ _; simp [natL, pcL]
  | cons x ns ih =>
    intro out hc hl
    obtain ⟨hx, hc⟩ := hc
    simp only [List.length_cons] at hl
    have hr : ((List.range' 0 n).map fun k : Nat => (k : Int)) = ident n := by rw [← List.range_eq_range']; rfl
    have h1 : seek out n 0 (x : Int) = out ++ [(freeOf n out).getD x 0] := by
      have := seek_eq out n 0 x
      rw [hr] at this
      exact this (by show x < (freeOf n out).length; omega)
    have hx2 : (freeOf n out)[x]? = some ((freeOf n out).getD x 0) := by rw [List.getD_eq_getElem?_getD, List.getElem?_eq_getElem (by omega)]; rfl
    have h2 : freeOf n (out ++ [(freeOf n out).getD x 0]) = (freeOf n out).eraseIdx x := by
      have hnd : (freeOf n out).Nodup := (ident_nodup n).filter _
      rw [eraseIdx_filter hnd hx2]
      generalize (freeOf n out).getD x 0 = y
      unfold freeOf
      rw [List.filter_filter]
      congr 1
      funext v
      simp only [List.contains_eq_mem, List.mem_append, List.mem_singleton]
      by_cases e1 : v ∈ out <;> by_cases e2 : v = y <;> simp [e1, e2]
    show List.foldl (fun out x => seek out n 0 x) (seek out n 0 (x : Int)) (natL ns) = _
    rw [h1, ih _ hc (by rw [h2, List.length_eraseIdx, if_pos (by omega)]; omega), h2, pcL]
    simp
theorem decode_eq {ns : List Nat} (hc : CodeOk ns) : decode (natL ns) = pcL (ident ns.length) ns := by
  have h : freeOf ns.length [] = ident ns.length := by unfold freeOf; rw [List.filter_eq_self.2]; simp
  have := decode_pcL ns.length ns [] hc (by rw [h]; simp [ident])
  rw [h] at this
  unfold decode decodeBy
  have hl : (natL ns).length = ns.length := by simp [natL]
  rw [hl, this]
  rfl

/-! what is not moved at the end -/
theorem trimLen_take (xs : List Int) : ∀ (m k : Nat), m ≤ k → trimLen (xs.take k) m = trimLen xs m := by
  intro m
  induction m with
  | zero => intro k _; rfl
  | succ m ih =>
    intro k hk
    rcases m with _ | m
    · rfl
    · have e : (xs.take k).getD (m + 1) 0 = xs.getD (m + 1) 0 := by rw [List.getD_eq_getElem?_getD, List.getElem?_take, if_pos (by omega), List.getD_eq_getElem?_getD]
      rw [trimLen, trimLen, e, ih k (by omega)]
theorem trimLen_idem (xs : List Int) : ∀ m, trimLen xs (trimLen xs m) = trimLen xs m := by
  intro m
  induction m with
  | zero => rfl
  | succ m ih =>
    rcases m with _ | m
    · rfl
    · by_cases h : xs.getD (m + 1) 0 = ((m + 1 : Nat) : Int)
      · have e : trimLen xs (m + 1 + 1) = trimLen xs (m + 1) := by rw [trimLen, if_pos h]
        rw [e, ih]
      · have e : trimLen xs (m + 1 + 1) = m + 1 + 1 := by rw [trimLen, if_neg h]
        rw [e, e]
theorem cod_append_max (l : List Int) (y : Int) (h : ∀ x ∈ l, x < y) : cod (l ++ [y]) = cod l ++ [0] := by
  induction l with
  | nil => rfl
  | cons a l ih =>
    have ha := h a List.mem_cons_self
    rw [List.cons_append, cod, cod, ih fun x hx => h x (List.mem_cons_of_mem _ hx), List.filter_append]
    have : ¬ y < a := by omega
    simp [this]
theorem keyL_zero (l : List Int) : keyL (l ++ [0]) = keyL l := by
  induction l with
  | nil => rfl
  | cons a l ih => rw [List.cons_append, keyL, keyL, ih]
/-- the first m numbers are those below m -/
def Pm (xs : List Int) (m : Nat) : Prop := m ≤ xs.length ∧ (xs.take m).Nodup ∧ ∀ x ∈ xs.take m, 0 ≤ x ∧ x < (m : Int)
theorem Pm.down {xs : List Int} {m : Nat} (h : Pm xs (m + 1)) (hy : xs.getD m 0 = (m : Int)) : Pm xs m ∧ xs.take (m + 1) = xs.take m ++ [(m : Int)] := by
  obtain ⟨h1, h2, h3⟩ := h
  have e : xs.take (m + 1) = xs.take m ++ [(m : Int)] := by
    have hm : m < xs.length := by omega
    rw [List.take_succ_eq_append_getElem hm]
    congr 1
    rw [List.getD_eq_getElem?_getD, List.getElem?_eq_getElem hm] at hy
    simpa using hy
  rw [e] at h2 h3
  refine ⟨⟨by omega, (List.nodup_append.1 h2).1, fun x hx => ?_⟩, e⟩
  have h4 := h3 x (List.mem_append_left _ hx)
  have h5 : x ≠ (m : Int) := fun e => (List.nodup_append.1 h2).2.2 x hx (m : Int) (by simp) e
  omega
theorem cK_trim {xs : List Int} : ∀ {m : Nat}, Pm xs m → cK (xs.take (trimLen xs m)) = cK (xs.take m) ∧ Pm xs (trimLen xs m) := by
  intro m
  induction m with
  | zero => intro h; exact ⟨rfl, h⟩
  | succ m ih =>
    intro h
    rcases m with _ | m
    · exact ⟨rfl, h⟩
    · by_cases hy : xs.getD (m + 1) 0 = ((m + 1 : Nat) : Int)
      · have e : trimLen xs (m + 1 + 1) = trimLen xs (m + 1) := by rw [trimLen, if_pos hy]
        obtain ⟨hd, e2⟩ := h.down hy
        rw [e]
        obtain ⟨g1, g2⟩ := ih hd
        refine ⟨?_, g2⟩
        rw [g1, e2]
        unfold cK
        rw [cod_append_max _ _ fun x hx => (hd.2.2 x hx).2]
        show _ = keyL (natL (cod (xs.take (m + 1)) ++ [0]))
        unfold natL
        rw [List.map_append]
        exact (keyL_zero _).symm
      · have e : trimLen xs (m + 1 + 1) = m + 1 + 1 := by rw [trimLen, if_neg hy]
        rw [e]
        exact ⟨rfl, h⟩
end Go.Proofs.YtomejjbkakpoiaaGreat

namespace Go.Proofs.YtomejjbkakpoiaaGreat
open Go.RowKit

/-- the order of lists: by the first place at which they differ, else by length -/
def less : List Int → List Int → Bool
  | [], [] => false
  | [], _ :: _ => true
  | _ :: _, [] => false
  | x :: xs, y :: ys => if x = y then less xs ys else decide (x < y)
/-- -1, 0, 1 -/
def order : List Int → List Int → Int
  | [], [] => 0
  | [], _ :: _ => -1
  | _ :: _, [] => 1
  | x :: xs, y :: ys => if x = y then order xs ys else if x < y then -1 else 1
theorem less_order (xs : List Int) : ∀ ys, less xs ys = decide (order xs ys < 0) := by
  induction xs with
  | nil => intro ys; cases ys <;> simp [less, order]
  | cons x xs ih =>
    intro ys
    cases ys with
    | nil => simp [less, order]
    | cons y ys =>
      by_cases h : x = y
      · subst h
        simp [less, order, ih ys]
      · by_cases h2 : x < y
        · simp [less, order, h, h2]
        · simp [less, order, h, h2]
/-- alike on the first k -/
theorem less_drop {xs ys : List Int} : ∀ {k : Nat}, (∀ j, j < k → xs[j]? = ys[j]?) → k ≤ xs.length → k ≤ ys.length → less xs ys = less (xs.drop k) (ys.drop k) ∧ order xs ys = order (xs.drop k) (ys.drop k) := by
  induction xs generalizing ys with
  | nil => intro k _ h2 _; obtain rfl : k = 0 := (by simpa using h2); exact ⟨rfl, rfl⟩
  | cons x xs ih =>
    intro k h h2 h3
    rcases k with _ | k
    · exact ⟨rfl, rfl⟩
    · cases ys with
      | nil => simp at h3
      | cons y ys =>
        have h0 := h 0 (by omega)
        obtain rfl : x = y := by simpa using h0
        have := ih (ys := ys) (k := k) (fun j hj => by have := h (j + 1) (by omega); simpa using this) (by simpa using h2) (by simpa using h3)
        simp only [less, order, if_true, List.drop_succ_cons]
        exact this
theorem drop_cons {xs : List Int} {k : Nat} {x : Int} (h : xs[k]? = some x) : ∃ t, xs.drop k = x :: t := ⟨_, by rw [List.drop_eq_getElem_cons (List.getElem?_eq_some_iff.1 h).1, (List.getElem?_eq_some_iff.1 h).2]⟩

set_option maxRecDepth 100000 in
set_option maxHeartbeats 1600000 in
theorem l1Less_any (a b : Option Addr) (n c m d : Nat) (xs ys : List Int) (w : World) (hr : RI w a xs) (hs : RI w b ys) (hn : xs.length = n) (hm : ys.length = m) (hb : n ≤ 17592186044416) (hb2 : m ≤ 17592186044416) :
    Calls Tryz.prog 52 #[.slice a n c, .slice b m d] w fun e w' => e = .returned (.bool (less xs ys)) ∧ Drew w w' := by
  have Hn := Lib.hid hn; clear hn
  have Hm := Lib.hid hm; clear hm
  go_enter Tryz.func52, Tryz.ntmps52
  go_wp2
  go_loopw [5] (fun i wr => ∃ k : Nat, k ≤ n ∧ k ≤ m ∧ i = .int .i64 k ∧ Hid (∀ j, j < k → xs[j]? = ys[j]?) ∧ Drew w wr) (fun i _ => n - (intOf i).toNat)
  case atStart => exact ⟨0, Nat.zero_le _, Nat.zero_le _, rfl, by intro j hj; omega, Drew.refl _⟩
  case round =>
    obtain ⟨k, hk, hk2, rfl, HA, hd⟩ := hrel
    have Hdrop := Lib.hid (less_drop HA.out (by rw [Hn.out]; exact hk) (by rw [Hm.out]; exact hk2)).1
    by_cases h1 : k < n
    · by_cases h2 : k < m
      · obtain ⟨b1, off, rfl, hcell⟩ := (hr.drew hd).at (k := k) (by rw [Hn.out]; exact h1)
        obtain ⟨b2, off2, rfl, hcell2⟩ := (hs.drew hd).at (k := k) (by rw [Hm.out]; exact h2)
        obtain ⟨x, hx⟩ := some_at Hn.out h1
        obtain ⟨y, hy⟩ := some_at Hm.out h2
        have hc := hcell k x hx
        have hc2 := hcell2 k y hy
        have Hx := Lib.hid hx; clear hx
        have Hy := Lib.hid hy; clear hy
        clear hcell hcell2
        have q1 : (k : Int) < (n : Int) := by omega
        have q2 : (k : Int) < (m : Int) := by omega
        by_cases hxy : x = y
        · have e1 : (x != y) = false := by simp [hxy]
          go_wp2
          go_quiet (fail)
          go_wp2
          go_roundw
          case rel => exact ⟨k + 1, by omega, by omega, by go_num, by
            intro j hj
            rcases Nat.lt_or_ge j k with h | h
            · exact HA.out j h
            · obtain rfl : j = k := by omega
              rw [Hx.out, Hy.out, hxy], hd.trans (Drew.drewN _ _)⟩
          case measure => simp [intOf]; omega
        · have e1 : (x != y) = true := by simp [hxy]
          have Hres := Lib.hid (show less xs ys = decide (x < y) by
            rw [Hdrop.out]
            obtain ⟨t, ht⟩ := drop_cons Hx.out
            obtain ⟨u, hu⟩ := drop_cons Hy.out
            rw [ht, hu, less, if_neg hxy])
          go_wp2
          go_quiet (fail)
          go_wp2
          have hc' : (wr.drewN nq).cell? ⟨b1, off + k, none⟩ = some (.int .i64 x) := by simpa using hc
          have hc2' : (wr.drewN nq).cell? ⟨b2, off2 + k, none⟩ = some (.int .i64 y) := by simpa using hc2
          have hdd := hd.trans (Drew.drewN wr nq)
          obtain ⟨wd, hwd⟩ : ∃ wd, wr.drewN nq = wd := ⟨_, rfl⟩
          rw [hwd] at hc' hc2' hdd ⊢
          go_quiet (fail)
          go_wp2
          go_ret
          exact ⟨ret_bool Hres.out.symm, hdd.trans (Drew.drewN _ _)⟩
      · obtain rfl : k = m := by omega
        have Hres := Lib.hid (show less xs ys = false by
          rw [Hdrop.out]
          obtain ⟨x, hx⟩ := some_at Hn.out h1
          obtain ⟨t, ht⟩ := drop_cons hx
          rw [ht, List.drop_of_length_le (by rw [Hm.out]; exact Nat.le_refl _), less])
        have q1 : ¬ ((n : Int) < (k : Int)) := by omega
        go_wp2
        go_ret
        exact ⟨ret_bool (by rw [Hres.out] <;> simp <;> omega), hd⟩
    · obtain rfl : k = n := by omega
      have Hres := Lib.hid (show less xs ys = decide (k < m) by
        rw [Hdrop.out, List.drop_of_length_le (show xs.length ≤ k by rw [Hn.out]; exact Nat.le_refl _)]
        by_cases h2 : k < m
        · obtain ⟨y, hy⟩ := some_at Hm.out h2
          obtain ⟨t, ht⟩ := drop_cons hy
          rw [ht, less] <;> simp [h2]
        · rw [List.drop_of_length_le (by rw [Hm.out]; omega), less] <;> simp [h2])
      go_wp2
      go_ret
      exact ⟨ret_bool (by rw [Hres.out] <;> simp), hd⟩

def cmpInt (x y : Int) : Int := if x = y then 0 else if x < y then -1 else 1
set_option maxHeartbeats 800000 in
theorem cmpInt_any (x y : Int) (w : World) :
    Calls Tryz.prog 115 #[.int .i64 x, .int .i64 y] w fun e w' => e = .returned (.int .i64 (cmpInt x y)) ∧ w = w' := by
  have e1 : (x != x) = false := by simp
  have e2 : (y != y) = false := by simp
  by_cases h : x < y
  · have hc : cmpInt x y = -1 := by unfold cmpInt; rw [if_neg (by omega), if_pos h]
    have Hc := Lib.hid hc; clear hc
    go_enter Tryz.func115, Tryz.ntmps115
    go_wp2
    go_ret
    exact ⟨ret_int Hc.out.symm, rfl⟩
  · by_cases h2 : y < x
    · have hc : cmpInt x y = 1 := by unfold cmpInt; rw [if_neg (by omega), if_neg h]
      have Hc := Lib.hid hc; clear hc
      go_enter Tryz.func115, Tryz.ntmps115
      go_wp2
      go_ret
      exact ⟨ret_int Hc.out.symm, rfl⟩
    · have hc : cmpInt x y = 0 := by unfold cmpInt; rw [if_pos (by omega)]
      have Hc := Lib.hid hc; clear hc
      go_enter Tryz.func115, Tryz.ntmps115
      go_wp2
      go_ret
      exact ⟨ret_int Hc.out.symm, rfl⟩

set_option maxRecDepth 100000 in
set_option maxHeartbeats 1600000 in
theorem compare_any (a b : Option Addr) (n c m d : Nat) (xs ys : List Int) (w : World) (hr : RI w a xs) (hs : RI w b ys) (hn : xs.length = n) (hm : ys.length = m) (hb : n ≤ 17592186044416) (_hb2 : m ≤ 17592186044416) :
    Calls Tryz.prog 86 #[.slice a n c, .slice b m d] w fun e w' => e = .returned (.int .i64 (order xs ys)) ∧ w = w' := by
  have Hn := Lib.hid hn; clear hn
  have Hm := Lib.hid hm; clear hm
  go_enter Tryz.func86, Tryz.ntmps86
  go_wp2
  go_loop [11] (fun i => ∃ k : Nat, k ≤ n ∧ k ≤ m ∧ i = .int .i64 k ∧ Hid (∀ j, j < k → xs[j]? = ys[j]?)) (fun i => n - (intOf i).toNat)
  case atStart => exact ⟨0, Nat.zero_le _, Nat.zero_le _, rfl, by intro j hj; omega⟩
  case round =>
    obtain ⟨k, hk, hk2, rfl, HA⟩ := hrel
    have Hdrop := Lib.hid (less_drop HA.out (by rw [Hn.out]; exact hk) (by rw [Hm.out]; exact hk2)).2
    by_cases h1 : k < n
    · obtain ⟨b1, off, rfl, hcell⟩ := hr.at (k := k) (by rw [Hn.out]; exact h1)
      obtain ⟨x, hx⟩ := some_at Hn.out h1
      have hc := hcell k x hx
      have Hx := Lib.hid hx; clear hx hcell
      by_cases h2 : k < m
      · obtain ⟨b2, off2, rfl, hcell2⟩ := hs.at (k := k) (by rw [Hm.out]; exact h2)
        obtain ⟨y, hy⟩ := some_at Hm.out h2
        have hc2 := hcell2 k y hy
        have Hy := Lib.hid hy; clear hy
        clear hcell2
        have q2 : ¬ ((m : Int) ≤ (k : Int)) := by omega
        by_cases hxy : x = y
        · subst hxy
          have hz : cmpInt x x = 0 := by unfold cmpInt; rw [if_pos rfl]
          have Hz := Lib.hid hz; clear hz
          go_wp2_with fail
          refine (isInt (cmpInt_any x x _) Hz.out).mono ?_
          rintro e w1 ⟨rfl, rfl⟩
          go_wp2
          go_round
          case rel => exact ⟨k + 1, by omega, by omega, by go_num, by
            intro j hj
            rcases Nat.lt_or_ge j k with h | h
            · exact HA.out j h
            · obtain rfl : j = k := by omega
              rw [Hx.out, Hy.out]⟩
          case measure => simp [intOf]; omega
        · have Hres := Lib.hid (show order xs ys = cmpInt x y by
            rw [Hdrop.out]
            obtain ⟨t, ht⟩ := drop_cons Hx.out
            obtain ⟨u, hu⟩ := drop_cons Hy.out
            rw [ht, hu, order, if_neg hxy, cmpInt, if_neg hxy])
          have hnz : cmpInt x y ≠ 0 := by unfold cmpInt; rw [if_neg hxy]; split <;> omega
          obtain ⟨r, hr0⟩ : ∃ r, cmpInt x y = r := ⟨_, rfl⟩
          rw [hr0] at hnz
          have hnb : (r != 0) = true := by simp [hnz]
          have Hr := Lib.hid hr0; clear hr0
          go_wp2_with fail
          refine (isInt (cmpInt_any x y _) Hr.out).mono ?_
          rintro e w1 ⟨rfl, rfl⟩
          go_wp2
          go_ret
          exact ⟨ret_int (by rw [Hres.out, Hr.out]), rfl⟩
      · have Hres := Lib.hid (show order xs ys = 1 by
          rw [Hdrop.out]
          obtain ⟨t, ht⟩ := drop_cons Hx.out
          rw [ht, List.drop_of_length_le (by rw [Hm.out]; omega), order])
        have q2 : (m : Int) ≤ (k : Int) := by omega
        go_wp2
        go_ret
        exact ⟨ret_int Hres.out.symm, rfl⟩
    · obtain rfl : k = n := by omega
      by_cases h2 : k < m
      · have Hres := Lib.hid (show order xs ys = -1 by
          rw [Hdrop.out, List.drop_of_length_le (show xs.length ≤ k by rw [Hn.out]; exact Nat.le_refl _)]
          obtain ⟨y, hy⟩ := some_at Hm.out h2
          obtain ⟨t, ht⟩ := drop_cons hy
          rw [ht, order])
        go_wp2
        go_ret
        exact ⟨ret_int Hres.out.symm, rfl⟩
      · have Hres := Lib.hid (show order xs ys = 0 by
          rw [Hdrop.out, List.drop_of_length_le (show xs.length ≤ k by rw [Hn.out]; exact Nat.le_refl _), List.drop_of_length_le (by rw [Hm.out]; omega), order])
        go_wp2
        go_ret
        exact ⟨ret_int Hres.out.symm, rfl⟩
end Go.Proofs.YtomejjbkakpoiaaGreat
