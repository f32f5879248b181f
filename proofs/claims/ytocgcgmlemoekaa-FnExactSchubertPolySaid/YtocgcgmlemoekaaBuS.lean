/-
  How many monomials a polynomial has whose exponents are bounded each.
  First ascents, exchanged one behind the other: plain.
  Contract of l3Up.
  Contract of l3Stair.
  Polynomials below the staircase of seven: closed under divided differences, 5040 monomials at most.
  Contract of l3Schubert.
  Contract of staircase.
  Contract of lowered.
  SchubertPoly, both.
  Sizes of SchubertPoly's result.
  Polynomials whose exponents are bounded each, place by place: what the operators make of the bounds.
-/
import Derived.Test.YtocgcgmlemoekaaBuG
import Derived.Test.YtocgcgmlemoekaaSwap
import Derived.Test.YtocgcgmlemoekaaTrim
import Derived.Test.YtocgcgmlemoekaaBuC
import Derived.Test.YtocgcgmlemoekaaOperated
import Derived.Test.YtocgcgmlemoekaaBuH
import Derived.Test.YtocgcgmlemoekaaLength
namespace Go.Proofs.Ytocgcgmlemoekaa
open Go.RowKit

/-- all keys whose exponents stay below the bounds (bound + 1 each) -/
def box : List Nat → List Int
  | [] => [0]
  | b :: r => (List.range b).flatMap fun x : Nat => (box r).map fun y => (x : Int) + 128 * y
theorem box_length (bs : List Nat) : (box bs).length = bs.foldr (fun b t => b * t) 1 := by
  induction bs with
  | nil => rfl
  | cons b r ih =>
    rw [box, List.foldr_cons, ← ih]
    generalize box r = l
    have : ∀ n, ((List.range n).flatMap fun x : Nat => l.map fun y => (x : Int) + 128 * y).length = n * l.length := by
      intro n
      induction n with
      | zero => simp
      | succ n ih2 => rw [List.range_succ, List.flatMap_append, List.length_append, ih2, Nat.succ_mul]; simp
    exact this b
theorem keyL_box {bs : List Nat} : ∀ {s : List Int}, s.length = bs.length → (∀ (i : Nat) (x : Int) (b : Nat), s[i]? = some x → bs[i]? = some b → 0 ≤ x ∧ x < b) → keyL s ∈ box bs := by
  induction bs with
  | nil =>
    intro s hl _
    obtain rfl := List.eq_nil_of_length_eq_zero hl
    exact List.mem_singleton.2 rfl
  | cons b r ih =>
    intro s hl h
    cases s with
    | nil => simp at hl
    | cons x s =>
      have h0 := h 0 x b rfl rfl
      have h1 := ih (s := s) (by simpa using hl) (fun i y c hi hc => h (i + 1) y c (by simpa using hi) (by simpa using hc))
      rw [keyL, box, List.mem_flatMap]
      exact ⟨x.toNat, by rw [List.mem_range]; omega, List.mem_map.2 ⟨keyL s, h1, by omega⟩⟩
/-- the exponents at each place are below the bounds -/
def Bx (bs : List Nat) (F : Mons) : Prop := ∀ p ∈ F, inK p.1 ∧ ∀ (i b : Nat), bs[i]? = some b → i < 7 → dig p.1 i < b
theorem Bx.canon {bs : List Nat} {F : Mons} (h : Bx bs F) : Bx bs (canon F) := fun p hp => by
  obtain ⟨q, hq, e⟩ := mem_canon hp
  rw [← e]
  exact h q hq
theorem nodup_sub {l : List Int} : ∀ {m : List Int}, l.Nodup → (∀ x ∈ l, x ∈ m) → l.length ≤ m.length := by
  induction l with
  | nil => intro m _ _; exact Nat.zero_le _
  | cons a t ih =>
    intro m hn h
    rw [List.nodup_cons] at hn
    have ha := h a List.mem_cons_self
    have h1 := ih (m := m.erase a) hn.2 (fun x hx => (List.mem_erase_of_ne (fun e => hn.1 (by rw [← e]; exact hx))).2 (h x (List.mem_cons_of_mem _ hx)))
    rw [List.length_erase_of_mem ha] at h1
    have h2 := List.length_pos_of_mem ha
    rw [List.length_cons]
    omega
theorem Bx.count {bs : List Nat} {F : Mons} (h : Bx bs F) (h7 : bs.length = 7) : (Go.Proofs.Ytocgcgmlemoekaa.canon F).length ≤ bs.foldr (fun b t => b * t) 1 := by
  rw [← box_length]
  have hn := canon_nodup F
  have := nodup_sub (m := box bs) hn (fun k hk => by
    obtain ⟨p, hp, rfl⟩ := List.mem_map.1 hk
    obtain ⟨h1, h2⟩ := h.canon p hp
    rw [← keyL_digs h1]
    refine keyL_box (by rw [digs_length, h7]) (fun i x b hi hb => ?_)
    have hi7 := lt_of_some hi
    rw [digs_length] at hi7
    rw [digs_at hi7] at hi
    obtain rfl := Option.some.inj hi
    exact ⟨(dig_isD p.1 i).1, h2 i b hb hi7⟩)
  rw [List.length_map] at this
  exact this
end Go.Proofs.Ytocgcgmlemoekaa

namespace Go.Proofs.Ytocgcgmlemoekaa
open Go.RowKit

def sw : List Int → Nat → List Int
  | a :: b :: r, 0 => b :: a :: r
  | a :: r, k + 1 => a :: sw r k
  | l, _ => l
theorem sw_swp {w : List Int} : ∀ {k : Nat}, k + 1 < w.length → swp w k (k + 1) = sw w k := by
  induction w with
  | nil => intro k h; simp at h
  | cons a r ih =>
    intro k h
    cases k with
    | zero =>
      cases r with
      | nil => simp at h
      | cons b r => rfl
    | succ k =>
      have h2 := ih (k := k) (by simpa using h)
      unfold swp at h2 ⊢
      cases r with
      | nil => simp at h
      | cons b r =>
        rw [sw, ← h2]
        rfl
theorem sw_perm (w : List Int) : ∀ k : Nat, (sw w k).Perm w := by
  induction w with
  | nil => intro k; cases k <;> exact List.Perm.refl _
  | cons a r ih =>
    intro k
    cases k with
    | zero =>
      cases r with
      | nil => exact List.Perm.refl _
      | cons b r => exact List.Perm.swap _ _ _
    | succ k => rw [sw]; exact (ih k).cons a
theorem sw_length (w : List Int) (k : Nat) : (sw w k).length = w.length := (sw_perm w k).length_eq
/-- how many pairs rise -/
def nin : List Int → Nat
  | [] => 0
  | a :: r => (r.filter fun x => decide (a < x)).length + nin r
def asc : List Int → Option Nat
  | a :: b :: r => if a < b then some 0 else (asc (b :: r)).map (· + 1)
  | _ => none
theorem asc_some {w : List Int} : ∀ {k : Nat}, asc w = some k → ∃ x y, w[k]? = some x ∧ w[k + 1]? = some y ∧ x < y ∧ ∀ (j : Nat) (u v : Int), j < k → w[j]? = some u → w[j + 1]? = some v → ¬ u < v := by
  induction w with
  | nil => intro k h; simp [asc] at h
  | cons a r ih =>
    intro k h
    cases r with
    | nil => simp [asc] at h
    | cons b r =>
      rw [asc] at h
      split at h
      · rename_i hab
        obtain rfl := Option.some.inj h
        exact ⟨a, b, rfl, rfl, hab, fun j _ _ hj => by omega⟩
      · rename_i hab
        obtain ⟨q, hq, rfl⟩ := Option.map_eq_some_iff.1 h
        obtain ⟨x, y, h1, h2, h3, h4⟩ := ih hq
        refine ⟨x, y, h1, h2, h3, fun j u v hj hu hv => ?_⟩
        cases j with
        | zero =>
          obtain rfl : a = u := Option.some.inj hu
          obtain rfl : b = v := Option.some.inj hv
          exact hab
        | succ j => exact h4 j u v (by omega) hu hv
theorem asc_none {w : List Int} (h : asc w = none) : ∀ (j : Nat) (u v : Int), w[j]? = some u → w[j + 1]? = some v → ¬ u < v := by
  induction w with
  | nil => intro j u v hu; simp at hu
  | cons a r ih =>
    intro j u v hu hv
    cases r with
    | nil => simp at hv
    | cons b r =>
      rw [asc] at h
      split at h
      · cases h
      · rename_i hab
        have h2 := Option.map_eq_none_iff.1 h
        cases j with
        | zero =>
          obtain rfl : a = u := Option.some.inj hu
          obtain rfl : b = v := Option.some.inj hv
          exact hab
        | succ j => exact ih h2 j u v hu hv
theorem asc_at {w : List Int} {k : Nat} {x y : Int} (hx : w[k]? = some x) (hy : w[k + 1]? = some y) (h : x < y) (hb : ∀ (j : Nat) (u v : Int), j < k → w[j]? = some u → w[j + 1]? = some v → ¬ u < v) : asc w = some k := by
  cases ha : asc w with
  | none => exact absurd h (asc_none ha k x y hx hy)
  | some q =>
    obtain ⟨x', y', h1, h2, h3, h4⟩ := asc_some ha
    rcases Nat.lt_trichotomy q k with hq | hq | hq
    · exact absurd h3 (hb q x' y' hq h1 h2)
    · rw [hq]
    · exact absurd h (h4 k x y hq hx hy)
theorem asc_all {w : List Int} (hb : ∀ (j : Nat) (u v : Int), w[j]? = some u → w[j + 1]? = some v → ¬ u < v) : asc w = none := by
  cases ha : asc w with
  | none => rfl
  | some q =>
    obtain ⟨x, y, h1, h2, h3, _⟩ := asc_some ha
    exact absurd h3 (hb q x y h1 h2)
theorem nin_sw {w : List Int} : ∀ {k : Nat}, asc w = some k → nin (sw w k) + 1 = nin w := by
  induction w with
  | nil => intro k h; simp [asc] at h
  | cons a r ih =>
    intro k h
    cases r with
    | nil => simp [asc] at h
    | cons b r =>
      rw [asc] at h
      split at h
      · rename_i hab
        obtain rfl := Option.some.inj h
        have hba : ¬ b < a := by omega
        simp only [sw, nin, List.filter_cons, hab, hba, decide_true, decide_false, if_true, List.length_cons]
        simp
        omega
      · rename_i hab
        obtain ⟨q, hq, rfl⟩ := Option.map_eq_some_iff.1 h
        have h1 := ih hq
        have h2 := ((sw_perm (b :: r) q).filter fun x => decide (a < x)).length_eq
        show nin (a :: sw (b :: r) q) + 1 = nin (a :: b :: r)
        rw [nin, h2]
        show _ = (List.filter (fun x => decide (a < x)) (b :: r)).length + nin (b :: r)
        omega
def upf : Nat → List Int → List Nat
  | 0, _ => []
  | f + 1, w => match asc w with
    | none => []
    | some k => k :: upf f (sw w k)
def endf : Nat → List Int → List Int
  | 0, w => w
  | f + 1, w => match asc w with
    | none => w
    | some k => endf f (sw w k)
/-- the places of the first ascents, one behind the other; and what is left, which falls -/
def ups (w : List Int) : List Nat := upf (nin w) w
def fell (w : List Int) : List Int := endf (nin w) w
theorem ups_some {w : List Int} {k : Nat} (h : asc w = some k) : ups w = k :: ups (sw w k) ∧ fell w = fell (sw w k) := by
  have h1 := nin_sw h
  unfold ups fell
  rw [← h1, upf, endf, h]
  exact ⟨rfl, rfl⟩
theorem ups_none {w : List Int} (h : asc w = none) : ups w = [] ∧ fell w = w := by
  unfold ups fell
  cases nin w with
  | zero => exact ⟨rfl, rfl⟩
  | succ n => rw [upf, endf, h]; exact ⟨rfl, rfl⟩
theorem fell_perm (w : List Int) : (fell w).Perm w := by
  have : ∀ n v, (endf n v).Perm v := by
    intro n
    induction n with
    | zero => intro v; exact List.Perm.refl _
    | succ n ih =>
      intro v
      rw [endf]
      split
      · exact List.Perm.refl _
      · exact (ih _).trans (sw_perm _ _)
  exact this _ w
theorem asc_lt {w : List Int} {k : Nat} (h : asc w = some k) : k + 1 < w.length := by
  obtain ⟨_, y, _, h2, _⟩ := asc_some h
  exact (List.getElem?_eq_some_iff.1 h2).1
theorem ups_lt (w : List Int) : ∀ k ∈ ups w, k + 1 < w.length := by
  have : ∀ n v, ∀ k ∈ upf n v, k + 1 < v.length := by
    intro n
    induction n with
    | zero => intro v k hk; cases hk
    | succ n ih =>
      intro v k hk
      rw [upf] at hk
      split at hk
      · cases hk
      · rename_i q hq
        rcases List.mem_cons.1 hk with rfl | hk
        · exact asc_lt hq
        · have := ih _ k hk
          rw [sw_length] at this
          exact this
  exact this _ w
end Go.Proofs.Ytocgcgmlemoekaa

namespace Go.Proofs.Ytocgcgmlemoekaa
open Go.RowKit

def lenOf : Value → Nat
  | .slice _ n _ => n
  | _ => 0
def natI (l : List Nat) : List Int := l.map fun k : Nat => (k : Int)
theorem natI_append (l : List Nat) (k : Nat) : natI (l ++ [k]) = natI l ++ [(k : Int)] := by simp [natI]
/-- no ascent ahead of place k -/
def flat (v : List Int) (k : Nat) : Prop := ∀ (j : Nat) (p q : Int), j < k → v[j]? = some p → v[j + 1]? = some q → ¬ p < q

set_option maxRecDepth 100000 in
set_option maxHeartbeats 6400000 in
theorem l3Up_any (a : Option Addr) (n c : Nat) (xs : List Int) (w : World) (hr : RI w a xs) (hn : xs.length = n) (hb : n ≤ 1000) (hN : nin xs ≤ 1000000) :
    Calls Try.prog 80 #[.slice a n c] w fun e w' => ∃ a' m c', e = .returned (.slice a' m c') ∧ OwI w' w.heap.size w'.heap.size a' m c' (natI (ups xs)) ∧ Below w.heap.size w w' := by
  have Hn := Lib.hid hn; clear hn
  obtain ⟨N, hN'⟩ : ∃ N, nin xs = N := ⟨_, rfl⟩
  rw [hN'] at hN
  have HN := Lib.hid hN'
  clear hN'
  have h1 : OwI (w.alloc (.cells #[] 3)) w.heap.size (w.alloc (.cells #[] 3)).heap.size (some ⟨w.heap.size, 0, none⟩) 0 0 [] := OwI.mk (World.ownsRow_made _ #[] 0 (Nat.le_refl _) (Nat.zero_le _) rfl)
  have hB0 : Below w.heap.size w (w.alloc (.cells #[] 3)) := (Below.refl _ _).alloc (Nat.le_refl _) _
  have hr0 := hr.below hB0
  go_enter Try.func80, Try.ntmps80
  go_wp2_with fail
  refine (l1Ints_any _ _ _ xs _ hr0 Hn.out (by omega)).mono ?_
  rintro e w1 ⟨a1, c1, rfl, ho1, hb1⟩
  have hB1 := hB0.trans (hb1.mono hB0.size)
  have hO1 := (h1.below hb1).mono (B' := w.heap.size) (S' := w1.heap.size) (Nat.le_refl _) hb1.size
  have hne : ∀ g, (Value.slice a1 n c1).ownBlock = some g → (Value.slice (some ⟨w.heap.size, 0, none⟩) 0 0).ownBlock ≠ some g := by
    intro g hg e
    have h2 := ho1.1.lo g hg
    simp [Value.ownBlock] at e
    subst e
    simp at h2
    omega
  have hsz : w.heap.size ≤ (w.alloc (.cells #[] 3)).heap.size := hB0.size
  have hV1 := ho1.mono (B' := w.heap.size) (S' := w1.heap.size) hsz (Nat.le_refl _)
  clear h1 hr0 hB0 ho1 hb1 hsz
  go_wp2
  go_loopw [3, 4, 5] (fun ov vv kv wr => Hid (∃ (k : Nat) (don : List Nat) (v : List Int) (a1 : Option Addr) (m c1 : Nat) (a2 : Option Addr) (c2 : Nat), kv = .int .i64 k ∧ k ≤ n ∧ ov = .slice a1 m c1 ∧ vv = .slice a2 n c2 ∧ OwI wr w.heap.size wr.heap.size a1 m c1 (natI don) ∧ OwI wr w.heap.size wr.heap.size a2 n c2 v ∧ (∀ g, (Value.slice a2 n c2).ownBlock = some g → (Value.slice a1 m c1).ownBlock ≠ some g) ∧ ups xs = don ++ ups v ∧ flat v k ∧ m + nin v = N) ∧ Below w.heap.size w wr) (fun ov _ kv _ => (N - lenOf ov) * (n + 1) + (n - (intOf kv).toNat))
  case atStart => exact ⟨⟨0, [], xs, _, 0, _, _, _, rfl, Nat.zero_le _, rfl, rfl, hO1, hV1, hne, rfl, fun j _ _ hj => by omega, by rw [HN.out]; omega⟩, hB1⟩
  case round =>
    clear hO1 hV1 hne hB1
    obtain ⟨HV, hB⟩ := hrel
    obtain ⟨wo, rfl⟩ : ∃ wo : World, wo = wr := ⟨_, rfl⟩
    obtain ⟨k, don, v, a1, m, c1, a2, c2, rfl, hk, rfl, rfl, hO, hV, hne, hup, hfl, hmN⟩ := HV.out
    clear HV
    have Hvl := Lib.hid hV.len
    have Hup := Lib.hid hup
    have Hfl := Lib.hid hfl
    have Hml := Lib.hid hO.len
    clear hup hfl
    have hbs := hB.size
    by_cases hlt : k + 1 < n
    · obtain ⟨x, hx⟩ := some_at Hvl.out (show k < n by omega)
      obtain ⟨y, hy⟩ := some_at Hvl.out hlt
      obtain ⟨b, off, hab, hcell⟩ := hV.rd.at (k := k) (by rw [Hvl.out]; omega)
      have p1 := hcell k x hx
      have p2 := hcell (k + 1) y hy
      have q1 : (k : Int) + 1 < (n : Int) := by omega
      have q2 : (k : Int) < (n : Int) := by omega
      have q3 : IntKind.i64.wrap ((k : Int) + 1) = ((k + 1 : Nat) : Int) := by rw [IntWalk.i64_in _ (by omega)]; omega
      have q4 : ((k + 1 : Nat) : Int) < (n : Int) := by omega
      have Hx := Lib.hid hx
      have Hy := Lib.hid hy
      clear hcell hx hy
      subst hab
      by_cases hxy : x < y
      · have Hasc := Lib.hid (asc_at Hx.out Hy.out hxy Hfl.out)
        have hnin := nin_sw Hasc.out
        have Hus := Lib.hid (ups_some Hasc.out).1
        have Hsw := Lib.hid (sw_swp (w := v) (k := k) (by rw [Hvl.out]; exact hlt))
        have HO := Lib.hid (fun d : Nat => hO.below (Drew.below (Drew.drewN wo d) _))
        have HVr := Lib.hid (fun d : Nat => hV.rd.below (Drew.below (Drew.drewN wo d) _))
        have hBd : ∀ d : Nat, Below w.heap.size w (wo.drewN d) := fun d => hB.trans (Drew.below (Drew.drewN wo d) _)
        have HBd := Lib.hid hBd
        have hg : decide (x < y) = true := by simp [hxy]
        clear hO hV hne hBd
        go_wp2
        go_quiet (fail)
        go_wp2_with fail
        refine (l1Swap_any _ _ _ v k (k + 1) _ _ _ (HVr.out _) Hvl.out (by omega) rfl rfl (by omega) hlt).mono ?_
        rintro e w2 ⟨a3, c3, rfl, ho3, hb3⟩
        rw [Hsw.out] at ho3
        have HO2 := Lib.hid ((HO.out _).below hb3)
        have hB2 := (HBd.out _).trans (hb3.mono (HBd.out _).size)
        have Ho3 := Lib.hid ho3
        have hs2 := hB2.size
        have hne2 : ∀ g, (Value.slice a3 n c3).ownBlock = some g → (Value.slice a1 m c1).ownBlock ≠ some g := by
          intro g hg e
          have e1 := Ho3.out.1.lo g hg
          have e2 := (HO.out 0).2 g e
          simp at e1 e2
          omega
        have Hne2 := Lib.hid hne2
        clear ho3 hb3 hne2 HVr HO
        go_wp2_with (first | (at_builtin; go_loud (refine wpList_pushI (by rfl) (by rfl) _ _ (by rfl) HO2.out (by rfl) (by rfl) (by omega) hs2 ?_)))
        intro a4 c4 w4 ho4 hg4
        have hB4 := below_grown hB2 hg4.grown hs2 HO2.out.1.lo
        have hv4 : OwI w4 w.heap.size w4.heap.size a3 n c3 (sw v k) := by
          have h5 : OwI w4 _ _ a3 n c3 (sw v k) := ⟨Ho3.out.1.kept hg4.grown (fun g hg e => Hne2.out g hg e), Ho3.out.2⟩
          exact h5.mono hbs hg4.grown.size
        have hne4 : ∀ g, (Value.slice a3 n c3).ownBlock = some g → (Value.slice a4 (m + 1) c4).ownBlock ≠ some g := by
          intro g hg e
          rcases hg4.home with h6 | h6
          · rw [h6] at e
            exact Hne2.out g hg e
          · have e1 := h6 g e
            have e2 := Ho3.out.2 g hg
            omega
        rw [← natI_append] at ho4
        have HF := Lib.hid (And.intro ho4 (And.intro hv4 hne4))
        clear ho4 hv4 hne4 HO2 Ho3 Hne2 hg4 HBd
        go_wp2
        go_roundw
        case rel => exact ⟨⟨0, don ++ [k], sw v k, _, m + 1, _, _, _, by go_num, Nat.zero_le _, rfl, rfl, HF.out.1, HF.out.2.1, HF.out.2.2, by rw [Hup.out, Hus.out, List.append_assoc]; rfl, fun j _ _ hj => by omega, by omega⟩, hB4⟩
        case measure =>
          simp only [lenOf, intOf]
          obtain ⟨r, hr'⟩ : ∃ r, N - m = r + 1 := ⟨N - m - 1, by omega⟩
          have e2 : N - (m + 1) = r := by omega
          rw [hr', e2, Nat.succ_mul]
          simp
          omega
      · have HF := Lib.hid (And.intro (hO.below (Drew.below (Drew.drewN wo 1) _)) (And.intro (hV.below (Drew.below (Drew.drewN wo 1) _)) hne))
        have Hfl2 := Lib.hid (show flat v (k + 1) from fun j p q hj hp hq => by
          rcases Nat.lt_or_ge j k with h | h
          · exact Hfl.out j p q h hp hq
          · obtain rfl : j = k := by omega
            rw [Hx.out] at hp
            rw [Hy.out] at hq
            obtain rfl := Option.some.inj hp
            obtain rfl := Option.some.inj hq
            exact hxy)
        have hBd : ∀ d : Nat, Below w.heap.size w (wo.drewN d) := fun d => hB.trans (Drew.below (Drew.drewN wo d) _)
        have HG := Lib.hid (fun d : Nat => And.intro (hO.below (Drew.below (Drew.drewN wo d) _)) (And.intro (hV.below (Drew.below (Drew.drewN wo d) _)) hne))
        have HBd := Lib.hid hBd
        have hg : decide (x < y) = false := by simp [hxy]
        clear hO hV hne hBd HF
        go_wp2
        go_quiet (fail)
        go_wp2
        go_roundw
        case rel => exact ⟨⟨k + 1, don, v, _, m, _, _, _, by go_num, by omega, rfl, rfl, (HG.out _).1, (HG.out _).2.1, (HG.out 0).2.2, Hup.out, Hfl2.out, hmN⟩, HBd.out _⟩
        case measure =>
          simp only [lenOf, intOf]
          simp
          omega
    · have Hnone := Lib.hid (ups_none (asc_all (w := v) (fun j p q hp hq => by
        have := (List.getElem?_eq_some_iff.1 hq).1
        rw [Hvl.out] at this
        exact Hfl.out j p q (by omega) hp hq))).1
      have hfin : OwI wo w.heap.size wo.heap.size a1 m c1 (natI (ups xs)) := by rw [Hup.out, Hnone.out, List.append_nil]; exact hO
      have q1 : ¬ (k : Int) + 1 < (n : Int) := by omega
      have HF := Lib.hid hfin
      clear hfin hO hV hne
      go_wp2
      go_ret
      exact ⟨_, _, _, rfl, HF.out, hB⟩
end Go.Proofs.Ytocgcgmlemoekaa

namespace Go.Proofs.Ytocgcgmlemoekaa
open Go.RowKit

/-- the first j exponents of the staircase of n, as a key -/
def partK (n j : Nat) : Int := (List.range j).foldl (fun k i => k + ((n : Int) - 1 - i) * unit i) 0
theorem partK_succ (n j : Nat) : partK n (j + 1) = partK n j + ((n : Int) - 1 - j) * unit j := by
  unfold partK
  rw [List.range_succ, List.foldl_append]
  rfl
theorem partK_in : ∀ n, n < 8 → ∀ j, j < 8 → j ≤ n → 0 ≤ partK n j ∧ partK n j < 562949953421312 ∧ 0 ≤ ((n : Int) - 1 - j) * unit j + 128 ^ 7 ∧ ((n : Int) - 1 - j) * unit j < 562949953421312 := by decide
theorem MO.one (w : World) (p q : Int) : MO (w.alloc (.cells #[.int .i64 p, .int .i64 q] 88)) w.heap.size (w.alloc (.cells #[.int .i64 p, .int .i64 q] 88)).heap.size (some ⟨w.heap.size, 0, none⟩) 1 1 [(p, q)] :=
  MO.mk ⟨rfl, .inr ⟨w.heap.size, 1, #[.int .i64 p, .int .i64 q], rfl, Nat.le_refl _, heap_alloc_new w _, Nat.le_refl _, by unfold maxLen; omega, rfl, rfl⟩⟩
set_option maxRecDepth 100000 in
set_option maxHeartbeats 3200000 in
theorem l3Stair_any (n : Nat) (w : World) (hn : n ≤ 7) :
    Calls Try.prog 79 #[.int .i64 n] w fun e w' => ∃ a' c', e = .returned (.slice a' 1 c') ∧ MO w' w.heap.size w'.heap.size a' 1 c' [(partK n n, 1)] ∧ Below w.heap.size w w' := by
  have q0 : IntKind.i64.wrap ((n : Int) - 1) = (n : Int) - 1 := IntWalk.i64_in _ (by omega)
  go_enter Try.func79, Try.ntmps79
  go_wp2
  go_loopw [3, 4] (fun kv iv wr => ∃ j : Nat, j ≤ n ∧ iv = .int .i64 j ∧ kv = .int .i64 (partK n j) ∧ wr = w) (fun _ iv _ => n - (intOf iv).toNat)
  case atStart => exact ⟨0, Nat.zero_le _, rfl, rfl, rfl⟩
  case round =>
    obtain ⟨j, hj, rfl, rfl, rfl⟩ := hrel
    by_cases hlt : j < n
    · obtain ⟨b1, b2, b3, b4⟩ := partK_in n (by omega) j (by omega) hj
      obtain ⟨b5, b6, _, _⟩ := partK_in n (by omega) (j + 1) (by omega) hlt
      have Hs := Lib.hid (partK_succ n j)
      rw [Hs.out] at b5 b6
      have q1 : (j : Int) < (n : Int) := by omega
      have q2 : IntKind.i64.wrap ((n : Int) - 1 - j) = (n : Int) - 1 - j := IntWalk.i64_in _ (by omega)
      have HU := Lib.hid (l2Unit_any j)
      generalize unit j = u at *
      have q3 : IntKind.i64.wrap (((n : Int) - 1 - j) * u) = ((n : Int) - 1 - j) * u := IntWalk.i64_in _ (by omega)
      have q4 : IntKind.i64.wrap (partK n j + ((n : Int) - 1 - j) * u) = partK n j + ((n : Int) - 1 - j) * u := IntWalk.i64_in _ (by omega)
      go_wp2_with fail
      refine (HU.out _ _ rfl (by omega)).mono ?_
      rintro e w1 ⟨rfl, hw⟩
      subst hw
      go_wp2
      go_roundw
      case rel => exact ⟨j + 1, by omega, by go_num, by rw [Hs.out], trivial⟩
      case measure => clear q2 q3 q4; simp [intOf]; omega
    · obtain rfl : j = n := by omega
      have HM := Lib.hid (MO.one wr (partK j j) 1)
      have hB : Below wr.heap.size wr (wr.alloc (.cells #[.int .i64 (partK j j), .int .i64 1] 88)) := (Below.refl _ _).alloc (Nat.le_refl _) _
      go_wp2
      go_ret
      exact ⟨_, _, rfl, HM.out, hB⟩
end Go.Proofs.Ytocgcgmlemoekaa

namespace Go.Proofs.Ytocgcgmlemoekaa
open Go.RowKit

def B7 (F : Mons) : Prop := ∀ p ∈ F, inK p.1 ∧ ∀ j : Nat, j < 7 → dig p.1 j < 7 - (j : Int)
theorem B7.bx {F : Mons} (h : B7 F) : Bx [7, 6, 5, 4, 3, 2, 1] F := fun p hp => ⟨(h p hp).1, fun i b hb hi => by
  have h2 := (h p hp).2 i hi
  have hc : i = 0 ∨ i = 1 ∨ i = 2 ∨ i = 3 ∨ i = 4 ∨ i = 5 ∨ i = 6 := by omega
  rcases hc with rfl | rfl | rfl | rfl | rfl | rfl | rfl <;> simp at hb <;> omega⟩
theorem B7.count {F : Mons} (h : B7 F) : (canon F).length ≤ 5040 := h.bx.count rfl
theorem B7.canon {F : Mons} (h : B7 F) : B7 (canon F) := fun p hp => by
  obtain ⟨q, hq, e⟩ := mem_canon hp
  rw [← e]
  exact h q hq
theorem B7.divided {F : Mons} (h : B7 F) {i : Nat} (hi : i ≤ 5) : B7 (dividedM i F) := fun p hp => by
  obtain ⟨q, hq, hp⟩ := List.mem_flatMap.1 hp
  obtain ⟨k, hk, rfl⟩ := List.mem_map.1 hp
  obtain ⟨h1, h2⟩ := h q hq
  obtain ⟨h3, h4, h5, h6⟩ := dd_key h1 hi hk
  refine ⟨h3, fun j hj => ?_⟩
  have b1 := h2 i (by omega)
  have b2 := h2 (i + 1) (by omega)
  by_cases e : j = i
  · subst e; show dig k j < _; omega
  · by_cases e' : j = i + 1
    · subst e'; show dig k (i + 1) < _; omega
    · show dig k j < _
      rw [h6 j hj e e']
      exact h2 j hj
theorem B7.bd {F : Mons} (h : B7 F) : Bd 24 F := fun p hp => ⟨(h p hp).1, fun j hj => by have := (h p hp).2 j hj; omega⟩
theorem partK_digs : ∀ n, n < 8 → ∀ j : Nat, j < 7 → dig (partK n n) j < 7 - (j : Int) := by decide
theorem B7.stair {n : Nat} (hn : n ≤ 7) : B7 [(partK n n, 1)] := fun p hp => by
  rw [List.mem_singleton] at hp
  subst hp
  obtain ⟨h1, h2, _⟩ := partK_in n (by omega) n (by omega) (Nat.le_refl _)
  exact ⟨⟨h1, h2⟩, partK_digs n (by omega)⟩
def lowM (op : Nat → Mons → Mons) (w : List Int) (F : Mons) : Mons := (ups w).foldr op F
theorem B7.low {F : Mons} (h : B7 F) : ∀ l : List Nat, (∀ k ∈ l, k ≤ 5) → B7 (l.foldr dividedM F) := by
  intro l
  induction l with
  | nil => intro _; exact h
  | cons k l ih => intro hl; exact (ih fun q hq => hl q (List.mem_cons_of_mem _ hq)).divided (hl k List.mem_cons_self)
theorem canon_one {k c : Int} (h0 : c ≠ 0) (hc : in64 c) : canon [(k, c)] = [(k, c)] :=
  (canon_unique (List.pairwise_singleton _ _) (fun p hp => by rw [List.mem_singleton] at hp; subst hp; exact ⟨h0, hc.1, hc.2⟩) (Eqv.refl _)).symm
end Go.Proofs.Ytocgcgmlemoekaa

namespace Go.Proofs.Ytocgcgmlemoekaa
open Go.RowKit

theorem nin_le (l : List Int) : nin l ≤ l.length * l.length := by
  induction l with
  | nil => exact Nat.le_refl _
  | cons a r ih =>
    rw [nin, List.length_cons, Nat.succ_mul, Nat.mul_succ]
    have := List.length_filter_le (fun x => decide (a < x)) r
    omega
theorem upf_le : ∀ (f : Nat) (w : List Int), (upf f w).length ≤ f := by
  intro f
  induction f with
  | zero => intro w; exact Nat.le_refl _
  | succ f ih =>
    intro w
    rw [upf]
    split
    · exact Nat.zero_le _
    · rw [List.length_cons]; exact Nat.succ_le_succ (ih _)
theorem nin_small {v : List Int} (h : v.length ≤ 7) : nin v ≤ 49 := Nat.le_trans (nin_le v) (Nat.mul_le_mul h h)
def schM (v : List Int) (m : Nat) : Mons := (ups v).foldr dividedM [(partK m m, 1)]
set_option maxRecDepth 100000 in
set_option maxHeartbeats 3200000 in
theorem l3Schubert_any (a : Option Addr) (n c : Nat) (xs : List Int) (w : World) (hr : RI w a xs) (hn : xs.length = n) (hb : n ≤ 7) (hnc : n ≤ c) :
    Calls Try.prog 68 #[.slice a n c] w fun e w' => ∃ a' n' c', e = .returned (.slice a' n' c') ∧ MO w' w.heap.size w'.heap.size a' n' c' (canon (schM (xs.take (trimLen xs n)) (trimLen xs n))) ∧ Below w.heap.size w w' := by
  have Hn := Lib.hid hn; clear hn
  have HT := Lib.hid (fun w => l1Trim_any a n c xs w)
  have hmn := trimLen_le xs n
  obtain ⟨m, hm⟩ : ∃ m, trimLen xs n = m := ⟨_, rfl⟩
  rw [hm] at HT hmn ⊢
  obtain ⟨v, hv⟩ : ∃ v, xs.take m = v := ⟨_, rfl⟩
  have Hvl := Lib.hid (show v.length = m by rw [← hv, List.length_take, Hn.out]; omega)
  rw [hv] at HT ⊢
  clear hm hv
  have HB7 := Lib.hid (B7.stair (n := m) (by omega))
  have Hu5 := Lib.hid (show ∀ k ∈ ups v, k ≤ 5 from fun k hk => by have := ups_lt v k hk; rw [Hvl.out] at this; omega)
  have h49 := nin_small (v := v) (by rw [Hvl.out]; omega)
  have HNv := Lib.hid (show nin v ≤ 1000000 by omega)
  go_enter Try.func68, Try.ntmps68
  go_wp2_with fail
  refine (HT.out _ hr Hn.out (by omega) hnc).mono ?_
  rintro e w1 ⟨a1, c1, rfl, ho1, hb1⟩
  have Ho1 := Lib.hid ho1
  clear ho1
  go_wp2_with fail
  refine (l3Stair_any m _ (by omega)).mono ?_
  rintro e w2 ⟨a2, c2, rfl, ho2, hb2⟩
  have hB2 := hb1.trans (hb2.mono hb1.size)
  have Ho2 := Lib.hid ho2
  have Ho12 := Lib.hid (Ho1.out.below hb2)
  clear ho2
  go_wp2_with fail
  refine (l3Up_any _ _ _ v _ Ho12.out.rd Hvl.out (by omega) HNv.out).mono ?_
  rintro e w3 ⟨a3, L, c3, rfl, ho3, hb3⟩
  have hB3 := hB2.trans (hb3.mono hB2.size)
  have Hr3 := Lib.hid ho3.rd
  have Hl3 := Lib.hid (show (ups v).length = L by have := ho3.len; simpa [natI] using this)
  have HF0 := Lib.hid (show MO w3 w.heap.size w3.heap.size a2 1 c2 (canon (((ups v).drop L).foldr dividedM [(partK m m, 1)])) by
    rw [List.drop_of_length_le (by rw [Hl3.out]; exact Nat.le_refl _), List.foldr_nil, canon_one (by decide) (by unfold in64; omega)]
    exact (Ho2.out.below hb3).mono hb1.size hb3.size)
  have hL : L ≤ 1000000 := by have := upf_le (nin v) v; have h2 := Hl3.out; unfold ups at h2; omega
  clear h49
  clear ho3 Ho1 Ho2 Ho12
  have q0 : IntKind.i64.wrap ((L : Int) - 1) = (L : Int) - 1 := IntWalk.i64_in _ (by omega)
  go_wp2
  go_loopw [4, 6] (fun fv iv wr => Hid (∃ (j : Nat) (a' : Option Addr) (n' c' : Nat), j ≤ L ∧ iv = .int .i64 ((j : Int) - 1) ∧ fv = .slice a' n' c' ∧ MO wr w.heap.size wr.heap.size a' n' c' (canon (((ups v).drop j).foldr dividedM [(partK m m, 1)]))) ∧ Below w3.heap.size w3 wr) (fun _ iv _ => (intOf iv + 1).toNat)
  case atStart => exact ⟨⟨L, _, _, _, Nat.le_refl _, rfl, rfl, HF0.out⟩, Below.refl _ _⟩
  case round =>
    clear HF0 q0
    obtain ⟨HV, hB⟩ := hrel
    obtain ⟨wo, rfl⟩ : ∃ wo : World, wo = wr := ⟨_, rfl⟩
    obtain ⟨j, a4, n4, c4, hj, rfl, rfl, hM⟩ := HV.out
    clear HV
    have hBw := hB3.trans (hB.mono hB3.size)
    rcases j with _ | j
    · rw [List.drop_zero] at hM
      have HM := Lib.hid hM
      clear hM
      go_wp2
      go_ret
      exact ⟨_, _, _, rfl, HM.out, hBw⟩
    · obtain ⟨k, hk⟩ : ∃ k, (ups v)[j]? = some k := ⟨(ups v)[j]'(by rw [Hl3.out]; omega), List.getElem?_eq_getElem _⟩
      have hk5 := Hu5.out k (List.mem_of_getElem? hk)
      obtain ⟨b, off, rfl, hcell⟩ := (Hr3.out.below hB).at (k := j) (by rw [natI, List.length_map, Hl3.out]; omega)
      have p1 := hcell j (k : Int) (by rw [natI, List.getElem?_map, hk]; rfl)
      have hF7 : B7 (((ups v).drop (j + 1)).foldr dividedM [(partK m m, 1)]) := HB7.out.low _ (fun q hq => Hu5.out q (List.mem_of_mem_drop hq))
      have Hst := Lib.hid (show canon (dividedM k (canon (((ups v).drop (j + 1)).foldr dividedM [(partK m m, 1)]))) = canon (((ups v).drop j).foldr dividedM [(partK m m, 1)]) by
        rw [drop_at hk, List.foldr_cons]
        exact canon_eqv (dividedM_eqv (canon_self _)))
      have hcnt := hF7.count
      have Hlen := Lib.hid hM.len
      rw [Hlen.out] at hcnt
      have Hk4 := Lib.hid (show ∀ p ∈ canon (((ups v).drop (j + 1)).foldr dividedM [(partK m m, 1)]), inK p.1 ∧ in64 p.2 from fun p hp => ⟨(hF7.canon p hp).1, canon_64 _ p hp⟩)
      have HM := Lib.hid hM
      clear hM hk hcell hF7
      have e1 : ((j + 1 : Nat) : Int) - 1 = (j : Int) := by omega
      rw [e1]
      have q1 : (j : Int) < (L : Int) := by omega
      have q2 : (0 : Int) ≤ (j : Int) := by omega
      have q5 : IntKind.i64.wrap ((j : Int) - 1) = (j : Int) - 1 := IntWalk.i64_in _ (by omega)
      clear e1
      go_wp2_with fail
      refine (l2Divided_any k _ _ _ _ _ _ HM.out.rd Hlen.out (by omega) rfl hk5 Hk4.out (Nat.le_trans (dividedW_le _ _) (by rw [Hlen.out]; omega))).mono ?_
      rintro e w5 ⟨a5, n5, c5, rfl, ho5, hb5⟩
      rw [Hst.out] at ho5
      have HM5 := Lib.hid (ho5.mono (B' := w.heap.size) (S' := w5.heap.size) hBw.size (Nat.le_refl _))
      have hB5 := hB.trans (hb5.mono hB.size)
      clear ho5 hb5 HM
      go_wp2
      go_roundw
      case rel => exact ⟨⟨j, _, _, _, by omega, rfl, rfl, HM5.out⟩, hB5⟩
      case measure => clear q5; simp [intOf]
end Go.Proofs.Ytocgcgmlemoekaa

namespace Go.Proofs.Ytocgcgmlemoekaa
open Go.RowKit Go.MapKept Go.ChangeMaps

theorem partK_free : ∀ n, n < 8 → ∀ j, j < 8 → j < n → dig (partK n j) j = 0 := by decide
theorem partK_step {n j : Nat} (hn : n ≤ 7) (hj : j < n) : dset (partK n j) j ((n : Int) - 1 - j) = partK n (j + 1) := by
  unfold dset
  rw [partK_free n (by omega) j (by omega) hj, partK_succ, Int.sub_zero]
set_option maxRecDepth 100000 in
set_option maxHeartbeats 3200000 in
theorem implStair_any (n : Nat) (w : World) (hn : n ≤ 7) :
    Calls Try.prog 83 #[.int .i64 n] w fun e w' => ∃ r, e = .returned (.map (some r)) ∧ PF w' r [(partK n n, 1)] ∧ Below w.heap.size w w' := by
  have hmm := @run_makeMap Try.prog
  have g0 : Hid ((w.alloc (.cells #[.int .i64 0, .int .i64 0, .int .i64 0, .int .i64 0, .int .i64 0, .int .i64 0, .int .i64 0] 112)).heap[w.heap.size]? = some (.cells (cells7 (partK n 0)) 112)) := heap_alloc_new w _
  have hBW : Below w.heap.size w (w.alloc (.cells #[.int .i64 0, .int .i64 0, .int .i64 0, .int .i64 0, .int .i64 0, .int .i64 0, .int .i64 0] 112)) := (Below.refl _ _).alloc (Nat.le_refl _) _
  have q0 : IntKind.i64.wrap ((n : Int) - 1) = (n : Int) - 1 := IntWalk.i64_in _ (by omega)
  go_enter Try.func83, Try.ntmps83
  go_wp2
  go_loopw [7] (fun iv wr => ∃ j : Nat, j ≤ n ∧ iv = .int .i64 j ∧ wr.heap[w.heap.size]? = some (.cells (cells7 (partK n j)) 112) ∧ Below w.heap.size w wr) (fun iv _ => n - (intOf iv).toNat)
  case atStart => exact ⟨0, Nat.zero_le _, rfl, g0.out, hBW⟩
  case round =>
    clear g0 hBW
    obtain ⟨j, hj, rfl, g1, hB⟩ := hrel
    obtain ⟨wo, rfl⟩ : ∃ wo : World, wo = wr := ⟨_, rfl⟩
    obtain ⟨b1, b2, _, _⟩ := partK_in n (by omega) j (by omega) hj
    by_cases hlt : j < n
    · have g2 := cells7_set g1 ⟨b1, b2⟩ (i := j) (by omega) (x := (n : Int) - 1 - j) (by unfold isD; omega)
      rw [partK_step hn hlt] at g2
      obtain ⟨p0, f0⟩ := cells7_cell g1 (i := j) (by omega)
      have q1 : (j : Int) < (n : Int) := by omega
      have q2 : IntKind.i64.wrap ((n : Int) - 1 - j) = (n : Int) - 1 - j := IntWalk.i64_in _ (by omega)
      have q3 : (j : Int) < 7 := by omega
      have HF := Lib.hid (And.intro g2 (hB.trans (below_setCell j (.int .i64 ((n : Int) - 1 - j)) (Nat.le_refl _))))
      clear g2 hB g1
      go_wp2
      go_roundw
      case rel => exact ⟨j + 1, by omega, by go_num, HF.out.1, HF.out.2⟩
      case measure => clear q2; simp [intOf]; omega
    · obtain rfl : j = n := by omega
      obtain ⟨a0, a1, a2, a3, a4, a5, a6⟩ := cells7_at g1
      obtain ⟨U, hU⟩ : ∃ U, wo.alloc (.map #[] 0) = U := ⟨_, rfl⟩
      have hBU : Below wo.heap.size wo U := by rw [← hU]; exact (Below.refl _ _).alloc (Nat.le_refl _) _
      have hM : PF U wo.heap.size [] := by rw [← hU]; exact PF.made wo
      have g2 : U.heap[w.heap.size]? = some (.cells (cells7 (partK j j)) 112) := by rw [hBU.block _ (Array.getElem?_eq_some_iff.1 g1).1]; exact g1
      obtain ⟨d0, d1, d2, d3, d4, d5, d6⟩ := cells7_at g2
      obtain ⟨w3, hup, hM3, hg3⟩ := hM.store (k := partK j j) (c := 1) ⟨b1, b2⟩ (by unfold in64; omega) (by decide) (coef_miss (by simp))
      have hB3 := Lib.hid (below_of_grown (hB.trans (hBU.mono hB.size)) hg3 (Nat.le_trans hB.size hBU.size) hB.size)
      have HM3 := Lib.hid hM3
      unfold kV at hup
      clear hM3 hM hg3 hB g1 g2 hBU a0 a1 a2 a3 a4 a5 a6
      go_wp2
      go_ret
      exact ⟨_, rfl, HM3.out, hB3.out⟩
end Go.Proofs.Ytocgcgmlemoekaa

namespace Go.Proofs.Ytocgcgmlemoekaa
open Go.RowKit Go.MapKept

set_option maxRecDepth 100000 in
set_option maxHeartbeats 6400000 in
theorem lowered_any (f : Nat) (ef : ∀ args w, (callFunc f args).run Try.prog w = .ok (.enter f args) w) (op : Nat → Mons → Mons) (P : Mons → Prop) (M : Nat) (hM : M ≤ 7) (hP : ∀ i F, i + 1 < M → P F → P (op i F))
    (hop : ∀ (b i : Nat) (I : Int) (F : Mons) (w : World), PF w b F → I = (i : Int) → i + 1 < M → P F → Calls Try.prog f #[.map (some b), .int .i64 I] w fun e w' => ∃ r, e = .returned (.map (some r)) ∧ w.heap.size ≤ r ∧ PF w' r (op i F) ∧ Below w.heap.size w w') :
    ∀ (N : Nat) (a : Option Addr) (n c : Nat) (xs : List Int) (w : World) (b : Nat) (F : Mons), nin xs < N → RI w a xs → xs.length = n → n ≤ M → PF w b F → P F →
    Calls Try.prog 82 #[.slice a n c, .map (some b), .func (.func f) #[] #[]] w fun e w' => ∃ r, e = .returned (.map (some r)) ∧ PF w' r ((ups xs).foldr op F) ∧ P ((ups xs).foldr op F) ∧ Below w.heap.size w w' := by
  intro N
  induction N with
  | zero =>
    intro a n c xs w b F hN
    omega
  | succ N ih =>
    intro a n c xs w b F hN hr hn hb hF hPF
    have Hn := Lib.hid hn; clear hn
    have HF := Lib.hid (fun d : Nat => hF.below (Drew.below (Drew.drewN w d) _))
    have q0 : IntKind.i64.wrap ((n : Int) - 1) = (n : Int) - 1 := IntWalk.i64_in _ (by omega)
    have IH := Lib.hid ih
    have HPF := Lib.hid hPF
    clear hF ih hPF
    go_enter Try.func82, Try.ntmps82
    go_wp2
    go_loopw [11] (fun kv wr => ∃ k : Nat, kv = .int .i64 k ∧ k ≤ n ∧ Hid (flat xs k) ∧ Drew w wr) (fun kv _ => n - (intOf kv).toNat)
    case atStart => exact ⟨0, rfl, Nat.zero_le _, fun j _ _ hj => by omega, Drew.refl _⟩
    case round =>
      obtain ⟨k, rfl, hk, Hfl, hd⟩ := hrel
      obtain ⟨wo, rfl⟩ : ∃ wo : World, wo = wr := ⟨_, rfl⟩
      have hB := hd.below w.heap.size
      by_cases hlt : k + 1 < n
      · obtain ⟨x, hx⟩ := some_at Hn.out (show k < n by omega)
        obtain ⟨y, hy⟩ := some_at Hn.out hlt
        obtain ⟨b1, off, rfl, hcell⟩ := (hr.below hB).at (k := k) (by rw [Hn.out]; omega)
        have p1 := hcell k x hx
        have p2 := hcell (k + 1) y hy
        have q1 : (k : Int) < (n : Int) - 1 := by omega
        have q2 : (k : Int) < (n : Int) := by omega
        have q3 : IntKind.i64.wrap ((k : Int) + 1) = ((k + 1 : Nat) : Int) := by rw [IntWalk.i64_in _ (by omega)]; omega
        have q4 : ((k + 1 : Nat) : Int) < (n : Int) := by omega
        have Hx := Lib.hid hx
        have Hy := Lib.hid hy
        clear hcell hx hy
        by_cases hxy : x < y
        · have Hasc := Lib.hid (asc_at Hx.out Hy.out hxy Hfl.out)
          have Hnin := Lib.hid (nin_sw Hasc.out)
          have Hus := Lib.hid (ups_some Hasc.out).1
          have Hsw := Lib.hid (sw_swp (w := xs) (k := k) (by rw [Hn.out]; exact hlt))
          have HD := Lib.hid (fun d : Nat => hd.trans (Drew.drewN wo d))
          have Hr := Lib.hid hr
          have hg : decide (x < y) = true := by simp [hxy]
          have hN2 := Lib.hid hN
          clear hd hB hr hN
          go_wp2
          go_quiet (fail)
          go_wp2_with fail
          refine (exchanged_any _ _ _ xs k (k + 1) _ _ _ (Hr.out.below ((HD.out _).below _)) Hn.out (by omega) rfl rfl (by omega) hlt (by omega)).mono ?_
          rintro e w2 ⟨a3, c3, rfl, ho3, hb3⟩
          rw [Hsw.out] at ho3
          have hB2 := ((HD.out _).below w.heap.size).trans (hb3.mono ((HD.out _).below w.heap.size).size)
          have Ho3 := Lib.hid ho3
          have HF2 := Lib.hid ((HF.out 0).below hB2)
          have Hl3 := Lib.hid (show (sw xs k).length = n by rw [sw_length, Hn.out])
          have Hn3 := Lib.hid (show nin (sw xs k) < N by have := Hnin.out; have := hN2.out; omega)
          clear ho3 hb3
          go_wp2_with fail
          refine (IH.out _ _ _ (sw xs k) _ b F Hn3.out Ho3.out.rd Hl3.out hb HF2.out HPF.out).mono ?_
          rintro e w3 ⟨r3, rfl, hF3, hP3, hb3⟩
          have hB3 := hB2.trans (hb3.mono hB2.size)
          have HF3 := Lib.hid hF3
          have HP3 := Lib.hid hP3
          clear hF3 hP3 hb3
          go_wp2_with fail
          refine (hop r3 k _ _ _ HF3.out rfl (by omega) HP3.out).mono ?_
          rintro e w4 ⟨r4, rfl, _, hF4, hb4⟩
          have hB4 := hB3.trans (hb4.mono hB3.size)
          have HF4 := Lib.hid hF4
          have HP4 := Lib.hid (hP k _ (by omega) HP3.out)
          clear hF4 hb4
          go_wp2
          go_ret
          exact ⟨_, rfl, by rw [Hus.out]; exact HF4.out, by rw [Hus.out]; exact HP4.out, hB4⟩
        · have Hfl2 := Lib.hid (show flat xs (k + 1) from fun j p q hj hp hq => by
            rcases Nat.lt_or_ge j k with h | h
            · exact Hfl.out j p q h hp hq
            · obtain rfl : j = k := by omega
              rw [Hx.out] at hp
              rw [Hy.out] at hq
              obtain rfl := Option.some.inj hp
              obtain rfl := Option.some.inj hq
              exact hxy)
          have HD := Lib.hid (fun d : Nat => hd.trans (Drew.drewN wo d))
          have hg : decide (x < y) = false := by simp [hxy]
          clear hd hB
          go_wp2
          go_quiet (fail)
          go_wp2
          go_roundw
          case rel => exact ⟨k + 1, by go_num, by omega, Hfl2.out, HD.out _⟩
          case measure => simp [intOf]; omega
      · have Hnone := Lib.hid (ups_none (asc_all (w := xs) (fun j p q hp hq => by
          have := (List.getElem?_eq_some_iff.1 hq).1
          rw [Hn.out] at this
          exact Hfl.out j p q (by omega) hp hq))).1
        have q1 : ¬ (k : Int) < (n : Int) - 1 := by omega
        have HF2 := Lib.hid ((HF.out 0).below hB)
        clear hr
        go_wp2
        go_ret
        exact ⟨_, rfl, by rw [Hnone.out]; exact HF2.out, by rw [Hnone.out]; exact HPF.out, hB⟩
end Go.Proofs.Ytocgcgmlemoekaa

namespace Go.Proofs.Ytocgcgmlemoekaa
open Go.RowKit

def schT (xs : List Int) : List (List Int × Int) := if isPerm xs = true then closedT (schM (trim xs) (trimLen xs xs.length)) else []
def schOk (xs : List Int) : Bool := isPerm xs && polyOk (termsM (schM (trim xs) (trimLen xs xs.length)))
theorem sch_no {xs : List Int} (h : isPerm xs = false) : schT xs = [] ∧ schOk xs = false := by
  unfold schT schOk
  rw [h]
  exact ⟨rfl, rfl⟩
theorem sch_yes {xs : List Int} (h : isPerm xs = true) : schT xs = closedT (schM (trim xs) (trimLen xs xs.length)) ∧ schOk xs = polyOk (termsM (schM (trim xs) (trimLen xs xs.length))) := by
  unfold schT schOk
  rw [h]
  exact ⟨if_pos rfl, rfl⟩
theorem sch_b7 (v : List Int) {m : Nat} (hm : m ≤ 7) (hv : v.length = m) : B7 (schM v m) :=
  (B7.stair hm).low _ fun k hk => by have := ups_lt v k hk; omega

set_option maxRecDepth 100000 in
set_option maxHeartbeats 1600000 in
theorem specSch_any (a : Option Addr) (n c : Nat) (xs : List Int) (w : World) (hr : RI w a xs) (hn : xs.length = n) (hb : n ≤ 1048576) (hc : n ≤ c) :
    Calls Try.prog 15 #[.slice a n c] w fun e w' => ∃ a' n' c' r, e = .returned (.tuple #[.slice a' n' c', .bool r]) ∧ TO w' w.heap.size w'.heap.size a' n' c' (schT xs) ∧ Hid (r = schOk xs) ∧ Below w.heap.size w w' := by
  have Hn := Lib.hid hn
  cases hp : isPerm xs
  · have H0 := Lib.hid (sch_no hp)
    have Hp := Lib.hid hp
    clear hp hn
    go_enter Try.func15, Try.ntmps15
    go_wp2_with fail
    refine (is (specIsPerm_any _ _ _ xs _ hr Hn.out (by omega) hc) Hp.out).mono ?_
    rintro e w1 ⟨rfl, hd1⟩
    have hB1 := hd1.below w.heap.size
    go_wp2
    go_ret2
    exact ⟨_, _, _, _, rfl, by rw [H0.out.1]; exact TO.nil, H0.out.2.symm, hB1⟩
  have h7 : n ≤ 7 := by rw [← hn]; exact ((isPerm_iff xs).1 hp).2.1
  have H0 := Lib.hid (sch_yes hp)
  have Hp := Lib.hid hp
  unfold trim at H0
  rw [hn] at H0
  have hml := trimLen_le xs n
  have HB := Lib.hid (sch_b7 (xs.take (trimLen xs n)) (m := trimLen xs n) (by omega) (by rw [List.length_take, hn]; omega))
  clear hp hn hml
  go_enter Try.func15, Try.ntmps15
  go_wp2_with fail
  refine (is (specIsPerm_any _ _ _ xs _ hr Hn.out (by omega) hc) Hp.out).mono ?_
  rintro e w1 ⟨rfl, hd1⟩
  have hB1 := hd1.below w.heap.size
  have hr1 := hr.below hB1
  go_wp2_with fail
  refine (l3Schubert_any _ _ _ xs _ hr1 Hn.out h7 hc).mono ?_
  rintro e w4 ⟨a4, n4, c4, rfl, ho4, hb4⟩
  have hB4 := hB1.trans (hb4.mono hB1.size)
  have Ho4 := Lib.hid ho4
  clear ho4
  go_wp2_with fail
  refine (l2Shut_any _ _ _ _ _ Ho4.out.rd Ho4.out.len (fun p hp => (HB.out.canon p hp).1)).mono ?_
  rintro e w9 ⟨a9, n9, c9, r9, rfl, ho9, hh9, hb9⟩
  have hB9 := hB4.trans (hb9.mono hB4.size)
  have Ho9 := Lib.hid (ho9.mono (B' := w.heap.size) (S' := w9.heap.size) hB4.size (Nat.le_refl _))
  clear ho9
  go_wp2
  go_ret2
  exact ⟨_, _, _, _, rfl, by rw [H0.out.1]; exact Ho9.out, by rw [H0.out.2]; exact hh9, hB9⟩

set_option maxRecDepth 100000 in
set_option maxHeartbeats 1600000 in
theorem implSchub_any (a : Option Addr) (n c : Nat) (xs : List Int) (w : World) (hr : RI w a xs) (hn : xs.length = n) (hb : n ≤ 7) (hc : n ≤ c) (hp : isPerm xs = true) :
    Calls Try.prog 71 #[.slice a n c] w fun e w' => ∃ r, e = .returned (.map (some r)) ∧ PF w' r (schM (xs.take (trimLen xs n)) (trimLen xs n)) ∧ Below w.heap.size w w' := by
  have Hn := Lib.hid hn; clear hn
  have HT := Lib.hid (fun w (hr : RI w a xs) => implTrim_any a n c xs w hr Hn.out (by omega) hc hp)
  have hmn := trimLen_le xs n
  obtain ⟨m, hm⟩ : ∃ m, trimLen xs n = m := ⟨_, rfl⟩
  rw [hm] at HT hmn ⊢
  obtain ⟨v, hv⟩ : ∃ v, xs.take m = v := ⟨_, rfl⟩
  have Hvl := Lib.hid (show v.length = m by rw [← hv, List.length_take, Hn.out]; omega)
  rw [hv] at HT ⊢
  clear hm hv hp
  have HB7 := Lib.hid (B7.stair (n := m) (by omega))
  go_enter Try.func71, Try.ntmps71
  go_wp2_with fail
  refine (HT.out _ hr).mono ?_
  rintro e w1 ⟨a1, c1, rfl, ho1, hb1⟩
  have Ho1 := Lib.hid ho1
  clear ho1
  go_wp2_with fail
  refine (implStair_any m _ (by omega)).mono ?_
  rintro e w2 ⟨r2, rfl, hF2, hb2⟩
  have hB2 := hb1.trans (hb2.mono hb1.size)
  have HF2 := Lib.hid hF2
  have Ho12 := Lib.hid (Ho1.out.below hb2)
  clear hF2
  go_wp2_with fail
  refine (lowered_any 160 (fun args w => by kernel_rfl) dividedM B7 7 (Nat.le_refl _) (fun i F hi h => h.divided (by omega)) (fun b i I F w hF hI hi _ => divided_any b i I F w hF hI (by omega)) (nin v + 1) _ _ _ v _ r2 _ (Nat.lt_succ_self _) Ho12.out.rd Hvl.out (by omega) HF2.out HB7.out).mono ?_
  rintro e w3 ⟨r3, rfl, hF3, _, hb3⟩
  have hB3 := hB2.trans (hb3.mono hB2.size)
  have HF3 := Lib.hid hF3
  clear hF3
  go_wp2
  go_ret
  exact ⟨_, rfl, HF3.out, hB3⟩

set_option maxRecDepth 100000 in
set_option maxHeartbeats 1600000 in
theorem implSch_any (a : Option Addr) (n c : Nat) (xs : List Int) (w : World) (hr : RI w a xs) (hn : xs.length = n) (hb : n ≤ 1048576) (hc : n ≤ c) :
    Calls Try.prog 17 #[.slice a n c] w fun e w' => ∃ a' n' c' r, e = .returned (.tuple #[.slice a' n' c', .bool r]) ∧ TO w' w.heap.size w'.heap.size a' n' c' (schT xs) ∧ Hid (r = schOk xs) ∧ Below w.heap.size w w' := by
  have Hn := Lib.hid hn
  cases hp : isPerm xs
  · have H0 := Lib.hid (sch_no hp)
    have Hp := Lib.hid hp
    clear hp hn
    go_enter Try.func17, Try.ntmps17
    go_wp2_with fail
    refine (is (implIsPerm_any _ _ _ xs _ hr Hn.out (by omega)) Hp.out).mono ?_
    rintro e w1 ⟨rfl, hB1⟩
    go_wp2
    go_ret2
    exact ⟨_, _, _, _, rfl, by rw [H0.out.1]; exact TO.nil, H0.out.2.symm, hB1⟩
  have h7 : n ≤ 7 := by rw [← hn]; exact ((isPerm_iff xs).1 hp).2.1
  have H0 := Lib.hid (sch_yes hp)
  have Hp := Lib.hid hp
  unfold trim at H0
  rw [hn] at H0
  clear hp hn
  go_enter Try.func17, Try.ntmps17
  go_wp2_with fail
  refine (is (implIsPerm_any _ _ _ xs _ hr Hn.out (by omega)) Hp.out).mono ?_
  rintro e w1 ⟨rfl, hB1⟩
  have hr1 := hr.below hB1
  go_wp2_with fail
  refine (implSchub_any _ _ _ xs _ hr1 Hn.out h7 hc Hp.out).mono ?_
  rintro e w4 ⟨r4, rfl, hF4, hb4⟩
  have hB4 := hB1.trans (hb4.mono hB1.size)
  have HF4 := Lib.hid hF4
  clear hF4
  go_wp2_with fail
  refine (closed_any r4 _ _ HF4.out).mono ?_
  rintro e w9 ⟨a9, n9, c9, r9, rfl, ho9, hh9, hb9⟩
  have hB9 := hB4.trans (hb9.mono hB4.size)
  have Ho9 := Lib.hid (ho9.mono (B' := w.heap.size) (S' := w9.heap.size) hB4.size (Nat.le_refl _))
  clear ho9
  go_wp2
  go_ret2
  exact ⟨_, _, _, _, rfl, by rw [H0.out.1]; exact Ho9.out, by rw [H0.out.2]; exact hh9, hB9⟩
end Go.Proofs.Ytocgcgmlemoekaa

namespace Go.Proofs.Ytocgcgmlemoekaa
open Go.RowKit

theorem schT_cases (xs : List Int) : schT xs = [] ∨ ∃ F, schT xs = closedT F := by
  unfold schT
  split
  · exact .inr ⟨_, rfl⟩
  · exact .inl rfl
theorem schT_len (xs : List Int) : (schT xs).length ≤ 1048576 := by
  rcases schT_cases xs with e | ⟨F, e⟩
  · rw [e]; exact Nat.zero_le _
  · rw [e]; have := closedT_len F; omega
theorem schT_sz (xs : List Int) : sz_T (schT xs) ≤ 1099511627776 := by
  rcases schT_cases xs with e | ⟨F, e⟩
  · rw [e]; exact Nat.zero_le _
  · rw [e, sz_T_sevens closedT_each]; have := closedT_len F; omega
theorem schT_short (xs : List Int) : ∀ p ∈ schT xs, p.1.length ≤ 1048576 := by
  rcases schT_cases xs with e | ⟨F, e⟩
  · rw [e]; simp
  · rw [e]; intro p hp; rw [closedT_each p hp]; omega
end Go.Proofs.Ytocgcgmlemoekaa

namespace Go.Proofs.Ytocgcgmlemoekaa
open Go.RowKit

def Bv (b : Nat → Nat) (F : Mons) : Prop := ∀ p ∈ F, inK p.1 ∧ ∀ j : Nat, j < 7 → dig p.1 j ≤ ((b j : Nat) : Int)
theorem Bv.mono {b c : Nat → Nat} {F : Mons} (h : Bv b F) (hbc : ∀ j, j < 7 → b j ≤ c j) : Bv c F := fun p hp => ⟨(h p hp).1, fun j hj => by have := (h p hp).2 j hj; have := hbc j hj; omega⟩
theorem Bv.nil (b : Nat → Nat) : Bv b [] := fun p hp => by cases hp
theorem Bv.canon {b : Nat → Nat} {F : Mons} (h : Bv b F) : Bv b (canon F) := fun p hp => by
  obtain ⟨q, hq, e⟩ := mem_canon hp
  rw [← e]
  exact h q hq
theorem Bv.plus {b : Nat → Nat} {c : Int} {F G : Mons} (h : Bv b F) (h' : Bv b G) : Bv b (plusM F c G) := fun p hp => by
  rcases List.mem_append.1 hp with hp | hp
  · exact h p hp
  · obtain ⟨q, hq, rfl⟩ := List.mem_map.1 hp
    exact h' q hq
theorem Bv.raised {b c : Nat → Nat} {F : Mons} (h : Bv b F) {i : Nat} (hi : i ≤ 6) (hb : b i ≤ 126) (hc : ∀ j, j < 7 → j ≠ i → b j ≤ c j) (hc' : b i + 1 ≤ c i) : Bv c (raisedM i F) := fun p hp => by
  obtain ⟨q, hq, rfl⟩ := List.mem_map.1 hp
  obtain ⟨h1, h2⟩ := h q hq
  have h0 := h2 i (by omega)
  obtain ⟨h3, h4, h5⟩ := key_raise h1 hi (by omega)
  refine ⟨h3, fun j hj => ?_⟩
  by_cases e : j = i
  · subst e
    show dig (q.1 + unit j) j ≤ _
    rw [h4]
    omega
  · show dig (q.1 + unit i) j ≤ _
    rw [h5 j hj e]
    have := h2 j hj
    have := hc j hj e
    omega
theorem Bv.divided {b c : Nat → Nat} {F : Mons} (h : Bv b F) {i : Nat} (hi : i ≤ 5) (hc : ∀ j, j < 7 → j ≠ i → j ≠ i + 1 → b j ≤ c j) (h1 : b i ≤ c i + 1) (h2 : b (i + 1) ≤ c i + 1) (h3 : b i ≤ c (i + 1) + 1) (h4 : b (i + 1) ≤ c (i + 1) + 1) : Bv c (dividedM i F) := fun p hp => by
  obtain ⟨q, hq, hp⟩ := List.mem_flatMap.1 hp
  obtain ⟨k, hk, rfl⟩ := List.mem_map.1 hp
  obtain ⟨g1, g2⟩ := h q hq
  obtain ⟨g3, g4, g5, g6⟩ := dd_key g1 hi hk
  refine ⟨g3, fun j hj => ?_⟩
  have b1 := g2 i (by omega)
  have b2 := g2 (i + 1) (by omega)
  by_cases e : j = i
  · subst e; show dig k j ≤ _; omega
  · by_cases e' : j = i + 1
    · subst e'; show dig k (i + 1) ≤ _; omega
    · show dig k j ≤ _
      rw [g6 j hj e e']
      have := g2 j hj
      have := hc j hj e e'
      omega
theorem Bv.count {b : Nat → Nat} {F : Mons} (h : Bv b F) : (Go.Proofs.Ytocgcgmlemoekaa.canon F).length ≤ (b 0 + 1) * ((b 1 + 1) * ((b 2 + 1) * ((b 3 + 1) * ((b 4 + 1) * ((b 5 + 1) * (b 6 + 1)))))) := by
  have hx : Bx [b 0 + 1, b 1 + 1, b 2 + 1, b 3 + 1, b 4 + 1, b 5 + 1, b 6 + 1] F := fun p hp => ⟨(h p hp).1, fun i d hd hi => by
    have h2 := (h p hp).2 i hi
    have hc : i = 0 ∨ i = 1 ∨ i = 2 ∨ i = 3 ∨ i = 4 ∨ i = 5 ∨ i = 6 := by omega
    rcases hc with rfl | rfl | rfl | rfl | rfl | rfl | rfl <;> simp at hd <;> omega⟩
  have := hx.count rfl
  simpa using this
theorem Bv.bd {b : Nat → Nat} {F : Mons} (h : Bv b F) (hb : ∀ j, j < 7 → b j ≤ 126) : Bd 126 F := fun p hp => ⟨(h p hp).1, fun j hj => by have := (h p hp).2 j hj; have := hb j hj; omega⟩

/-! below the staircase of n -/
def sb (n : Nat) (j : Nat) : Nat := n - 1 - j
theorem partK_sb : ∀ n, n < 8 → ∀ j : Nat, j < 7 → dig (partK n n) j = ((n - 1 - j : Nat) : Int) := by decide
theorem Bv.stair {n : Nat} (hn : n ≤ 7) : Bv (sb n) [(partK n n, 1)] := fun p hp => by
  rw [List.mem_singleton] at hp
  subst hp
  obtain ⟨h1, h2, _⟩ := partK_in n (by omega) n (by omega) (Nat.le_refl _)
  exact ⟨⟨h1, h2⟩, fun j hj => by rw [partK_sb n (by omega) j hj]; exact Int.le_refl _⟩
theorem Bv.sb_divided {n : Nat} {F : Mons} (h : Bv (sb n) F) {i : Nat} (hi : i ≤ 5) (hn : i + 1 < n) : Bv (sb n) (dividedM i F) :=
  h.divided hi (fun _ _ _ _ => Nat.le_refl _) (by unfold sb; omega) (by unfold sb; omega) (by unfold sb; omega) (by unfold sb; omega)
theorem Bv.sb_iso {n : Nat} (hn7 : n ≤ 7) {F : Mons} (h : Bv (sb n) F) {i : Nat} (hi : i ≤ 5) (hn : i + 1 < n) : Bv (sb n) (isoM i F) := by
  have h1 : Bv (fun j => if j = i + 1 then sb n j + 1 else sb n j) (raisedM (i + 1) F) := h.raised (by omega) (by unfold sb; omega) (fun j _ hne => by simp [hne]) (by simp)
  have h2 : Bv (fun j => if j = i + 1 then sb n j + 1 else sb n j) F := h.mono fun j _ => by by_cases e : j = i + 1 <;> simp [e]
  refine (h2.plus (c := -1) h1).divided hi (fun j _ _ h4 => by simp [h4]) ?_ ?_ ?_ ?_ <;> simp [sb] <;> omega
theorem Bv.dem_same {b : Nat → Nat} {F : Mons} {i : Nat} (h : Bv b F) (hi : i ≤ 5) (hb : b i ≤ 126) (he : b (i + 1) = b i) : Bv b (demM i F) := by
  have h1 : Bv (fun j => if j = i then b j + 1 else b j) (raisedM i F) := h.raised (by omega) hb (fun j _ hne => by simp [hne]) (by simp)
  refine h1.divided hi (fun j _ h3 _ => by simp [h3]) ?_ ?_ ?_ ?_ <;> simp [he]
end Go.Proofs.Ytocgcgmlemoekaa
