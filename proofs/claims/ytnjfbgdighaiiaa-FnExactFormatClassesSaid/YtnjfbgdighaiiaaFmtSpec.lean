/-
  Contract of FormatInt, the reference's.
-/
import Derived.Test.YtnjfbgdighaiiaaFmtInt
import Derived.Test.YtnjfbgdighaiiaaApp
import Derived.Laws.IdiomStrings
import Derived.Deep.LoopGhost
namespace Go.Proofs.Ytnjfbgdighaiiaa
open Go.RowKit

def u8s (bs : List UInt8) : List Value := bs.map fun b => Value.int .u8 (b.toNat : Int)
/-- the slice of bytes is a row of the call's own, in a block from B on and below S -/
def BO (w : World) (B S : Nat) (a : Option Addr) (n c : Nat) (bs : List UInt8) : Prop :=
  w.ownsRow B 5 1 (.slice a n c) n (u8s bs) ∧ ∀ k, (Value.slice a n c).ownBlock = some k → k < S
theorem BO.mk {w : World} {B : Nat} {a : Option Addr} {n c : Nat} {bs : List UInt8} (h : w.ownsRow B 5 1 (.slice a n c) n (u8s bs)) : BO w B w.heap.size a n c bs := ⟨h, fun k hk => (h.lt k hk).2⟩
theorem BO.len {w : World} {B S : Nat} {a : Option Addr} {n c : Nat} {bs : List UInt8} (h : BO w B S a n c bs) : bs.length = n := by have := h.1.1; simpa [u8s] using this
theorem BO.lo {w : World} {B S : Nat} {a : Option Addr} {n c : Nat} {bs : List UInt8} (h : BO w B S a n c bs) : ∀ k, (Value.slice a n c).ownBlock = some k → B ≤ k := fun k hk => (h.1.lt k hk).1
theorem BO.cons {w : World} {B S : Nat} {a : Option Addr} {n c : Nat} {bs : List UInt8} (h : BO w B S a n c bs) {j : Nat} (hj : j < n) :
    ∃ g, a = some ⟨g, 0, none⟩ ∧ ∃ b, bs[j]? = some b ∧ w.cell? ⟨g, j, none⟩ = some (.int .u8 (b.toNat : Int)) := by
  have hl := h.len
  have h' := h.1
  rcases h.1.2 with ⟨_, h2⟩ | ⟨g, cap, cur, hv, hb, _⟩
  · omega
  · simp only [Value.slice.injEq] at hv
    obtain ⟨rfl, _, rfl⟩ := hv
    refine ⟨g, rfl, bs[j]'(by omega), List.getElem?_eq_getElem (by omega), ?_⟩
    rw [h'.cellAt j (by omega)]
    unfold u8s
    rw [List.getElem?_map, List.getElem?_eq_getElem (by omega)]
    rfl
theorem BO.only {w w' : World} {B S B' S' : Nat} {a : Option Addr} {n c : Nat} {bs : List UInt8} (h : BO w B S a n c bs) (ho : Only B' S' w w') (hd : S ≤ B' ∨ S' ≤ B) : BO w' B S a n c bs := by
  refine ⟨⟨h.1.1, ?_⟩, h.2⟩
  have hh := h.2
  have hl := h.lo
  rcases h.1.2 with h2 | ⟨g, cap, cur, hv, hg, hb, r⟩
  · exact .inl h2
  · simp only [Value.slice.injEq] at hv
    obtain ⟨rfl, _, rfl⟩ := hv
    have h1 := hh g rfl
    have h3 := hl g rfl
    exact .inr ⟨g, c, cur, rfl, hg, by rw [ho.block g (Array.getElem?_eq_some_iff.1 hb).1 (by omega)]; exact hb, r⟩
theorem BO.made (w : World) : BO (w.alloc (.cells #[] 5)) w.heap.size (w.alloc (.cells #[] 5)).heap.size (some ⟨w.heap.size, 0, none⟩) 0 0 [] :=
  BO.mk (World.ownsRow_made _ #[] 0 (Nat.le_refl _) (Nat.zero_le _) rfl)
theorem Try.info5 : (Try.prog.info? 5).map (fun i => (i.zero, i.size, i.bytes)) = some (some (.int .u8 0), 1, 1) := by kernel_rfl
/-- append of one byte -/
theorem wpList_pushU {w : World} {W : World} {x0 : Int} {b0 : UInt8} (hW : W = w.alloc (.cells #[.int .u8 x0] 5)) (hx0 : x0 = (b0.toNat : Int)) {ops : Array Oper} {rest : List Oper} {o : Oper} {ac : Act} {Q : Exit → Act → World → Prop} (hgd : o.guard = none) (s x : Operand)
    (ho : o.op = .call { callee := .builtin .append, args := #[s, x], argTypes := #[38, 38] })
    {B S : Nat} {a : Option Addr} {n c : Nat} {bs : List UInt8} (hown : BO w B S a n c bs) (hs : ac.eval s = .slice a n c)
    (hx : ac.eval x = .slice (some ⟨w.heap.size, 0, none⟩) 1 1) (hn : n + 1 ≤ 16777216) (hbase : B ≤ w.heap.size)
    (h : ∀ a' c' w', BO w' B w'.heap.size a' (n + 1) c' (bs ++ [b0]) → Grows w w' (.slice a n c) (.slice a' (n + 1) c') → wpList Try.prog ops Q rest (ac.put o.dst (.slice a' (n + 1) c')) w') :
    wpList Try.prog ops Q (o :: rest) ac W := by
  subst hW hx0
  obtain ⟨i0, hi, hz0, hz1, hz2⟩ := info_parts Try.info5
  refine wpList_app _ hgd s x 38 ho B 5 i0 (.int .u8 0) 1 Try.underlying38 hi hz0 hz1 hz2 rfl _ n (u8s bs) hs (hown.1.alloc _) _ 1 1 [.int .u8 (b0.toNat : Int)] hx rfl (by simp) ?_ ?_ hn (by omega) (by simp; omega) ?_
  · intro ad had j u hu
    obtain rfl := Option.some.inj had
    match j, hu with
    | 0, hu => simp at hu; subst hu; simp [Addr.add]
  · intro u hu; simp at hu; subst hu; rfl
  · intro a' c' w' h2 h3
    exact h a' c' w' (BO.mk (by simpa [u8s] using h2)) ((Grows.of_below _ ((Below.refl _ _).alloc (Nat.le_refl _) _)).trans h3)

/-- the digits, the least first -/
def lsd (m : Nat) : List Nat := (digits m m).reverse
theorem lsd_small {m : Nat} (h : m < 10) : lsd m = [m] := by rw [lsd, digits_small h]; rfl
theorem lsd_big {m : Nat} (h : ¬ m < 10) : lsd m = (m % 10) :: lsd (m / 10) := by rw [lsd, digits_big h]; simp [lsd]
theorem lsd_step (q : Nat) : ∃ t, lsd q = (q % 10) :: t ∧ ((t = [] ∧ q / 10 = 0) ∨ (t = lsd (q / 10) ∧ q / 10 ≠ 0)) := by
  by_cases h : q < 10
  · exact ⟨[], by rw [lsd_small h, Nat.mod_eq_of_lt h], .inl ⟨rfl, by omega⟩⟩
  · exact ⟨_, lsd_big h, .inr ⟨rfl, by omega⟩⟩
theorem glyph_nat {d : Nat} (h : d < 10) : ((glyph d).toNat : Int) = 48 + (d : Int) := by
  have h1 : (List.range 10).all (fun d => decide (((glyph d).toNat : Int) = 48 + (d : Int))) = true := by decide +kernel
  rw [List.all_eq_true] at h1
  exact of_decide_eq_true (h1 d (by rw [List.mem_range]; exact h))
theorem lsd_len {m : Nat} (h : m ≤ 9223372036854775808) : (lsd m).length ≤ 19 := by
  have h3 : (10 : Nat) ^ 19 = 10000000000000000000 := by rfl
  have := digits_len 19 m m (by omega) (by omega)
  simpa [lsd] using this
def outs (pre D : List UInt8) (j : Nat) : List UInt8 := pre ++ (D.drop j).reverse
theorem outs_all {pre D : List UInt8} {l : Nat} (h : D.length = l) : outs pre D l = pre := by unfold outs; rw [List.drop_of_length_le (by omega)]; simp
theorem outs_zero (pre D : List UInt8) : outs pre D 0 = pre ++ D.reverse := rfl
theorem outs_step {pre D : List UInt8} {t : Nat} {b : UInt8} (h : D[t]? = some b) : outs pre D (t + 1) ++ [b] = outs pre D t := by
  obtain ⟨ht, hb2⟩ := List.getElem?_eq_some_iff.1 h
  unfold outs
  rw [List.drop_eq_getElem_cons ht, hb2]
  simp
/-- what is still to come -/
def Todo (m : Nat) (ds : List Nat) (q g : Nat) : Prop :=
  ∃ t, lsd m = ds ++ t ∧ t.length = g ∧ ((t = [] ∧ q = 0 ∧ ds ≠ []) ∨ (t = lsd q ∧ (q ≠ 0 ∨ ds = [])))
theorem Todo.start (m : Nat) : Todo m [] m (lsd m).length := ⟨lsd m, rfl, rfl, .inr ⟨rfl, .inr rfl⟩⟩
theorem Todo.done {m q : Nat} {ds : List Nat} {g : Nat} (h : Todo m ds q g) (hq : q = 0) (hd : ds ≠ []) : lsd m = ds := by
  obtain ⟨t, h1, _, ⟨rfl, _⟩ | ⟨_, h3 | h3⟩⟩ := h
  · simpa using h1
  · exact absurd hq h3
  · exact absurd h3 hd
theorem Todo.next {m q : Nat} {ds : List Nat} {g : Nat} (h : Todo m ds q g) (hc : q ≠ 0 ∨ ds = []) : ∃ g', g = g' + 1 ∧ Todo m (ds ++ [q % 10]) (q / 10) g' := by
  obtain ⟨t, h1, h2, ⟨rfl, h3, h4⟩ | ⟨rfl, _⟩⟩ := h
  · rcases hc with h5 | h5
    · exact absurd h3 h5
    · exact absurd h5 h4
  · obtain ⟨t', e1, e2⟩ := lsd_step q
    refine ⟨t'.length, by rw [← h2, e1]; rfl, t', by rw [h1, e1]; simp, rfl, ?_⟩
    rcases e2 with ⟨e3, e4⟩ | ⟨e3, e4⟩
    · exact .inl ⟨e3, e4, by simp⟩
    · exact .inr ⟨e3, .inl e4⟩
theorem Todo.len {m q : Nat} {ds : List Nat} {g : Nat} (h : Todo m ds q g) : ds.length ≤ (lsd m).length := by
  obtain ⟨t, h1, _⟩ := h
  rw [h1, List.length_append]; omega

/-- a number that stands for q, with a sign -/
def Signed (neg : Bool) (q : Nat) (K : Int) : Prop := K = if neg then -(q : Int) else (q : Int)
set_option maxRecDepth 100000 in
set_option maxHeartbeats 6400000 in
theorem specFmt_any (n : Int) (hl : -9223372036854775808 ≤ n) (hu : n ≤ 9223372036854775807) (w : World) :
    Calls Try.prog 86 #[.int .i64 n] w fun e w' => e = .returned (.string (fmt n)) ∧ Below w.heap.size w w' := by
  obtain ⟨m, hm⟩ : ∃ m : Nat, n.natAbs = m := ⟨_, rfl⟩
  have hm0 : m ≤ 9223372036854775808 := by omega
  have hll := lsd_len hm0
  have h1 := Lib.hid (BO.made w)
  have hB0 : Below w.heap.size w (w.alloc (.cells #[] 5)) := (Below.refl _ _).alloc (Nat.le_refl _) _
  have HM := Lib.hid hm
  clear hm
  go_enter Try.func86, Try.ntmps86
  go_wp2
  go_loopg [3, 4] (lsd m).length (fun gf v k wr => Hid (∃ ds q a' l c', Todo m ds q gf ∧ ds.length = l ∧ v = .slice a' l c' ∧ k = .int .i64 (if n < 0 then -(q : Int) else (q : Int)) ∧ q ≤ m ∧ BO wr w.heap.size wr.heap.size a' l c' (ds.map glyph)) ∧ Below w.heap.size w wr)
  case atStart => exact ⟨⟨[], m, _, _, _, Todo.start m, rfl, rfl, by have := HM.out; congr 1; split <;> omega, Nat.le_refl _, h1.out⟩, hB0⟩
  case round =>
    clear h1 hB0
    obtain ⟨HV, hB⟩ := hrel
    obtain ⟨wo, rfl⟩ : ∃ wo : World, wo = wr := ⟨_, rfl⟩
    obtain ⟨ds, q, a', l, c', hT, hdl, rfl, rfl, hqm, ho⟩ := HV.out
    clear HV
    have hbs := hB.size
    have hl19 := hT.len
    rw [hdl] at hl19
    by_cases hc : q ≠ 0 ∨ ds = []
    · obtain ⟨g', rfl, hT2⟩ := hT.next hc
      have hq10 : q % 10 < 10 := by omega
      have hgl := glyph_nat hq10
      obtain ⟨bq, hbq⟩ : ∃ b, glyph (q % 10) = b := ⟨_, rfl⟩
      have hcond : (q ≠ 0) ∨ l = 0 := by
        rcases hc with h | h
        · exact .inl h
        · right; rw [← hdl, h]; rfl
      have hmap : ds.map glyph ++ [bq] = (ds ++ [q % 10]).map glyph := by simp [hbq]
      rw [hbq] at hgl
      have HT := Lib.hid hT2
      have HMap := Lib.hid hmap
      have HDl := Lib.hid (show (ds ++ [q % 10]).length = l + 1 by simp [hdl])
      have HQ := Lib.hid (show q / 10 ≤ m by omega)
      clear hT hT2 hmap hdl hc hbq
      by_cases hneg : n < 0
      · rw [if_pos hneg]
        have t1 : (-(q : Int)).tdiv 10 = -((q / 10 : Nat) : Int) := by rw [Int.neg_tdiv]; congr 1
        have t2 : (-(q : Int)).tmod 10 = -((q % 10 : Nat) : Int) := by rw [Int.neg_tmod]; rfl
        have HK := Lib.hid (show (if n < 0 then -((q / 10 : Nat) : Int) else ((q / 10 : Nat) : Int)) = (-(q : Int)).tdiv 10 by rw [if_pos hneg, t1])
        obtain ⟨K, hK⟩ : ∃ K, -(q : Int) = K := ⟨_, rfl⟩
        have k1 : K ≤ 0 := by omega
        have k2 : -9223372036854775808 ≤ K := by omega
        have kc : K ≠ 0 ∨ l = 0 := by omega
        rw [hK] at t1 t2 HK ⊢
        clear hK hneg hcond
        by_cases hz : q % 10 = 0
        · have k0 : K.tmod 10 = 0 := by rw [t2, hz]; rfl
          have x1 : ¬ (K.tmod 10 < 0) := by omega
          by_cases hK0 : K = 0
          · have hl0 : l = 0 := by omega
            subst hl0
            have e0 : (K != 0) = false := by simp [hK0]
            have HX := Lib.hid (show 48 + K.tmod 10 = (bq.toNat : Int) by omega)
            have HE := Lib.hid hK0
            clear hK0 hgl kc
            go_wp2_with (first | (at_builtin; go_loud (refine wpList_pushU (b0 := bq) (by rfl) ?hx1 (by rfl) _ _ (by rfl) ho (by rfl) (by rfl) (by omega) (by omega) ?_)))
            case hx1 => first | exact HX.out | (have := HX.out; omega) | (have h1 := HX.out; rw [k0] at h1; omega)
            intro a2 c2 w2 ho2 hg2
            have hB2 := hg2.below hB hbs ho.lo
            have hz2 := hB2.size
            rw [HMap.out] at ho2
            have HO := Lib.hid ho2
            clear ho ho2
            go_wp2
            go_roundg g'
            case rel => exact ⟨⟨_, _, _, _, _, HT.out, HDl.out, rfl, by rw [HK.out] <;> (congr 1; omega), HQ.out, HO.out⟩, hB2⟩
            case measure => omega
          · have e0 : (K != 0) = true := by simp [hK0]
            have HX := Lib.hid (show 48 + K.tmod 10 = (bq.toNat : Int) by omega)
            clear hgl kc
            go_wp2_with (first | (at_builtin; go_loud (refine wpList_pushU (b0 := bq) (by rfl) ?hx2 (by rfl) _ _ (by rfl) ho (by rfl) (by rfl) (by omega) (by omega) ?_)))
            case hx2 => first | exact HX.out | (have := HX.out; omega) | (have h1 := HX.out; rw [k0] at h1; omega)
            intro a2 c2 w2 ho2 hg2
            have hB2 := hg2.below hB hbs ho.lo
            have hz2 := hB2.size
            rw [HMap.out] at ho2
            have HO := Lib.hid ho2
            clear ho ho2
            go_wp2
            go_roundg g'
            case rel => exact ⟨⟨_, _, _, _, _, HT.out, HDl.out, rfl, by rw [HK.out] <;> (congr 1; omega), HQ.out, HO.out⟩, hB2⟩
            case measure => omega
        · have x1 : K.tmod 10 < 0 := by omega
          have x2 : -9 ≤ K.tmod 10 := by omega
          by_cases hK0 : K = 0
          · have hl0 : l = 0 := by omega
            subst hl0
            have e0 : (K != 0) = false := by simp [hK0]
            have HX := Lib.hid (show 48 + (0 - K.tmod 10) = (bq.toNat : Int) by omega)
            have HE := Lib.hid hK0
            clear hK0 hgl kc
            go_wp2_with (first | (at_builtin; go_loud (refine wpList_pushU (b0 := bq) (by rfl) ?hx3 (by rfl) _ _ (by rfl) ho (by rfl) (by rfl) (by omega) (by omega) ?_)))
            case hx3 => first | exact HX.out | (have := HX.out; omega) | (have h1 := HX.out; rw [k0] at h1; omega)
            intro a2 c2 w2 ho2 hg2
            have hB2 := hg2.below hB hbs ho.lo
            have hz2 := hB2.size
            rw [HMap.out] at ho2
            have HO := Lib.hid ho2
            clear ho ho2
            go_wp2
            go_roundg g'
            case rel => exact ⟨⟨_, _, _, _, _, HT.out, HDl.out, rfl, by rw [HK.out] <;> (congr 1; omega), HQ.out, HO.out⟩, hB2⟩
            case measure => omega
          · have e0 : (K != 0) = true := by simp [hK0]
            have HX := Lib.hid (show 48 + (0 - K.tmod 10) = (bq.toNat : Int) by omega)
            clear hgl kc
            go_wp2_with (first | (at_builtin; go_loud (refine wpList_pushU (b0 := bq) (by rfl) ?hx4 (by rfl) _ _ (by rfl) ho (by rfl) (by rfl) (by omega) (by omega) ?_)))
            case hx4 => first | exact HX.out | (have := HX.out; omega) | (have h1 := HX.out; rw [k0] at h1; omega)
            intro a2 c2 w2 ho2 hg2
            have hB2 := hg2.below hB hbs ho.lo
            have hz2 := hB2.size
            rw [HMap.out] at ho2
            have HO := Lib.hid ho2
            clear ho ho2
            go_wp2
            go_roundg g'
            case rel => exact ⟨⟨_, _, _, _, _, HT.out, HDl.out, rfl, by rw [HK.out] <;> (congr 1; omega), HQ.out, HO.out⟩, hB2⟩
            case measure => omega
      · rw [if_neg hneg]
        have HK := Lib.hid (show (if n < 0 then -((q / 10 : Nat) : Int) else ((q / 10 : Nat) : Int)) = (q : Int) / 10 by rw [if_neg hneg]; omega)
        have t2 : (q : Int) % 10 = ((q % 10 : Nat) : Int) := by omega
        obtain ⟨K, hK⟩ : ∃ K, (q : Int) = K := ⟨_, rfl⟩
        have k1 : 0 ≤ K := by omega
        have k2 : K ≤ 9223372036854775807 := by have := HM.out; omega
        have kc : K ≠ 0 ∨ l = 0 := by omega
        rw [hK] at t2 HK ⊢
        clear hK hneg hcond
        by_cases hK0 : K = 0
        · have hl0 : l = 0 := by omega
          subst hl0
          have e0 : (K != 0) = false := by simp [hK0]
          have HX := Lib.hid (show 48 + K % 10 = (bq.toNat : Int) by omega)
          have HE := Lib.hid hK0
          clear hK0 hgl kc
          go_wp2_with (first | (at_builtin; go_loud (refine wpList_pushU (b0 := bq) (by rfl) ?hx5 (by rfl) _ _ (by rfl) ho (by rfl) (by rfl) (by omega) (by omega) ?_)))
          case hx5 => first | exact HX.out | (have := HX.out; omega) | (have h1 := HX.out; rw [k0] at h1; omega)
          intro a2 c2 w2 ho2 hg2
          have hB2 := hg2.below hB hbs ho.lo
          have hz2 := hB2.size
          rw [HMap.out] at ho2
          have HO := Lib.hid ho2
          clear ho ho2
          go_wp2
          go_roundg g'
          case rel => exact ⟨⟨_, _, _, _, _, HT.out, HDl.out, rfl, by rw [HK.out] <;> (congr 1; omega), HQ.out, HO.out⟩, hB2⟩
          case measure => omega
        · have e0 : (K != 0) = true := by simp [hK0]
          have HX := Lib.hid (show 48 + K % 10 = (bq.toNat : Int) by omega)
          clear hgl kc
          go_wp2_with (first | (at_builtin; go_loud (refine wpList_pushU (b0 := bq) (by rfl) ?hx6 (by rfl) _ _ (by rfl) ho (by rfl) (by rfl) (by omega) (by omega) ?_)))
          case hx6 => first | exact HX.out | (have := HX.out; omega) | (have h1 := HX.out; rw [k0] at h1; omega)
          intro a2 c2 w2 ho2 hg2
          have hB2 := hg2.below hB hbs ho.lo
          have hz2 := hB2.size
          rw [HMap.out] at ho2
          have HO := Lib.hid ho2
          clear ho ho2
          go_wp2
          go_roundg g'
          case rel => exact ⟨⟨_, _, _, _, _, HT.out, HDl.out, rfl, by rw [HK.out] <;> (congr 1; omega), HQ.out, HO.out⟩, hB2⟩
          case measure => omega
    · have hq0 : q = 0 := by omega
      have hd0 : ds ≠ [] := fun h => hc (.inr h)
      have hfin := hT.done hq0 hd0
      have hl1 : 1 ≤ l := by rw [← hdl]; exact List.length_pos_iff.2 hd0
      have hK : (if n < 0 then -(q : Int) else (q : Int)) = 0 := by rw [hq0]; simp
      rw [hK]
      subst hfin
      have hA : Below wo.heap.size wo (wo.alloc (.cells #[] 5)) := (Below.refl _ _).alloc (Nat.le_refl _) _
      have hM := Lib.hid (BO.made wo)
      have hzM : (wo.alloc (.cells #[] 5)).heap.size = wo.heap.size + 1 := by simp
      have hod : BO (wo.alloc (.cells #[] 5)) w.heap.size wo.heap.size a' l c' ((lsd m).map glyph) := ho.only (Only.of_below hA) (.inr (Nat.zero_le _))
      have HOD := Lib.hid hod
      have HDl := Lib.hid hdl
      have hfmt : fmt n = ⟨((if n < 0 then [(45 : UInt8)] else []) ++ ((lsd m).map glyph).reverse).toArray⟩ := by
        have e : ((lsd m).map glyph).reverse = (digits m m).map glyph := by rw [lsd, List.map_reverse, List.reverse_reverse]
        rw [e, fmt, HM.out]
        apply ByteArray.ext
        split
        · simp [ByteArray.data_append, minus, text]
        · simp [ByteArray.data_append, text]
      have HF := Lib.hid hfmt
      have hne : l ≠ 0 := by omega
      clear hT hqm ho hod hfmt hK hc hd0 hdl hq0
      by_cases hneg : n < 0
      · have hf : (if n < 0 then [(45 : UInt8)] else []) = [45] := if_pos hneg
        have Hf := Lib.hid hf; clear hf
        go_wp2_with (first | (at_builtin; go_loud (refine wpList_pushU (b0 := 45) (by rfl) (by rfl) (by rfl) _ _ (by rfl) hM.out (by rfl) (by rw [hzM]; rfl) (by omega) (by rw [hzM]; omega) ?_)))
        intro a2 c2 w2 ho2 hg2
        have hO2 := hg2.only (B := wo.heap.size) (S := (wo.alloc (.cells #[] 5)).heap.size) hM.out.lo hM.out.2
        have hz2 := (show wo.heap.size ≤ w2.heap.size by have := hO2.size; omega)
        have hD2 := HOD.out.only hO2 (.inl (Nat.le_refl _))
        have HI := Lib.hid ho2
        have HDr := Lib.hid hD2
        have hB2 := hO2.below (hB.trans (hA.mono hbs)) hbs (by omega)
        clear hM HOD hD2 ho2
        go_wp2
        go_loopw [6, 7] (fun v i wr => Hid (∃ j : Nat, j ≤ l ∧ i = .int .i64 ((j : Int) - 1) ∧ ∃ ao no co, v = .slice ao no co ∧ no ≤ 1 + (l - j) ∧ BO wr wo.heap.size wr.heap.size ao no co (outs [(45 : UInt8)] ((lsd m).map glyph) j) ∧ BO wr w.heap.size wo.heap.size a' l c' ((lsd m).map glyph)) ∧ Below w.heap.size w wr ∧ wo.heap.size ≤ wr.heap.size) (fun _ i _ => (intOf i + 1).toNat)
        case atStart => exact ⟨⟨l, Nat.le_refl _, rfl, _, _, _, rfl, by omega, by rw [outs_all (by rw [List.length_map, HDl.out])]; exact HI.out, HDr.out⟩, hB2, hz2⟩
        case round =>
          clear HI HDr hB2 hz2
          obtain ⟨HV, hB2, hz2⟩ := hrel
          obtain ⟨wp, rfl⟩ : ∃ wp : World, wp = wr := ⟨_, rfl⟩
          obtain ⟨j, hj, rfl, ao, no, co, rfl, hno, ho, hD⟩ := HV.out
          clear HV
          by_cases hj0 : j = 0
          · subst hj0
            have e2 : outs [(45 : UInt8)] ((lsd m).map glyph) 0 = (fmt n).data.toList := by rw [outs_zero, HF.out, Hf.out]
            rw [e2] at ho
            have hno1 := ho.len
            have hsz : 0 < (fmt n).data.toList.length := by
              rw [← e2, outs_zero, List.length_append, List.length_reverse, List.length_map, HDl.out]; omega
            obtain ⟨g, rfl, _⟩ := ho.cons (j := 0) (by omega)
            have hconv := run_convert_bytes_back (P := Try.prog) wp 38 9 5 ⟨g, 0, none⟩ co (fmt n).data.toList Try.underlying38 Try.underlying5 Try.underlying9 (fun k hk => by
              obtain ⟨g', eg, b, hb, hcell⟩ := ho.cons (j := k) (by omega)
              have eg1 : g = g' := by simpa using eg
              subst eg1
              have ea : (⟨g, 0, none⟩ : Addr).add k = ⟨g, k, none⟩ := by unfold Addr.add; split <;> simp_all
              rw [ea, hcell]
              obtain ⟨_, hb2⟩ := List.getElem?_eq_some_iff.1 hb
              rw [hb2])
            rw [hno1] at hconv
            have e3 : (⟨(fmt n).data.toList.toArray⟩ : ByteArray) = fmt n := rfl
            rw [e3] at hconv
            clear hsz e2 ho hD hno1 e3
            go_wp2
            go_ret
            exact ⟨rfl, hB2⟩
          · obtain ⟨t, rfl⟩ : ∃ t, j = t + 1 := ⟨j - 1, by omega⟩
            have ej : ((t + 1 : Nat) : Int) - 1 = (t : Int) := by omega
            rw [ej]
            obtain ⟨g, rfl, b, hb, hcell⟩ := hD.cons (j := t) (by omega)
            have hst := outs_step (pre := [(45 : UInt8)]) hb
            have Hst := Lib.hid hst
            have q1 : (t : Int) < (l : Int) := by omega
            clear hst hb ej hj0
            go_wp2_with (first | (at_builtin; go_loud (refine wpList_pushU (b0 := b) (by rfl) (by rfl) (by rfl) _ _ (by rfl) ho (by rfl) (by rfl) (by omega) hz2 ?_)))
            intro a5 c5 w5 ho5 hg5
            rw [Hst.out] at ho5
            have hO5 := hg5.only (B := wo.heap.size) (S := wp.heap.size) ho.lo ho.2
            have hD5 := hD.only hO5 (.inl (Nat.le_refl _))
            have hB5 := hO5.below hB2 hbs (by omega)
            have hz5 := hO5.size
            have HO5 := Lib.hid ho5
            have HD5 := Lib.hid hD5
            clear ho ho5 hD hD5
            go_wp2
            go_roundw
            case rel => exact ⟨⟨t, by omega, by go_num, _, _, _, rfl, by omega, HO5.out, HD5.out⟩, hB5, by omega⟩
            case measure => simp [intOf]
      · have hf : (if n < 0 then [(45 : UInt8)] else []) = [] := if_neg hneg
        have Hf := Lib.hid hf; clear hf
        have hz2 := (show wo.heap.size ≤ (wo.alloc (.cells #[] 5)).heap.size by omega)
        have hD2 := HOD.out
        have HI := Lib.hid hM.out
        have HDr := Lib.hid hD2
        have hB2 := hB.trans (hA.mono hbs)
        clear hM HOD hD2
        go_wp2
        go_loopw [6, 7] (fun v i wr => Hid (∃ j : Nat, j ≤ l ∧ i = .int .i64 ((j : Int) - 1) ∧ ∃ ao no co, v = .slice ao no co ∧ no ≤ 1 + (l - j) ∧ BO wr wo.heap.size wr.heap.size ao no co (outs ([] : List UInt8) ((lsd m).map glyph) j) ∧ BO wr w.heap.size wo.heap.size a' l c' ((lsd m).map glyph)) ∧ Below w.heap.size w wr ∧ wo.heap.size ≤ wr.heap.size) (fun _ i _ => (intOf i + 1).toNat)
        case atStart => exact ⟨⟨l, Nat.le_refl _, rfl, _, _, _, rfl, by omega, by rw [outs_all (by rw [List.length_map, HDl.out])]; exact HI.out, HDr.out⟩, hB2, hz2⟩
        case round =>
          clear HI HDr hB2 hz2
          obtain ⟨HV, hB2, hz2⟩ := hrel
          obtain ⟨wp, rfl⟩ : ∃ wp : World, wp = wr := ⟨_, rfl⟩
          obtain ⟨j, hj, rfl, ao, no, co, rfl, hno, ho, hD⟩ := HV.out
          clear HV
          by_cases hj0 : j = 0
          · subst hj0
            have e2 : outs ([] : List UInt8) ((lsd m).map glyph) 0 = (fmt n).data.toList := by rw [outs_zero, HF.out, Hf.out]
            rw [e2] at ho
            have hno1 := ho.len
            have hsz : 0 < (fmt n).data.toList.length := by
              rw [← e2, outs_zero, List.length_append, List.length_reverse, List.length_map, HDl.out]; omega
            obtain ⟨g, rfl, _⟩ := ho.cons (j := 0) (by omega)
            have hconv := run_convert_bytes_back (P := Try.prog) wp 38 9 5 ⟨g, 0, none⟩ co (fmt n).data.toList Try.underlying38 Try.underlying5 Try.underlying9 (fun k hk => by
              obtain ⟨g', eg, b, hb, hcell⟩ := ho.cons (j := k) (by omega)
              have eg1 : g = g' := by simpa using eg
              subst eg1
              have ea : (⟨g, 0, none⟩ : Addr).add k = ⟨g, k, none⟩ := by unfold Addr.add; split <;> simp_all
              rw [ea, hcell]
              obtain ⟨_, hb2⟩ := List.getElem?_eq_some_iff.1 hb
              rw [hb2])
            rw [hno1] at hconv
            have e3 : (⟨(fmt n).data.toList.toArray⟩ : ByteArray) = fmt n := rfl
            rw [e3] at hconv
            clear hsz e2 ho hD hno1 e3
            go_wp2
            go_ret
            exact ⟨rfl, hB2⟩
          · obtain ⟨t, rfl⟩ : ∃ t, j = t + 1 := ⟨j - 1, by omega⟩
            have ej : ((t + 1 : Nat) : Int) - 1 = (t : Int) := by omega
            rw [ej]
            obtain ⟨g, rfl, b, hb, hcell⟩ := hD.cons (j := t) (by omega)
            have hst := outs_step (pre := ([] : List UInt8)) hb
            have Hst := Lib.hid hst
            have q1 : (t : Int) < (l : Int) := by omega
            clear hst hb ej hj0
            go_wp2_with (first | (at_builtin; go_loud (refine wpList_pushU (b0 := b) (by rfl) (by rfl) (by rfl) _ _ (by rfl) ho (by rfl) (by rfl) (by omega) hz2 ?_)))
            intro a5 c5 w5 ho5 hg5
            rw [Hst.out] at ho5
            have hO5 := hg5.only (B := wo.heap.size) (S := wp.heap.size) ho.lo ho.2
            have hD5 := hD.only hO5 (.inl (Nat.le_refl _))
            have hB5 := hO5.below hB2 hbs (by omega)
            have hz5 := hO5.size
            have HO5 := Lib.hid ho5
            have HD5 := Lib.hid hD5
            clear ho ho5 hD hD5
            go_wp2
            go_roundw
            case rel => exact ⟨⟨t, by omega, by go_num, _, _, _, rfl, by omega, HO5.out, HD5.out⟩, hB5, by omega⟩
            case measure => simp [intOf]
end Go.Proofs.Ytnjfbgdighaiiaa
