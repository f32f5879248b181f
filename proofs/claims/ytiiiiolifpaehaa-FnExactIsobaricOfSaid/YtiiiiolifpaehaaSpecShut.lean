/-
  Append of a term as a step of a region that draws its order; contract of l2Shut.
-/
import Derived.Test.YtiiiiolifpaehaaSpecOpen
import Derived.Test.YtiiiiolifpaehaaSpecOk
import Derived.Test.YtiiiiolifpaehaaClosed
namespace Go.Proofs.Ytiiiiolifpaehaa
open Go.RowKit

theorem step_pushT {w W : World} {b : Option Addr} {m d : Nat} {y : Int} (hW : W = w.alloc (.cells #[.slice b m d, .int .i64 y] 121)) {ops : Array Oper} {o : Oper} {ac : Act} {K : Act → World → Prop} {Q : Exit → Act → World → Prop} (hwant : Region.wanted o (yielded ops ac.tmps) = true) (s x : Operand)
    (ho : o.op = .call { callee := .builtin .append, args := #[s, x], argTypes := #[61, 61] })
    {B S : Nat} {a : Option Addr} {n c : Nat} {xs : List (List Int × Int)} (hown : TO w B S a n c xs) (hs : ac.eval s = .slice a n c)
    {ys : List Int} {S' : Nat} (hr : OwI w S S' b m d ys) (hBS : B ≤ S) (hx : ac.eval x = .slice (some ⟨w.heap.size, 0, none⟩) 1 1) (hn : n + 1 ≤ 1048576) (hbase : B ≤ w.heap.size) (hS : S ≤ w.heap.size) (hS' : S' ≤ w.heap.size)
    (h : ∀ a' c' w', TO w' B w'.heap.size a' (n + 1) c' (xs ++ [(ys, y)]) → w.grownBy w' (Value.slice a n c).ownBlock → K (ac.put o.dst (.slice a' (n + 1) c')) w') :
    if Region.wanted o (yielded ops ac.tmps) = true then Oper.wp Try.prog o ac W K Q else K (ac.put o.dst undef) W := by
  rw [if_pos hwant]
  subst hW
  obtain ⟨i0, hi, hz0, hz1, hz2⟩ := info_parts Try.info121
  obtain ⟨vs, h1, h2, h3⟩ := hown
  have hlen := hr.len
  have hvl := h3.len
  have h10 := h1.1
  have h1a := h1.alloc (.cells #[.slice b m d, .int .i64 y] 121)
  obtain ⟨v', w', hrun, h4, h5, _⟩ := run_append_own (P := Try.prog) (w.alloc (.cells #[.slice b m d, .int .i64 y] 121)) B 61 o.type 121 i0 (.agg #[.slice none 0 0, .int .i64 0]) 2 32 Try.underlying61 hi hz0 hz1 hz2 rfl (by decide) (.slice a n c) n vs h1a ⟨w.heap.size, 0, none⟩ 1 1 [.slice b m d, .int .i64 y] rfl
    (by
      intro j u hj
      match j, hj with
      | 0, hj => simp at hj; subst hj; simp [Addr.add]
      | 1, hj => simp at hj; subst hj; simp [Addr.add])
    (by
      intro u hu
      simp at hu
      rcases hu with rfl | rfl <;> rfl) (by unfold maxLen; omega) (by omega) (by simp; omega)
  obtain ⟨a', c', rfl⟩ := slice_ofT h4
  unfold Oper.wp execOp
  simp only [ho, resolve, invoke, builtin, Sem.run_bind, Sem.run_pure, Result.andThen_ok, List.map_toArray, List.map_cons, List.map_nil, hs, hx, hrun]
  have hg := grownBy.trans (World.grownBy_alloc w (.cells #[.slice b m d, .int .i64 y] 121) (Value.slice a n c).ownBlock) h5
  have hsz := hg.size
  have keep : ∀ {B0 S0 : Nat} {a0 : Option Addr} {l0 c0 : Nat} {zs : List Int}, OwI w B0 S0 a0 l0 c0 zs → OwI w' B0 S0 a0 l0 c0 zs := fun hio => ⟨hio.1.kept hg (fun k hk e => ne_blockT h1 hio k e hk), hio.2⟩
  have hold : ∀ i v, vs[i * 2]? = some v → ∀ g, v.ownBlock = some g → g < S := by
    intro i v hv g hvg
    have hi := lt_of_some hv
    obtain ⟨p, hp⟩ := some_of (show i < xs.length by omega)
    obtain ⟨a2, c2, e1, _, e3⟩ := h3.each i p hp
    rw [hv] at e1
    obtain rfl := Option.some.inj e1
    exact e3.2 g hvg
  have hnew : ∀ g, (Value.slice b m d).ownBlock = some g → S ≤ g := fun g hg => hr.1.lo g hg
  refine h a' c' w' ⟨vs ++ [.slice b m d, .int .i64 y], h4, fun k hk => (h4.lt k hk).2, by simp; omega, fun k p hp => ?_, ?_⟩ hg
  · rcases Nat.lt_or_ge k xs.length with hk | hk
    · rw [List.getElem?_append_left hk] at hp
      obtain ⟨a2, c2, e1, e2, e3⟩ := h3.each k p hp
      exact ⟨a2, c2, by rw [List.getElem?_append_left (by omega)]; exact e1, by rw [List.getElem?_append_left (by omega)]; exact e2, (keep e3).mono (Nat.le_refl _) (by omega)⟩
    · rw [List.getElem?_append_right hk] at hp
      have hk0 : k - xs.length = 0 := by have := lt_of_some hp; simp at this; omega
      rw [hk0] at hp
      obtain rfl : (ys, y) = p := by simpa using hp
      have hkx : k = xs.length := by omega
      refine ⟨b, d, ?_, ?_, ?_⟩
      · rw [List.getElem?_append_right (by omega), show k * 2 - vs.length = 0 by omega, hlen]; rfl
      · rw [List.getElem?_append_right (by omega), show k * 2 + 1 - vs.length = 1 by omega]; rfl
      · show OwI w' B w'.heap.size b ys.length d ys
        rw [hlen]
        exact (keep hr).mono hBS (by omega)
  · intro i j u v g hu hv hug hvg
    have split : ∀ i u, (vs ++ [Value.slice b m d, .int .i64 y])[i * 2]? = some u → (i * 2 < vs.length ∧ vs[i * 2]? = some u) ∨ (i * 2 = vs.length ∧ u = .slice b m d) := by
      intro i u hu
      rcases Nat.lt_or_ge (i * 2) vs.length with hi | hi
      · rw [List.getElem?_append_left hi] at hu
        exact .inl ⟨hi, hu⟩
      · rw [List.getElem?_append_right hi] at hu
        have hlt := lt_of_some hu
        simp at hlt
        have e0 : i * 2 - vs.length = 0 := by omega
        rw [e0] at hu
        simp at hu
        exact .inr ⟨by omega, hu.symm⟩
    rcases split i u hu with ⟨_, hu⟩ | ⟨e1, rfl⟩ <;> rcases split j v hv with ⟨_, hv⟩ | ⟨e2, rfl⟩
    · exact h3.apart i j u v g hu hv hug hvg
    · have := hold i u hu g hug
      have := hnew g hvg
      omega
    · have := hold j v hv g hvg
      have := hnew g hug
      omega
    · omega

theorem term_take {l : Mons} {k : Nat} {p : Int × Int} (h : l[k]? = some p) : (l.take k).map term ++ [(digs p.1, p.2)] = (l.take (k + 1)).map term := by
  rw [take_at h, List.map_append]
  rfl
set_option maxRecDepth 100000 in
set_option maxHeartbeats 6400000 in
theorem l2Shut_any (a : Option Addr) (n c : Nat) (F : Mons) (w : World) (hr : RM w a (canon F)) (hn : (canon F).length = n) (hk : ∀ p ∈ canon F, inK p.1) :
    Calls Try.prog 142 #[.slice a n c] w fun e w' => ∃ a' n' c' r, e = .returned (.tuple #[.slice a' n' c', .bool r]) ∧ TO w' w.heap.size w'.heap.size a' n' c' (closedT F) ∧ Hid (r = polyOk (termsM F)) ∧ Below w.heap.size w w' := by
  have Hll := Lib.hid (show (termsM F).length = n by unfold termsM; rw [List.length_map, hn])
  have Hn := Lib.hid hn; clear hn
  have Hk := Lib.hid hk; clear hk
  by_cases h600 : n ≤ 600
  case neg =>
    have H0 := Lib.hid (polyOk_long (xs := termsM F) (by rw [Hll.out]; exact h600))
    have q1 : (600 : Int) < (n : Int) := by omega
    go_enter Try.func142, Try.ntmps142
    go_wp2
    go_ret2
    exact ⟨_, _, _, _, rfl, by rw [closedT_no H0.out]; exact TO.nil, by rw [H0.out]; rfl, Below.refl _ _⟩
  have q1 : ¬ (600 : Int) < (n : Int) := by omega
  have hB0 : Below w.heap.size w (w.alloc (.cells #[] 121)) := (Below.refl _ _).alloc (Nat.le_refl _) _
  have hm0 : TO (w.alloc (.cells #[] 121)) w.heap.size (w.alloc (.cells #[] 121)).heap.size (some ⟨w.heap.size, 0, none⟩) 0 0 [] := TO.made w
  go_enter Try.func142, Try.ntmps142
  go_wp2
  go_loopw [4, 5] (fun ov kv wr => Hid (∃ (k : Nat) (a' : Option Addr) (c' : Nat), kv = .int .i64 k ∧ k ≤ n ∧ ov = .slice a' k c' ∧ TO wr w.heap.size wr.heap.size a' k c' (((canon F).take k).map term)) ∧ Below w.heap.size w wr) (fun _ kv _ => n - (intOf kv).toNat)
  case atStart => exact ⟨⟨0, _, _, rfl, by omega, rfl, hm0⟩, hB0⟩
  case round =>
    clear hm0 hB0
    obtain ⟨HV, hB⟩ := hrel
    obtain ⟨wo, rfl⟩ : ∃ wo : World, wo = wr := ⟨_, rfl⟩
    obtain ⟨k, a1, c1, rfl, hk, rfl, ho⟩ := HV.out
    clear HV
    have hbs := hB.size
    by_cases hlt : k < n
    · have HO1 := Lib.hid (ho.below (Drew.below (Drew.drewN wo 1) _))
      obtain ⟨b, off, rfl, hcell⟩ := hr.at (k := k) (by rw [Hn.out]; exact hlt)
      obtain ⟨K, y, hx⟩ := pairM_at Hn.out hlt
      obtain ⟨p1, p2⟩ := hcell k _ hx
      simp only at p1 p2
      have HKk := Lib.hid (Hk.out _ (List.mem_of_getElem? hx))
      have Hst := Lib.hid (term_take hx)
      have hbz : b < w.heap.size := World.block_lt_of_cell? _ _ p1
      have S_of : ∀ w2, Below w.heap.size w w2 → w2.cell? ⟨b, off + k * 2, none⟩ = some (.int .i64 K) ∧ w2.cell? ⟨b, off + k * 2 + 1, none⟩ = some (.int .i64 y) := by
        intro w2 hb2
        exact ⟨by rw [hb2.cell (p := ⟨b, off + k * 2, none⟩) hbz]; exact p1, by rw [hb2.cell (p := ⟨b, off + k * 2 + 1, none⟩) hbz]; exact p2⟩
      have q1 : (k : Int) < (n : Int) := by omega
      have d1 : Below w.heap.size w wo.drew := hB.trans (Drew.below ⟨1, rfl⟩ _)
      have hds : wo.heap.size = wo.drew.heap.size := rfl
      clear p1 p2 ho hcell hx
      go_wp2
      go_region_held3 (fun w' => w'.cell? ⟨b, off + k * 2, none⟩ = some (.int .i64 K) ∧ w'.cell? ⟨b, off + k * 2 + 1, none⟩ = some (.int .i64 y)) ((first | exact S_of _ hB | exact S_of _ d1 | exact S_of _ hB2 | exact S_of _ (Below.alloc hB2 (Below.size hB2) _) | exact S_of _ ‹_›))
        ((first | (go_at_call 208; refine (l2Exp_any K _ HKk.out).mono ?_; rintro e w1 ⟨a2, c2, rfl, ho2, hb2⟩; have hB2 := d1.trans (hb2.mono (Below.size d1)); have HO2 := Lib.hid (TO.below HO1.out hb2); have Ho2 := Lib.hid ho2; have hs2 := hb2.size; clear ho2 hb2) | (refine step_pushT (by rfl) (by rfl) _ _ (by rfl) HO2.out (by rfl) Ho2.out hbs (by rfl) (by omega) (Below.size hB2) hs2 (Nat.le_refl _) ?_; intro a3 c3 w3 ho3 hg3; have hB3 := below_grown (v := .slice a1 k c1) hB2 hg3 (Below.size hB2) HO2.out.lo)))
      rw [Hst.out] at ho3
      have HO3 := Lib.hid ho3
      clear ho3 HO1 HO2 Ho2 hg3 S_of d1 hB2
      go_wp2
      go_roundw
      case rel => exact ⟨⟨k + 1, _, _, by go_num, by omega, rfl, HO3.out⟩, hB3⟩
      case measure => simp [intOf]; omega
    · obtain rfl : k = n := by omega
      rw [List.take_of_length_le (by rw [Hn.out]; exact Nat.le_refl _)] at ho
      change TO _ _ _ _ _ _ (termsM F) at ho
      have Ho3 := Lib.hid ho
      have hmb : k ≤ 1048576 := by omega
      have t1 : ¬ (k : Int) < (k : Int) := by omega
      clear ho
      cases hok : polyOk (termsM F)
      · have Hok := Lib.hid hok
        clear hok
        go_wp2_with fail
        refine (is (specPolyOk_any _ _ _ (termsM F) _ Ho3.out.rd Ho3.out.len hmb) Hok.out).mono ?_
        rintro e w3 ⟨rfl, hb3⟩
        have hB3 := hB.trans (hb3.mono hB.size)
        go_wp2
        go_ret2
        exact ⟨_, _, _, _, rfl, by rw [closedT_no Hok.out]; exact TO.nil, Hok.out.symm, hB3⟩
      · have Hok := Lib.hid hok
        clear hok
        go_wp2_with fail
        refine (is (specPolyOk_any _ _ _ (termsM F) _ Ho3.out.rd Ho3.out.len hmb) Hok.out).mono ?_
        rintro e w3 ⟨rfl, hb3⟩
        have hB3 := hB.trans (hb3.mono hB.size)
        have ho4 := (Ho3.out.below hb3).mono (B' := w.heap.size) (S' := w3.heap.size) (Nat.le_refl _) hb3.size
        have Ho4 := Lib.hid ho4
        clear ho4 Ho3
        go_wp2
        go_ret2
        exact ⟨_, _, _, _, rfl, by rw [closedT_ok Hok.out]; exact Ho4.out, Hok.out.symm, hB3⟩
end Go.Proofs.Ytiiiiolifpaehaa
