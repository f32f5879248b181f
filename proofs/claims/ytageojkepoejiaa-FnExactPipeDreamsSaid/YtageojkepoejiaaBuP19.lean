/-
  append of a row of int slices to another, as a step of a region that draws its order.
  Contracts of l1Same and slices.Equal: two lists of integers compared.
  Contract of l1Insert of the reference.
  Contract of l3Put of the reference, helpers.
-/
import Derived.Test.YtageojkepoejiaaBuP18
import Derived.Test.YtageojkepoejiaaBuP1
import Derived.Deep.RegionHeld3
namespace Go.Proofs.Ytageojkepoejiaa
open Go.RowKit

theorem step_appV {w : World} {ops : Array Oper} {o : Oper} {ac : Act} {K : Act → World → Prop} {Q : Exit → Act → World → Prop} (hwant : Region.wanted o (yielded ops ac.tmps) = true) (s x : Operand)
    (ho : o.op = .call { callee := .builtin .append, args := #[s, x], argTypes := #[23, 23] })
    {B : Nat} {a : Option Addr} {n c : Nat} {vs : List Value} (hown : w.ownsRow B 22 1 (.slice a n c) n vs) (hs : ac.eval s = .slice a n c)
    {b : Option Addr} {m d : Nat} (us : List Value) (hx : ac.eval x = .slice b m d) (hl : us.length = m) (hna : b = none → m = 0)
    (hnews : ∀ ad, b = some ad → ∀ j u, us[j]? = some u → w.cell? (ad.add j) = some u) (h1 : ∀ u ∈ us, u.oneCell' = true) {N : Nat} (hN : n + m = N) (hn : N ≤ 16777216) (hbase : B ≤ w.heap.size)
    (h : ∀ a' c' w', w'.ownsRow B 22 1 (.slice a' N c') N (vs ++ us) → Grows w w' (.slice a n c) (.slice a' N c') → K (ac.put o.dst (.slice a' N c')) w') :
    if Region.wanted o (yielded ops ac.tmps) = true then Oper.wp Try.prog o ac w K Q else K (ac.put o.dst undef) w := by
  subst hN
  rw [if_pos hwant]
  obtain ⟨i0, hi, hz0, hz1, hz2⟩ := info_parts Try.info22
  obtain ⟨v', w', hr, h2, h3⟩ := run_app (P := Try.prog) w B 23 o.type 22 i0 (.slice none 0 0) 24 Try.underlying23 hi hz0 hz1 hz2 rfl (.slice a n c) n vs hown b m d us hl hna hnews h1 hn (by omega) hbase
  obtain ⟨a', c', rfl, _⟩ := slice_of h2
  unfold Oper.wp execOp
  simp only [ho, resolve, invoke, builtin, Sem.run_bind, Sem.run_pure, Result.andThen_ok, List.map_toArray, List.map_cons, List.map_nil, hs, hx, hr]
  exact h a' c' w' h2 h3
end Go.Proofs.Ytageojkepoejiaa

namespace Go.Proofs.Ytageojkepoejiaa
open Go.RowKit

set_option maxHeartbeats 400000 in
theorem l1Same_any (a b : Option Addr) (n c m d : Nat) (xs ys : List Int) (w : World) (hr : RI w a xs) (hs : RI w b ys) (hn : xs.length = n) (hm : ys.length = m) (hb : n ≤ 17592186044416) :
    Calls Try.prog 84 #[.slice a n c, .slice b m d] w fun e w' => e = .returned (.bool (decide (xs = ys))) ∧ Drew w w' := by
  have Hn := Lib.hid hn; clear hn
  have Hm := Lib.hid hm; clear hm
  by_cases hnm : n = m
  · subst hnm
    go_enter Try.func84, Try.ntmps84
    go_wp2
    go_loopw [5] (fun i wr => ∃ k : Nat, k ≤ n ∧ i = .int .i64 k ∧ Hid (∀ j, j < k → xs[j]? = ys[j]?) ∧ Drew w wr) (fun i _ => n - (intOf i).toNat)
    case atStart => exact ⟨0, Nat.zero_le _, rfl, by intro j hj; omega, Drew.refl _⟩
    case round =>
      obtain ⟨k, hk, rfl, HA, hd⟩ := hrel
      by_cases hlt : k < n
      · obtain ⟨b, off, rfl, hcell⟩ := (hr.drew hd).at (k := k) (by rw [Hn.out]; exact hlt)
        obtain ⟨b2, off2, rfl, hcell2⟩ := (hs.drew hd).at (k := k) (by rw [Hm.out]; exact hlt)
        obtain ⟨x, hx⟩ : ∃ x, xs[k]? = some x := ⟨xs[k]'(by rw [Hn.out]; exact hlt), by simp⟩
        obtain ⟨y, hy⟩ : ∃ y, ys[k]? = some y := ⟨ys[k]'(by rw [Hm.out]; exact hlt), by simp⟩
        have hc := hcell k x hx
        have hc2 := hcell2 k y hy
        have Hx := Lib.hid hx; clear hx
        have Hy := Lib.hid hy; clear hy
        clear hcell hcell2
        have hltI : (k : Int) < (n : Int) := by omega
        by_cases h1 : x = y
        · subst h1
          go_wp2
          go_quiet (fail)
          go_wp2
          go_roundw
          case rel => exact ⟨k + 1, by omega, by go_num, by
                intro j hj
                rcases Nat.lt_or_ge j k with h | h
                · exact HA.out j h
                · obtain rfl : j = k := by omega
                  rw [Hx.out, Hy.out], hd.trans (Drew.drewN _ _)⟩
          case measure => simp [intOf]; omega
        · have hne : (x != y) = true := by simpa using h1
          have H1 := Lib.hid h1; clear h1
          go_wp2
          go_quiet (fail)
          go_wp2
          go_ret
          exact ⟨ret_bool (ne_of_at Hx.out Hy.out H1.out).symm, hd.trans (Drew.drewN _ _)⟩
      · go_wp2
        go_ret
        exact ⟨ret_bool (eq_of_all (Hn.out.trans Hm.out.symm) (by intro j hj; exact HA.out j (by rw [Hn.out] at hj; omega))).symm, hd⟩
  · go_enter Try.func84, Try.ntmps84
    have hne : ((n : Int) != (m : Int)) = true := by rw [bne_iff_ne]; omega
    go_wp2
    go_ret
    exact ⟨ret_bool (by symm; rw [decide_eq_false_iff_not]; rintro rfl; exact hnm (Hn.out.symm.trans Hm.out)), Drew.refl _⟩

set_option maxHeartbeats 400000 in
theorem slEqual_any (a b : Option Addr) (n c m d : Nat) (xs ys : List Int) (w : World) (hr : RI w a xs) (hs : RI w b ys) (hn : xs.length = n) (hm : ys.length = m) (hb : n ≤ 17592186044416) :
    Calls Try.prog 106 #[.slice a n c, .slice b m d] w fun e w' => e = .returned (.bool (decide (xs = ys))) ∧ Drew w w' := by
  have Hn := Lib.hid hn; clear hn
  have Hm := Lib.hid hm; clear hm
  by_cases hnm : n = m
  · subst hnm
    go_enter Try.func106, Try.ntmps106
    go_wp2
    go_loopw [13] (fun i wr => ∃ k : Nat, k ≤ n ∧ i = .int .i64 k ∧ Hid (∀ j, j < k → xs[j]? = ys[j]?) ∧ Drew w wr) (fun i _ => n - (intOf i).toNat)
    case atStart => exact ⟨0, Nat.zero_le _, rfl, by intro j hj; omega, Drew.refl _⟩
    case round =>
      obtain ⟨k, hk, rfl, HA, hd⟩ := hrel
      by_cases hlt : k < n
      · obtain ⟨b, off, rfl, hcell⟩ := (hr.drew hd).at (k := k) (by rw [Hn.out]; exact hlt)
        obtain ⟨b2, off2, rfl, hcell2⟩ := (hs.drew hd).at (k := k) (by rw [Hm.out]; exact hlt)
        obtain ⟨x, hx⟩ : ∃ x, xs[k]? = some x := ⟨xs[k]'(by rw [Hn.out]; exact hlt), by simp⟩
        obtain ⟨y, hy⟩ : ∃ y, ys[k]? = some y := ⟨ys[k]'(by rw [Hm.out]; exact hlt), by simp⟩
        have hc := hcell k x hx
        have hc2 := hcell2 k y hy
        have Hx := Lib.hid hx; clear hx
        have Hy := Lib.hid hy; clear hy
        clear hcell hcell2
        have hltI : (k : Int) < (n : Int) := by omega
        by_cases h1 : x = y
        · subst h1
          go_wp2
          go_quiet (fail)
          go_wp2
          go_roundw
          case rel => exact ⟨k + 1, by omega, by go_num, by
                intro j hj
                rcases Nat.lt_or_ge j k with h | h
                · exact HA.out j h
                · obtain rfl : j = k := by omega
                  rw [Hx.out, Hy.out], hd.trans (Drew.drewN _ _)⟩
          case measure => simp [intOf]; omega
        · have hne : (x != y) = true := by simpa using h1
          have H1 := Lib.hid h1; clear h1
          go_wp2
          go_quiet (fail)
          go_wp2
          go_ret
          exact ⟨ret_bool (ne_of_at Hx.out Hy.out H1.out).symm, hd.trans (Drew.drewN _ _)⟩
      · go_wp2
        go_ret
        exact ⟨ret_bool (eq_of_all (Hn.out.trans Hm.out.symm) (by intro j hj; exact HA.out j (by rw [Hn.out] at hj; omega))).symm, hd⟩
  · go_enter Try.func106, Try.ntmps106
    have hne : ((n : Int) != (m : Int)) = true := by rw [bne_iff_ne]; omega
    go_wp2
    go_ret
    exact ⟨ret_bool (by symm; rw [decide_eq_false_iff_not]; rintro rfl; exact hnm (Hn.out.symm.trans Hm.out)), Drew.refl _⟩
end Go.Proofs.Ytageojkepoejiaa

namespace Go.Proofs.Ytageojkepoejiaa
open Go.RowKit

theorem addr_add (g o j : Nat) : (⟨g, o, none⟩ : Addr).add j = ⟨g, o + j, none⟩ := by unfold Addr.add; split <;> simp_all
theorem news_made (W : World) (v : Value) (_hv : v.oneCell' = true) : ∀ ad, (some ⟨W.heap.size, 0, none⟩ : Option Addr) = some ad → ∀ j u, [v][j]? = some u → (W.alloc (.cells #[v] 22)).cell? (ad.add j) = some u := by
  intro ad had j u hu
  obtain rfl := Option.some.inj had
  match j, hu with
  | 0, hu => simp at hu; subst hu; simp [Addr.add]
theorem news_kept {W W' : World} {g : Nat} {us : List Value} {row : Option Nat} (h : ∀ ad, (some ⟨g, 0, none⟩ : Option Addr) = some ad → ∀ j u, us[j]? = some u → W.cell? (ad.add j) = some u) (hg : W.grownBy W' row) (hne : row ≠ some g) :
    ∀ ad, (some ⟨g, 0, none⟩ : Option Addr) = some ad → ∀ j u, us[j]? = some u → W'.cell? (ad.add j) = some u := by
  intro ad had j u hu
  have h1 := h ad had j u hu
  obtain rfl := Option.some.inj had
  have hb : ((⟨g, 0, none⟩ : Addr).add j).block = g := by unfold Addr.add; split <;> rfl
  exact hg.cell h1 (by rw [hb]; exact fun e => hne e.symm)
theorem made_row {w W : World} (hB : Below w.heap.size w W) : (W.alloc (.cells #[] 22)).ownsRow w.heap.size 22 1 (.slice (some ⟨W.heap.size, 0, none⟩) 0 0) 0 [] :=
  ownsRow_base (World.ownsRow_made W #[] 0 (Nat.le_refl _) (Nat.zero_le _) rfl) hB.size
theorem news_take {w W : World} {B g n c k : Nat} {vs : List Value} (h : w.ownsRow B 22 1 (.slice (some ⟨g, 0, none⟩) n c) n vs) (hB : Below w.heap.size w W) :
    ∀ ad, (some ⟨g, 0, none⟩ : Option Addr) = some ad → ∀ j u, (vs.take k)[j]? = some u → W.cell? (ad.add j) = some u := by
  intro ad had j u hu
  obtain rfl := Option.some.inj had
  rcases ownsRow_shape h with ⟨_, h0, _⟩ | ⟨g', e, _, _, hc, _⟩
  · cases h0
  · have hj : j < k := by have := lt_of_some hu; rw [List.length_take] at this; omega
    rw [List.getElem?_take_of_lt hj] at hu
    have h1 := hc j u hu
    simp only [Option.some.injEq, Addr.mk.injEq] at e
    obtain ⟨rfl, _⟩ := e
    rw [← hB.cell (World.block_lt_of_cell? w _ h1)] at h1
    rw [addr_add]
    simpa using h1
theorem news_drop {w W : World} {B g n c k : Nat} {vs : List Value} (h : w.ownsRow B 22 1 (.slice (some ⟨g, 0, none⟩) n c) n vs) (hB : Below w.heap.size w W) :
    ∀ ad, (some ⟨g, k, none⟩ : Option Addr) = some ad → ∀ j u, (vs.drop k)[j]? = some u → W.cell? (ad.add j) = some u := by
  intro ad had j u hu
  obtain rfl := Option.some.inj had
  rcases ownsRow_shape h with ⟨_, h0, _⟩ | ⟨g', e, _, _, hc, _⟩
  · cases h0
  · rw [List.getElem?_drop] at hu
    have h1 := hc (k + j) u hu
    simp only [Option.some.injEq, Addr.mk.injEq] at e
    obtain ⟨rfl, _⟩ := e
    rw [← hB.cell (World.block_lt_of_cell? w _ h1)] at h1
    rw [addr_add]
    simpa using h1
theorem InnerS.one {w : World} {B S : Nat} {vs : List Value} {xss : List (List Int)} (h : InnerS w B S vs xss) : ∀ u ∈ vs, u.oneCell' = true := by
  intro u hu
  obtain ⟨k, hk⟩ := List.getElem?_of_mem hu
  obtain ⟨xs, hx⟩ := some_of (show k < xss.length by rw [← h.len]; exact lt_of_some hk)
  obtain ⟨a, c, e, _⟩ := h.each k xs hx
  rw [hk] at e
  obtain rfl := Option.some.inj e
  rfl
theorem InnerS.append {w : World} {B S : Nat} {vs us : List Value} {xss yss : List (List Int)} (h : InnerS w B S vs xss) (k : InnerS w B S us yss) : InnerS w B S (vs ++ us) (xss ++ yss) := by
  refine ⟨by simp [h.len, k.len], fun j xs hx => ?_⟩
  rcases Nat.lt_or_ge j xss.length with hj | hj
  · rw [List.getElem?_append_left hj] at hx
    rw [List.getElem?_append_left (by rw [h.len]; exact hj)]
    exact h.each j xs hx
  · rw [List.getElem?_append_right hj] at hx
    rw [List.getElem?_append_right (by rw [h.len]; exact hj), h.len]
    exact k.each _ xs hx
theorem InnerS.take {w : World} {B S : Nat} {vs : List Value} {xss : List (List Int)} (h : InnerS w B S vs xss) (k : Nat) : InnerS w B S (vs.take k) (xss.take k) := by
  refine ⟨by simp [h.len], fun j xs hx => ?_⟩
  have hj : j < k := by have := lt_of_some hx; rw [List.length_take] at this; omega
  rw [List.getElem?_take_of_lt hj] at hx ⊢
  exact h.each j xs hx
theorem InnerS.drop {w : World} {B S : Nat} {vs : List Value} {xss : List (List Int)} (h : InnerS w B S vs xss) (k : Nat) : InnerS w B S (vs.drop k) (xss.drop k) := by
  refine ⟨by simp [h.len], fun j xs hx => ?_⟩
  rw [List.getElem?_drop] at hx ⊢
  exact h.each _ xs hx
theorem InnerS.single {w : World} {B S : Nat} {a : Option Addr} {n c : Nat} {xs : List Int} (h : OwI w B S a n c xs) : InnerS w B S [.slice a n c] [xs] := by
  refine ⟨rfl, fun j ys hy => ?_⟩
  match j, hy with
  | 0, hy =>
    simp at hy
    subst hy
    have hl := h.len
    subst hl
    exact ⟨a, c, rfl, h⟩
theorem InnerS.below {w w' : World} {B S S' : Nat} {vs : List Value} {xss : List (List Int)} (h : InnerS w B S vs xss) (hB : Below w.heap.size w w') (hS : S ≤ S') : InnerS w' B S' vs xss :=
  ⟨h.len, fun k xs hx => by obtain ⟨a, c, h1, h2⟩ := h.each k xs hx; exact ⟨a, c, h1, (h2.below hB).mono (Nat.le_refl _) hS⟩⟩
theorem iis_ins {w w' : World} {B S : Nat} {vs : List Value} {xss : List (List Int)} {ys : List Int} {k n' m cx c' : Nat} {ax a' : Option Addr} (h3 : InnerS w B S vs xss) (hx : OwI w B S ax m cx ys) (hB : Below w.heap.size w w') (hBw : B ≤ w.heap.size) (hS : S ≤ w.heap.size)
    (ho : w'.ownsRow w.heap.size 22 1 (.slice a' n' c') n' (vs.take k ++ [.slice ax m cx] ++ vs.drop k)) : IIS w' B w'.heap.size a' n' c' (xss.take k ++ [ys] ++ xss.drop k) := by
  refine ⟨_, ownsRow_base ho hBw, fun j hj => (ho.lt j hj).2, ?_⟩
  exact (((h3.take k).append (InnerS.single hx)).append (h3.drop k)).below hB (Nat.le_trans hS hB.size)
end Go.Proofs.Ytageojkepoejiaa

namespace Go.Proofs.Ytageojkepoejiaa
open Go.RowKit

theorem newsC_made (W : World) (v : Value) (_hv : v.oneCell' = true) : ∀ ad, (some ⟨W.heap.size, 0, none⟩ : Option Addr) = some ad → ∀ j u, [v][j]? = some u → (W.alloc (.cells #[v] 36)).cell? (ad.add j) = some u := by
  intro ad had j u hu
  obtain rfl := Option.some.inj had
  match j, hu with
  | 0, hu => simp at hu; subst hu; simp [Addr.add]
theorem madeC_row {w W : World} (hB : Below w.heap.size w W) : (W.alloc (.cells #[] 36)).ownsRow w.heap.size 36 1 (.slice (some ⟨W.heap.size, 0, none⟩) 0 0) 0 [] :=
  ownsRow_base (World.ownsRow_made W #[] 0 (Nat.le_refl _) (Nat.zero_le _) rfl) hB.size
theorem newsC_take {w W : World} {B g n c k : Nat} {vs : List Value} (h : w.ownsRow B 36 1 (.slice (some ⟨g, 0, none⟩) n c) n vs) (hB : Below w.heap.size w W) :
    ∀ ad, (some ⟨g, 0, none⟩ : Option Addr) = some ad → ∀ j u, (vs.take k)[j]? = some u → W.cell? (ad.add j) = some u := by
  intro ad had j u hu
  obtain rfl := Option.some.inj had
  rcases ownsRow_shape h with ⟨_, h0, _⟩ | ⟨g', e, _, _, hc, _⟩
  · cases h0
  · have hj : j < k := by have := lt_of_some hu; rw [List.length_take] at this; omega
    rw [List.getElem?_take_of_lt hj] at hu
    have h1 := hc j u hu
    simp only [Option.some.injEq, Addr.mk.injEq] at e
    obtain ⟨rfl, _⟩ := e
    rw [← hB.cell (World.block_lt_of_cell? w _ h1)] at h1
    rw [addr_add]
    simpa using h1
theorem newsC_drop {w W : World} {B g n c k : Nat} {vs : List Value} (h : w.ownsRow B 36 1 (.slice (some ⟨g, 0, none⟩) n c) n vs) (hB : Below w.heap.size w W) :
    ∀ ad, (some ⟨g, k, none⟩ : Option Addr) = some ad → ∀ j u, (vs.drop k)[j]? = some u → W.cell? (ad.add j) = some u := by
  intro ad had j u hu
  obtain rfl := Option.some.inj had
  rcases ownsRow_shape h with ⟨_, h0, _⟩ | ⟨g', e, _, _, hc, _⟩
  · cases h0
  · rw [List.getElem?_drop] at hu
    have h1 := hc (k + j) u hu
    simp only [Option.some.injEq, Addr.mk.injEq] at e
    obtain ⟨rfl, _⟩ := e
    rw [← hB.cell (World.block_lt_of_cell? w _ h1)] at h1
    rw [addr_add]
    simpa using h1
theorem InnerCS.one {w : World} {B S : Nat} {vs : List Value} {xss : List (List (Int × Int))} (h : InnerCS w B S vs xss) : ∀ u ∈ vs, u.oneCell' = true := by
  intro u hu
  obtain ⟨k, hk⟩ := List.getElem?_of_mem hu
  obtain ⟨xs, hx⟩ := some_of (show k < xss.length by rw [← h.len]; exact lt_of_some hk)
  obtain ⟨a, c, e, _⟩ := h.each k xs hx
  rw [hk] at e
  obtain rfl := Option.some.inj e
  rfl
theorem InnerCS.append {w : World} {B S : Nat} {vs us : List Value} {xss yss : List (List (Int × Int))} (h : InnerCS w B S vs xss) (k : InnerCS w B S us yss) : InnerCS w B S (vs ++ us) (xss ++ yss) := by
  refine ⟨by simp [h.len, k.len], fun j xs hx => ?_⟩
  rcases Nat.lt_or_ge j xss.length with hj | hj
  · rw [List.getElem?_append_left hj] at hx
    rw [List.getElem?_append_left (by rw [h.len]; exact hj)]
    exact h.each j xs hx
  · rw [List.getElem?_append_right hj] at hx
    rw [List.getElem?_append_right (by rw [h.len]; exact hj), h.len]
    exact k.each _ xs hx
theorem InnerCS.take {w : World} {B S : Nat} {vs : List Value} {xss : List (List (Int × Int))} (h : InnerCS w B S vs xss) (k : Nat) : InnerCS w B S (vs.take k) (xss.take k) := by
  refine ⟨by simp [h.len], fun j xs hx => ?_⟩
  have hj : j < k := by have := lt_of_some hx; rw [List.length_take] at this; omega
  rw [List.getElem?_take_of_lt hj] at hx ⊢
  exact h.each j xs hx
theorem InnerCS.drop {w : World} {B S : Nat} {vs : List Value} {xss : List (List (Int × Int))} (h : InnerCS w B S vs xss) (k : Nat) : InnerCS w B S (vs.drop k) (xss.drop k) := by
  refine ⟨by simp [h.len], fun j xs hx => ?_⟩
  rw [List.getElem?_drop] at hx ⊢
  exact h.each _ xs hx
theorem InnerCS.single {w : World} {B S : Nat} {a : Option Addr} {n c : Nat} {xs : List (Int × Int)} (h : CO w B S a n c xs) : InnerCS w B S [.slice a n c] [xs] := by
  refine ⟨rfl, fun j ys hy => ?_⟩
  match j, hy with
  | 0, hy =>
    simp at hy
    subst hy
    have hl := h.len
    subst hl
    exact ⟨a, c, rfl, h⟩
theorem InnerCS.below {w w' : World} {B S S' : Nat} {vs : List Value} {xss : List (List (Int × Int))} (h : InnerCS w B S vs xss) (hB : Below w.heap.size w w') (hS : S ≤ S') : InnerCS w' B S' vs xss :=
  ⟨h.len, fun k xs hx => by obtain ⟨a, c, h1, h2⟩ := h.each k xs hx; exact ⟨a, c, h1, (h2.below hB).mono (Nat.le_refl _) hS⟩⟩
theorem ccs_ins {w w' : World} {B S : Nat} {vs : List Value} {xss : List (List (Int × Int))} {ys : List (Int × Int)} {k n' m cx c' : Nat} {ax a' : Option Addr} (h3 : InnerCS w B S vs xss) (hx : CO w B S ax m cx ys) (hB : Below w.heap.size w w') (hBw : B ≤ w.heap.size) (hS : S ≤ w.heap.size)
    (ho : w'.ownsRow w.heap.size 36 1 (.slice a' n' c') n' (vs.take k ++ [.slice ax m cx] ++ vs.drop k)) : CCS w' B w'.heap.size a' n' c' (xss.take k ++ [ys] ++ xss.drop k) := by
  refine ⟨_, ownsRow_base ho hBw, fun j hj => (ho.lt j hj).2, ?_⟩
  exact (((h3.take k).append (InnerCS.single hx)).append (h3.drop k)).below hB (Nat.le_trans hS hB.size)
end Go.Proofs.Ytageojkepoejiaa
