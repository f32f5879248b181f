/-
  Contract of l1Count and of the reference's CountReduced.
  Contract of DrawTwoPerms: two permutations of one size of at most 5.
-/
import Derived.Test.YtdpjcjnednmoeaaBuM18
import Derived.Test.YtdpjcjnednmoeaaBuM16
import Derived.Test.YtdpjcjnednmoeaaBuM5
import Derived.OwnWalk
namespace Go.Proofs.Ytdpjcjnednmoeaa
open Go.RowKit

theorem IIN.keeps {w w' : World} {B R B' S n c m d : Nat} {x : Option Nat} {a b : Option Addr} {xss : List (List Int)} {l : List Int} {v' : Value} (h : IIN w B R x a n c xss) (hi : OwI w B' S b m d l) (hg : Grows w w' (.slice a n c) v') : OwI w' B' S b m d l := by
  obtain ⟨vs, h1, _⟩ := h
  exact hi.grows hg h1
theorem OwI.other {w w' : World} {B S n c : Nat} {a : Option Addr} {l : List Int} {row : Option Nat} (h : OwI w B S a n c l) (hg : w.grownBy w' row) (hne : ∀ k, (Value.slice a n c).ownBlock = some k → row ≠ some k) : OwI w' B S a n c l :=
  ⟨h.1.kept hg fun k hk e => hne k hk e, h.2⟩
/-- a store into the block T of integers -/
theorem IIN.past {w w' : World} {B T n c F : Nat} {x : Option Nat} {a : Option Addr} {xss : List (List Int)} {l : List Int} (h : IIN w B (T + 1) x a n c xss) (ho : OwI w T (T + 1) (some ⟨T, 0, none⟩) F F l) (hg : w.grownBy w' (some T)) : IIN w' B (T + 1) x a n c xss := by
  obtain ⟨vs, h1, h2, h3⟩ := h
  refine ⟨vs, grown_keeps h1 hg (fun k hk e => ne_block h1 ho k hk (by rw [← e]; simp [Value.ownBlock])), h2, fun k xs hx => ?_⟩
  obtain ⟨a', c', e1, e2, e3⟩ := h3 k xs hx
  exact ⟨a', c', e1, ⟨e2.1.kept hg fun k hk e => by have := e2.1.lo k hk; have := Option.some.inj e; omega, fun k hk => Nat.lt_of_lt_of_le (e2.2 k hk) hg.size⟩, e3⟩
/-- append of a row of integers -/
theorem wpList_pushIIN {w : World} {W : World} {b : Option Addr} {m d : Nat} (hW : W = w.alloc (.cells #[.slice b m d] 24)) {ops : Array Oper} {rest : List Oper} {o : Oper} {ac : Act} {Q : Exit → Act → World → Prop} (hgd : o.guard = none) (s x : Operand)
    (ho : o.op = .call { callee := .builtin .append, args := #[s, x], argTypes := #[28, 28] })
    {B R : Nat} {y : Option Nat} {a : Option Addr} {n c : Nat} {xss : List (List Int)} (hown : IIN w B R y a n c xss) (hs : ac.eval s = .slice a n c)
    {ys : List Int} (hr : OwI w R w.heap.size b m d ys) (hne : ∀ g, (Value.slice b m d).ownBlock = some g → y ≠ some g) (hx : ac.eval x = .slice (some ⟨w.heap.size, 0, none⟩) 1 1) (hn : n + 1 ≤ 16777216) (hbase : B ≤ w.heap.size)
    (h : ∀ a' c' w', IIN w' B R y a' (n + 1) c' (xss ++ [ys]) → Grows w w' (.slice a n c) (.slice a' (n + 1) c') → wpList Try.prog ops Q rest (ac.put o.dst (.slice a' (n + 1) c')) w') :
    wpList Try.prog ops Q (o :: rest) ac W := by
  subst hW
  obtain ⟨i0, hi, hz0, hz1, hz2⟩ := info_parts Try.info24
  obtain ⟨vs, h1, h2, h3⟩ := hown
  have hlen := hr.len
  refine wpList_app _ hgd s x 28 ho B 24 i0 (.slice none 0 0) 24 Try.underlying28 hi hz0 hz1 hz2 rfl _ n vs hs (h1.alloc _) _ 1 1 [.slice b m d] hx rfl (by simp) ?_ ?_ hn (by omega) (by simp; omega) ?_
  · intro ad had j u hu
    obtain rfl := Option.some.inj had
    match j, hu with
    | 0, hu => simp at hu; subst hu; simp [Addr.add]
  · intro u hu; simp at hu; subst hu; rfl
  · intro a' c' w' h4 h5
    have hb0 : Below w.heap.size w (w.alloc (.cells #[.slice b m d] 24)) := (Below.refl _ _).alloc (Nat.le_refl _) _
    have hg := (Grows.of_below (.slice a n c) hb0).trans h5
    have hsz := hg.grown.size
    refine h a' c' w' ⟨vs ++ [.slice b m d], h4, by simp [h2], fun k zs hz => ?_⟩ hg
    rcases Nat.lt_or_ge k xss.length with hk | hk
    · rw [List.getElem?_append_left hk] at hz
      obtain ⟨a2, c2, e1, e2, e3⟩ := h3 k zs hz
      exact ⟨a2, c2, by rw [List.getElem?_append_left (by rw [h2]; exact hk)]; exact e1, (e2.grows hg h1).mono (Nat.le_refl _) hsz, e3⟩
    · rw [List.getElem?_append_right hk] at hz
      have hk0 : k - xss.length = 0 := by have := lt_of_some hz; simp at this; omega
      rw [hk0] at hz
      obtain rfl : ys = zs := by simpa using hz
      refine ⟨b, d, by rw [List.getElem?_append_right (by rw [h2]; exact hk), h2, hk0, hlen]; rfl, ?_⟩
      rw [hlen]
      exact ⟨(hr.grows hg h1).mono (Nat.le_refl _) hsz, hne⟩
/-- the next level so far, in memory -/
structure SRep (w : World) (A T F : Nat) (a1 : Option Addr) (c1 : Nat) (a2 : Option Addr) (c2 m : Nat) (s : RS) : Prop where
  nx : IIN w A (T + 1) (Value.slice a2 m c2).ownBlock a1 m c1 s.1
  mo : OwI w A w.heap.size a2 m c2 s.2.1
  ne : ∀ q, (Value.slice a2 m c2).ownBlock = some q → q ≠ T
  ar : OwI w T (T + 1) (some ⟨T, 0, none⟩) F F s.2.2
theorem SRep.below {w w' : World} {A T F : Nat} {a1 : Option Addr} {c1 : Nat} {a2 : Option Addr} {c2 m : Nat} {s : RS} (h : SRep w A T F a1 c1 a2 c2 m s) (hb : Below w.heap.size w w') : SRep w' A T F a1 c1 a2 c2 m s :=
  ⟨h.nx.below hb, (h.mo.below hb).mono (Nat.le_refl _) hb.size, h.ne, h.ar.below hb⟩
/-- a level, to be read -/
def LR (w : World) (a : Option Addr) (m : Nat) (L : List (List Int)) : Prop :=
  L.length = m ∧ ∀ (i : Nat) (v : List Int), L[i]? = some v → ∃ (g : Nat) (a' : Option Addr) (c' : Nat), a = some ⟨g, 0, none⟩ ∧ w.cell? ⟨g, i, none⟩ = some (Value.slice a' v.length c') ∧ RI w a' v ∧ v.length ≤ c'
theorem LR.below {w w' : World} {a : Option Addr} {m : Nat} {L : List (List Int)} (h : LR w a m L) (hb : Below w.heap.size w w') : LR w' a m L :=
  ⟨h.1, fun i v hv => by
    obtain ⟨g, a', c', e1, e2, e3, e4⟩ := h.2 i v hv
    exact ⟨g, a', c', e1, by rw [hb.cell (p := ⟨g, i, none⟩) (World.block_lt_of_cell? _ _ e2)]; exact e2, e3.below hb, e4⟩⟩
theorem IIN.lr {w : World} {B R : Nat} {x : Option Nat} {a : Option Addr} {n c : Nat} {xss : List (List Int)} (h : IIN w B R x a n c xss) : LR w a n xss := by
  refine ⟨h.len, fun i v hv => ?_⟩
  have h2 := h.iis (B' := 0) (Nat.zero_le _) (Nat.zero_le _)
  obtain ⟨g, e1, _, h3⟩ := h2.at (lt_of_some hv)
  obtain ⟨a', c', e2, e3⟩ := h3 i v hv
  exact ⟨g, a', c', e1, e2, e3.rd, e3.1.lt⟩
set_option maxRecDepth 100000 in
set_option maxHeartbeats 6400000 in
theorem l1Count_any (n : Nat) (h1 : 1 ≤ n) (h5 : n ≤ 5) (a : Option Addr) (c : Nat) (u : List Int) (w : World) (hr : RI w a u) (hcap : n ≤ c) (hu : u ∈ perms n) (hl : 8 < sumI (code u)) :
    Calls Try.prog 21 #[.slice a n c] w fun e w' => e = .returned (.int .i64 (specCnt n u)) ∧ Below w.heap.size w w' := by
  have hul := (perms_ok hu h1 h5).1
  have Hlv := Lib.hid (lvFacts h1 h5 hu hl)
  have Hper := Lib.hid (lvT_per h1 h5 hu)
  obtain ⟨len, hlen⟩ : ∃ len : Nat, sumI (code u) = (len : Int) := ⟨(sumI (code u)).toNat, by omega⟩
  have hlen10 : len ≤ 10 := by have := (redBase h1 h5 hu).len; omega
  have Hlen := Lib.hid hlen
  have Hul := Lib.hid hul
  clear hl hlen hul
  obtain ⟨i0, hi, hz0', hz1, hz2⟩ := info_parts Try.info3
  go_enter Try.func21, Try.ntmps21
  have hs2 : ((w.alloc (.cells #[.slice a n c] 24)).alloc (.cells #[.int .i64 1] 3)).heap.size = w.heap.size + 2 := by simp
  have hB2 : Below w.heap.size w ((w.alloc (.cells #[.slice a n c] 24)).alloc (.cells #[.int .i64 1] 3)) := ((Below.refl _ _).alloc (Nat.le_refl _) _).alloc (by simp) _
  have hb1 : Below (w.alloc (.cells #[.slice a n c] 24)).heap.size (w.alloc (.cells #[.slice a n c] 24)) ((w.alloc (.cells #[.slice a n c] 24)).alloc (.cells #[.int .i64 1] 3)) := (Below.refl _ _).alloc (Nat.le_refl _) _
  have HR2 := Lib.hid (hr.below hB2)
  have HL2 := Lib.hid (show LR ((w.alloc (.cells #[.slice a n c] 24)).alloc (.cells #[.int .i64 1] 3)) (some ⟨w.heap.size, 0, none⟩) 1 [u] from ⟨rfl, fun i v hv => by
    match i, hv with
    | 0, hv =>
      obtain rfl : u = v := by simpa using hv
      exact ⟨w.heap.size, a, c, rfl, by rw [Hul.out]; simp, HR2.out, by rw [Hul.out]; exact hcap⟩⟩)
  have HC2 := Lib.hid (show RI ((w.alloc (.cells #[.slice a n c] 24)).alloc (.cells #[.int .i64 1] 3)) (some ⟨w.heap.size + 1, 0, none⟩) [1] from by have := (OwI.one (w.alloc (.cells #[.slice a n c] 24)) 1).rd; simpa using this)
  clear hb1
  go_wp2_with fail
  refine (isInt (l1Length_any _ _ _ u _ HR2.out Hul.out (by omega)) Hlen.out).mono ?_
  rintro e w1 ⟨rfl, hB1⟩
  have hB := hB2.trans (hB1.mono hB2.size)
  have HL1 := Lib.hid (HL2.out.below hB1)
  have HC1 := Lib.hid (HC2.out.below hB1)
  clear HL2 HC2 HR2 hB1 hs2 hB2
  go_wp2
  go_loopw [3, 4, 5] (fun vL vC i wr => Hid (∃ t aL cL aC cC m, t ≤ len ∧ i = .int .i64 ((len : Int) - (t : Nat)) ∧ vL = .slice aL m cL ∧ vC = .slice aC m cC ∧ LR wr aL m (lvT n u t).1 ∧ RI wr aC (lvT n u t).2) ∧ Below w.heap.size w wr) (fun _ _ i _ => (intOf i).toNat)
  case atStart => exact ⟨⟨0, _, _, _, _, 1, Nat.zero_le _, by simp, rfl, rfl, HL1.out, HC1.out⟩, hB⟩
  case round =>
    clear HL1 HC1 hB
    obtain ⟨HV, hB⟩ := hrel
    obtain ⟨wo, rfl⟩ : ∃ wo : World, wo = wr := ⟨_, rfl⟩
    obtain ⟨t, aL, cL, aC, cC, m, ht, rfl, rfl, rfl, hL, hC⟩ := HV.out
    clear HV
    have hz0 := hB.size
    by_cases hlt : t < len
    · have q1 : 0 < (len : Int) - (t : Int) := by omega
      have hb2 : Below wo.heap.size wo ((wo.alloc (.cells #[] 24)).alloc (.cells #[] 3)) := ((Below.refl _ _).alloc (Nat.le_refl _) _).alloc (by simp) _
      have HL := Lib.hid hL
      have HC := Lib.hid hC
      clear hL hC
      go_wp2_with fail
      refine (l1Factorial_any n _ (by omega)).mono ?_
      rintro e w2 ⟨rfl, rfl⟩
      have hfa : fact n ≤ 120 := by
        have := fact_mono h5
        exact this
      go_wp2_with (first | (at_make; refine wpList_make_full _ rfl _ _ 24 rfl (wo.heap.size + 2) 3 i0 (.int .i64 0) 1 Try.underlying24 hi hz0' hz1 .i64 .i64 _ _ (fact n) rfl rfl ?m1 ?m2 ?m3 ?m4 ?m5 ?_))
      case m1 => rfl
      case m2 => rfl
      case m3 => rw [hz2]; omega
      case m4 => unfold maxLen; omega
      case m5 => simp
      intro w3 hown hg3
      have hB3 : Below wo.heap.size wo w3 := hb2.grown hg3 hb2.size (by simp)
      have HS0 := Lib.hid (show SRep w3 wo.heap.size (wo.heap.size + 2) (fact n) (some ⟨wo.heap.size, 0, none⟩) 0 (some ⟨wo.heap.size + 1, 0, none⟩) 0 0 (stI n (lvT n u t).1 (lvT n u t).2 0) from by
        have e1 : IIN (wo.alloc (.cells #[] 24)) wo.heap.size (wo.heap.size + 2 + 1) (Value.slice (some ⟨wo.heap.size + 1, 0, none⟩) 0 0).ownBlock (some ⟨wo.heap.size, 0, none⟩) 0 0 [] := ⟨[], World.ownsRow_made wo #[] 0 (Nat.le_refl _) (Nat.zero_le _) rfl, rfl, by simp⟩
        have e2 : OwI ((wo.alloc (.cells #[] 24)).alloc (.cells #[] 3)) wo.heap.size ((wo.alloc (.cells #[] 24)).alloc (.cells #[] 3)).heap.size (some ⟨(wo.alloc (.cells #[] 24)).heap.size, 0, none⟩) 0 0 [] := OwI.mk (World.ownsRow_made _ #[] 0 (by simp) (Nat.zero_le _) rfl)
        have b1 : Below (wo.alloc (.cells #[] 24)).heap.size (wo.alloc (.cells #[] 24)) ((wo.alloc (.cells #[] 24)).alloc (.cells #[] 3)) := (Below.refl _ _).alloc (Nat.le_refl _) _
        have b2 : Below ((wo.alloc (.cells #[] 24)).alloc (.cells #[] 3)).heap.size ((wo.alloc (.cells #[] 24)).alloc (.cells #[] 3)) w3 := (Below.refl _ _).grown hg3 (Nat.le_refl _) (by simp)
        refine ⟨(e1.below b1).below b2, ?_, fun q hq => by simp [Value.ownBlock] at hq; omega, ?_⟩
        · have := (e2.below b2).mono (Nat.le_refl _) b2.size
          simpa [stI] using this
        · have e := toList_madeCells_one (.int .i64 0) (fact n)
          refine ⟨OS.of ?_, fun k hk => by simp [Value.ownBlock] at hk; omega⟩
          have h0 := hown
          simpa [ints, Value.cells, e, stI] using h0)
      clear hown hg3 hb2
      have hz3 := hB3.size
      have Hmm := Lib.hid (show m ≤ 100 by rw [← HL.out.1]; exact Hlv.out.few t (by omega))
      have hm100 := Hmm.out
      go_wp2
      go_loopw [6, 7, 9] (fun vN vM vi wr => Hid (∃ i a1 c1 a2 c2 mm, i ≤ m ∧ vi = .int .i64 (i : Nat) ∧ vN = .slice a1 mm c1 ∧ vM = .slice a2 mm c2 ∧ SRep wr wo.heap.size (wo.heap.size + 2) (fact n) a1 c1 a2 c2 mm (stI n (lvT n u t).1 (lvT n u t).2 i)) ∧ Below wo.heap.size wo wr) (fun _ _ vi _ => m - (intOf vi).toNat)
      case atStart => exact ⟨⟨0, _, _, _, _, 0, Nat.zero_le _, rfl, rfl, rfl, HS0.out⟩, hB3⟩
      case round =>
        clear HS0 hB3 hz3
        obtain ⟨HV, hBi⟩ := hrel
        obtain ⟨wi, rfl⟩ : ∃ wi : World, wi = wr := ⟨_, rfl⟩
        obtain ⟨i, a1, c1, a2, c2, mm, hi', rfl, rfl, rfl, hS⟩ := HV.out
        clear HV
        have hzi := hBi.size
        by_cases hlti : i < m
        · have q2 : (i : Int) < (m : Int) := by omega
          obtain ⟨v, hv⟩ := some_of (show i < (lvT n u t).1.length by rw [HL.out.1]; exact hlti)
          have hvp := (Hper.out t).1 v (List.mem_of_getElem? hv)
          have hvl := (perms_ok hvp h1 h5).1
          obtain ⟨ci, hci⟩ := some_at (k := i) (show (lvT n u t).2.length = m by rw [(Hper.out t).2, HL.out.1]) hlti
          have Hst := Lib.hid (show ∀ s, stI n (lvT n u t).1 (lvT n u t).2 i = s → stI n (lvT n u t).1 (lvT n u t).2 (i + 1) = stKs v ci s (n - 1) from fun s hs => by
            rw [stI, hs]
            congr 1
            · rw [List.getD_eq_getElem?_getD, hv]; rfl
            · rw [List.getD_eq_getElem?_getD, hci]; rfl)
          have HG := Lib.hid (GoodS.upto (lvT n u t).2 h1 h5 (Hper.out t).1 i (by rw [HL.out.1]; exact hi'))
          have Hv := Lib.hid hv
          have Hci := Lib.hid hci
          have Hvp := Lib.hid hvp
          have HS1 := Lib.hid hS
          obtain ⟨s0, hs0⟩ : ∃ s0, stI n (lvT n u t).1 (lvT n u t).2 i = s0 := ⟨_, rfl⟩
          rw [hs0] at HS1 HG
          have Hst2 := Lib.hid (Hst.out s0 hs0)
          clear hv hci hvp hS Hst hs0
          go_wp2
          go_loopw [6, 7, 10] (fun vN vM vk wr => Hid (∃ k a1 c1 a2 c2 mm, k + 1 ≤ n ∧ vk = .int .i64 (k : Nat) ∧ vN = .slice a1 mm c1 ∧ vM = .slice a2 mm c2 ∧ SRep wr wo.heap.size (wo.heap.size + 2) (fact n) a1 c1 a2 c2 mm (stKs v ci s0 k)) ∧ Below wo.heap.size wo wr) (fun _ _ vk _ => n - (intOf vk).toNat)
          case atStart => exact ⟨⟨0, _, _, _, _, mm, by omega, rfl, rfl, rfl, HS1.out⟩, hBi⟩
          case round =>
            clear HS1 hBi hzi
            obtain ⟨HV, hBk⟩ := hrel
            obtain ⟨wk, rfl⟩ : ∃ wk : World, wk = wr := ⟨_, rfl⟩
            obtain ⟨k, a1, c1, a2, c2, mm, hk', rfl, rfl, rfl, hS⟩ := HV.out
            clear HV
            have hzk := hBk.size
            by_cases hltk : k + 1 < n
            · have q3 : (k : Int) + 1 < (n : Int) := by omega
              have q4 : IntKind.i64.wrap ((k : Int) + 1) = (k : Int) + 1 := IntWalk.i64_in _ (by omega)
              have q5 : (k : Int) < (n : Int) := by omega
              have q6 : (0 : Int) ≤ (k : Int) + 1 := by omega
              obtain ⟨g, av, cv, rfl, hcg, hrv, hcv⟩ := (HL.out.below hBk).2 i v Hv.out
              rw [hvl] at hcg hcv
              obtain ⟨b, off, rfl, hcell⟩ := hrv.at (k := k) (by omega)
              obtain ⟨x, hx⟩ := some_at (k := k) hvl (by omega)
              obtain ⟨y, hy⟩ := some_at (k := k + 1) hvl (by omega)
              have hcx := hcell k x hx
              have hcy := hcell (k + 1) y hy
              have gx : v.getD k 0 = x := getD_of hx
              have gy : v.getD (k + 1) 0 = y := getD_of hy
              have hK : stKs v ci s0 (k + 1) = stK v ci (stKs v ci s0 k) k := rfl
              unfold stK at hK
              rw [gx, gy] at hK
              have HGk := Lib.hid (GoodS.steps HG.out h1 h5 Hvp.out ci (k := k) (by omega))
              have Hrv := Lib.hid hrv
              have HS2 := Lib.hid hS
              clear hcell hx hy gx gy hrv hS
              by_cases hxy : x < y
              · rw [if_pos hxy] at hK
                have HK := Lib.hid hK
                clear hK
                go_wp2
                go_quiet (fail)
                have hdr : Below wk.heap.size wk (wk.drewN nq) := Drew.below ⟨nq, rfl⟩ _
                have HS3 := Lib.hid (HS2.out.below hdr)
                have HB3 := Lib.hid (hBk.trans (hdr.mono hzk))
                go_wp2
                go_roundw
                case rel => exact ⟨⟨k + 1, _, _, _, _, mm, by omega, by go_num, rfl, rfl, by rw [HK.out]; exact HS3.out⟩, HB3.out⟩
                case measure => simp [intOf]; omega
              · rw [if_neg hxy] at hK
                have HK := Lib.hid hK
                clear hK
                go_wp2
                go_quiet (fail)
                have hdr : Below wk.heap.size wk (wk.drewN nq) := Drew.below ⟨nq, rfl⟩ _
                have hzd : (wk.drewN nq).heap.size = wk.heap.size := rfl
                go_wp2_with fail
                refine (l1Swap_any _ _ _ v k (k + 1) _ _ _ (Hrv.out.below hdr) hvl (by omega) rfl (by omega) (by omega) (by omega)).mono ?_
                rintro e w4 ⟨a4, c4, rfl, ho4, hB4⟩
                have Hzp := Lib.hid (swp_in h1 h5 Hvp.out hltk)
                have Hplace := Lib.hid (placeFacts h1 h5 Hzp.out)
                obtain ⟨z, hz⟩ : ∃ z, swp v k (k + 1) = z := ⟨_, rfl⟩
                rw [hz] at ho4 HK Hzp Hplace
                have hb4 := hdr.trans (hB4.mono (Nat.le_of_eq hzd.symm))
                have HS4 := Lib.hid (HS2.out.below hb4)
                have Ho4 := Lib.hid ho4
                go_wp2_with fail
                refine (l1Place_any n h1 h5 _ _ z _ ho4.rd ho4.1.lt Hzp.out).mono ?_
                rintro e w5 ⟨rfl, hB5⟩
                have hb5 := hb4.trans (hB5.mono hb4.size)
                have HS5 := Lib.hid (HS4.out.below hB5)
                have Ho5 := Lib.hid ((Ho4.out.below hB5).mono (B' := wk.heap.size) (S' := w5.heap.size) (Nat.le_of_eq hzd.symm) hB5.size)
                have HB5 := Lib.hid (hBk.trans (hb5.mono hzk))
                have hz5 := hb5.size
                have hp0 := Hplace.out.low
                have hp1 := Hplace.out.lt
                obtain ⟨P, hP⟩ : ∃ P : Nat, placeOf z = (P : Int) := ⟨(placeOf z).toNat, by omega⟩
                obtain ⟨s, hs⟩ : ∃ s, stKs v ci s0 k = s := ⟨_, rfl⟩
                rw [hs] at HS5 HK HGk
                have hPF : P < fact n := by omega
                have hT := HS5.out.ar.1.hi (wo.heap.size + 2) rfl
                have hT2 := HS2.out.ar.1.hi (wo.heap.size + 2) rfl
                have hmm := HS5.out.nx.len
                have hmm8 : mm ≤ 500 := by
                  have h3 := Nat.mul_le_mul (show i ≤ 100 by omega) (show n - 1 ≤ 4 by omega)
                  have h4 := Nat.le_trans HGk.out.few (Nat.add_le_add_right h3 k)
                  omega
                obtain ⟨gT, eT, _, ⟨q, hq, hcq⟩, hfq⟩ := OI.cons HS5.out.ar.1 hPF
                obtain rfl : wo.heap.size + 2 = gT := by simpa using eT
                have hqr := HGk.out.ent q (List.mem_of_getElem? hq)
                have gq : s.2.2.getD (placeOf z).toNat 0 = q := by rw [hP, Int.toNat_natCast]; exact getD_of hq
                rw [hP]
                by_cases hq0 : q = 0
                · subst hq0
                  have hN : stNew z s = (s.1 ++ [z], s.2.1 ++ [0], s.2.2.set P ((mm : Int) + 1)) := by unfold stNew; rw [gq, if_pos rfl, hP, Int.toNat_natCast, hmm]
                  have HN := Lib.hid hN
                  clear hN gq hq
                  have hcq1 : w5.cell? ⟨wo.heap.size + 1 + 1, P, none⟩ = some (.int .i64 0) := hcq
                  have q7 : (P : Int) < ((fact n : Nat) : Int) := by omega
                  go_wp2_with (first | (at_builtin; go_loud (refine wpList_pushIIN (by rfl) (by rfl) _ _ (by rfl) HS5.out.nx (by rfl) (Ho5.out.mono (by omega) (Nat.le_refl _)) (fun g hg e => by have h1 := Ho5.out.1.lo g hg; have h2 := HS2.out.mo.2 g e; omega) (by rfl) (by omega) (by omega) ?_)))
                  intro a6 c6 w6 hn6 hg6
                  have hB6 : Below wo.heap.size wo w6 := hg6.below HB5.out HB5.out.size HS5.out.nx.lo
                  have hm6 := (HS5.out.nx.keeps HS5.out.mo hg6).mono (Nat.le_refl _) hg6.grown.size
                  have hr6 := HS5.out.nx.keeps HS5.out.ar hg6
                  have HM6 := Lib.hid hm6
                  have HR6 := Lib.hid hr6
                  have HN6 := Lib.hid hn6
                  have HB6 := Lib.hid hB6
                  have hz6 := hB6.size
                  clear hm6 hr6 hn6 hg6 hB6
                  go_wp2_with (first | (at_builtin; go_loud (refine wpList_pushI (by rfl) (by rfl) _ _ (by rfl) HM6.out (by rfl) (by rfl) (by omega) (by omega) ?_)))
                  intro a7 c7 w7 hm7 hg7
                  have hB7 := hg7.below HB6.out HB6.out.size HM6.out.1.lo
                  have hn7 := HN6.out.num HM6.out hg7
                  have hr7 := HR6.out.other hg7.grown fun k hk e => HS5.out.ne k e (by simp [Value.ownBlock] at hk; omega)
                  have ne7 : ∀ q, (Value.slice a7 (mm + 1) c7).ownBlock = some q → q ≠ wo.heap.size + 2 := fun q hq => by
                    rcases hg7.home with e | e
                    · rw [e] at hq; exact HS5.out.ne q hq
                    · have h1 := e q hq
                      have h2 := HR6.out.1.hi (wo.heap.size + 2) rfl
                      omega
                  obtain ⟨gT7, eT7, _, ⟨q7', hq7, hcq7⟩, hfq7⟩ := OI.cons hr7.1 hPF
                  obtain rfl : wo.heap.size + 2 = gT7 := by simpa using eT7
                  have st := hr7.1.store P ((mm : Int) + 1)
                  have HSW := Lib.hid (show SRep (w7.setCell ⟨wo.heap.size + 1 + 1, P, none⟩ (.int .i64 ((mm : Int) + 1))) wo.heap.size (wo.heap.size + 2) (fact n) a6 c6 a7 c7 (mm + 1) (stNew z s) from by
                    rw [HN.out]
                    exact ⟨hn7.past hr7 st.2, (hm7.other st.2 fun k hk e => ne7 k hk (Option.some.inj e).symm).mono (Nat.le_refl _) (Nat.le_of_eq (by simp)), ne7, ⟨st.1, hr7.2⟩⟩)
                  have HBW := Lib.hid (show Below wo.heap.size wo (w7.setCell ⟨wo.heap.size + 1 + 1, P, none⟩ (.int .i64 ((mm : Int) + 1))) from hB7.setCell (p := ⟨wo.heap.size + 1 + 1, P, none⟩) (show wo.heap.size ≤ wo.heap.size + 1 + 1 by omega) _)
                  have hcq8 : w7.cell? ⟨wo.heap.size + 1 + 1, P, none⟩ = some (.int .i64 q7') := hcq7
                  have hfq8 : w7.frozen? ⟨wo.heap.size + 1 + 1, P, none⟩ = false := hfq7
                  clear hm7 hg7 hB7 hn7 hr7 ne7 eT7 hq7 hcq7 hfq7 st
                  have hB9 : Below wo.heap.size wo (w7.setCell ⟨wo.heap.size + 1 + 1, P, none⟩ (.int .i64 ((mm : Int) + 1))) := HBW.out
                  have hat := GoodS.at HGk.out h1 h5 Hzp.out
                  obtain ⟨s2, hs2⟩ : ∃ s2, stNew z s = s2 := ⟨_, rfl⟩
                  have HSx := Lib.hid (show SRep (w7.setCell ⟨wo.heap.size + 1 + 1, P, none⟩ (.int .i64 ((mm : Int) + 1))) wo.heap.size (wo.heap.size + 2) (fact n) a6 c6 a7 c7 (mm + 1) s2 by rw [← hs2]; exact HSW.out)
                  rw [hs2] at hat HK
                  have HK2 := Lib.hid HK
                  obtain ⟨gT2, eT2, _, ⟨q2, hq2, hcq2⟩, hfq2⟩ := OI.cons HSx.out.ar.1 hPF
                  obtain rfl : wo.heap.size + 2 = gT2 := by simpa using eT2
                  have gq2 : s2.2.2.getD (placeOf z).toNat 0 = q2 := by rw [hP, Int.toNat_natCast]; exact getD_of hq2
                  rw [gq2] at hat
                  have hmm2 := HSx.out.nx.len
                  obtain ⟨Q, rfl⟩ : ∃ Q : Nat, q2 = (Q : Int) + 1 := ⟨(q2 - 1).toNat, by omega⟩
                  have hQ : Q < mm + 1 := by omega
                  have hsA : stAt z s2 = Q := by unfold stAt; rw [gq2]; omega
                  obtain ⟨g2, e2, hg2A, ⟨r, hr2, hcr⟩, hfr⟩ := OI.cons HSx.out.mo.1 hQ
                  have gr : s2.2.1.getD Q 0 = r := getD_of hr2
                  obtain ⟨x9, hx9⟩ : ∃ x9, IntKind.i64.wrap (r + ci) = x9 := ⟨_, rfl⟩
                  have hAdd : stAdd z ci s2 = (s2.1, s2.2.1.set Q x9, s2.2.2) := by unfold stAdd; rw [hsA, gr, hx9]
                  obtain ⟨bc, oc, rfl, hcc⟩ := (HC.out.below hB9).at (k := i) (by rw [(Hper.out t).2, HL.out.1]; exact hlti)
                  have hci := hcc i ci Hci.out
                  subst e2
                  have st2 := HSx.out.mo.1.store Q x9
                  have HS9 := Lib.hid (show SRep ((w7.setCell ⟨wo.heap.size + 1 + 1, P, none⟩ (.int .i64 ((mm : Int) + 1))).setCell ⟨g2, Q, none⟩ (.int .i64 x9)) wo.heap.size (wo.heap.size + 2) (fact n) a6 c6 (some ⟨g2, 0, none⟩) c7 (mm + 1) (stKs v ci s0 (k + 1)) from by
                    rw [HK2.out, hAdd]
                    exact ⟨HSx.out.nx.num HSx.out.mo ⟨st2.2, .inl rfl⟩, ⟨st2.1, fun k hk => by have := HSx.out.mo.2 k hk; simpa using this⟩, HSx.out.ne, HSx.out.ar.other st2.2 fun k hk e => HSx.out.ne k (by rw [← e]; rfl) (by simp [Value.ownBlock] at hk; omega)⟩)
                  have HB10 := Lib.hid (show Below wo.heap.size wo ((w7.setCell ⟨wo.heap.size + 1 + 1, P, none⟩ (.int .i64 ((mm : Int) + 1))).setCell ⟨g2, Q, none⟩ (.int .i64 x9)) from hB9.setCell (p := ⟨g2, Q, none⟩) hg2A _)
                  have hcq3 : (w7.setCell ⟨wo.heap.size + 1 + 1, P, none⟩ (.int .i64 ((mm : Int) + 1))).cell? ⟨wo.heap.size + 1 + 1, P, none⟩ = some (.int .i64 ((Q : Int) + 1)) := hcq2
                  have q8 : (Q : Int) < ((mm + 1 : Nat) : Int) := by omega
                  have q9 : IntKind.i64.wrap ((Q : Int) + 1 - 1) = (Q : Int) := by rw [IntWalk.i64_in _ (by omega)]; omega
                  have q10 : (P : Int) < ((fact n : Nat) : Int) := by omega
                  clear hat hs2 HK gq2 hsA hr2 gr hAdd hcc hq2 hcq2 eT2 hB9 st2
                  go_wp2
                  go_region
                  skip
                  go_wp2
                  go_roundw
                  case rel => exact ⟨⟨k + 1, _, _, _, _, mm + 1, by omega, by go_num, rfl, rfl, HS9.out.below (Drew.below ⟨1, rfl⟩ _)⟩, HB10.out.trans (Drew.below ⟨1, rfl⟩ _)⟩
                  case measure => simp [intOf]; omega
                · have hN : stNew z s = s := by unfold stNew; rw [gq, if_neg hq0]
                  have HSW := Lib.hid (show SRep w5 wo.heap.size (wo.heap.size + 2) (fact n) a1 c1 a2 c2 mm (stNew z s) by rw [hN]; exact HS5.out)
                  have HBW := HB5
                  have hcq1 : w5.cell? ⟨wo.heap.size + 1 + 1, P, none⟩ = some (.int .i64 q) := hcq
                  have q7 : (P : Int) < ((fact n : Nat) : Int) := by omega
                  have hqb : (q == 0) = false := by rw [beq_eq_false_iff_ne]; exact hq0
                  clear hN gq hq
                  have hB9 : Below wo.heap.size wo w5 := HBW.out
                  have hat := GoodS.at HGk.out h1 h5 Hzp.out
                  obtain ⟨s2, hs2⟩ : ∃ s2, stNew z s = s2 := ⟨_, rfl⟩
                  have HSx := Lib.hid (show SRep w5 wo.heap.size (wo.heap.size + 2) (fact n) a1 c1 a2 c2 (mm) s2 by rw [← hs2]; exact HSW.out)
                  rw [hs2] at hat HK
                  have HK2 := Lib.hid HK
                  obtain ⟨gT2, eT2, _, ⟨q2, hq2, hcq2⟩, hfq2⟩ := OI.cons HSx.out.ar.1 hPF
                  obtain rfl : wo.heap.size + 2 = gT2 := by simpa using eT2
                  have gq2 : s2.2.2.getD (placeOf z).toNat 0 = q2 := by rw [hP, Int.toNat_natCast]; exact getD_of hq2
                  rw [gq2] at hat
                  have hmm2 := HSx.out.nx.len
                  obtain ⟨Q, rfl⟩ : ∃ Q : Nat, q2 = (Q : Int) + 1 := ⟨(q2 - 1).toNat, by omega⟩
                  have hQ : Q < mm := by omega
                  have hsA : stAt z s2 = Q := by unfold stAt; rw [gq2]; omega
                  obtain ⟨g2, e2, hg2A, ⟨r, hr2, hcr⟩, hfr⟩ := OI.cons HSx.out.mo.1 hQ
                  have gr : s2.2.1.getD Q 0 = r := getD_of hr2
                  obtain ⟨x9, hx9⟩ : ∃ x9, IntKind.i64.wrap (r + ci) = x9 := ⟨_, rfl⟩
                  have hAdd : stAdd z ci s2 = (s2.1, s2.2.1.set Q x9, s2.2.2) := by unfold stAdd; rw [hsA, gr, hx9]
                  obtain ⟨bc, oc, rfl, hcc⟩ := (HC.out.below hB9).at (k := i) (by rw [(Hper.out t).2, HL.out.1]; exact hlti)
                  have hci := hcc i ci Hci.out
                  subst e2
                  have st2 := HSx.out.mo.1.store Q x9
                  have HS9 := Lib.hid (show SRep (w5.setCell ⟨g2, Q, none⟩ (.int .i64 x9)) wo.heap.size (wo.heap.size + 2) (fact n) a1 c1 (some ⟨g2, 0, none⟩) c2 (mm) (stKs v ci s0 (k + 1)) from by
                    rw [HK2.out, hAdd]
                    exact ⟨HSx.out.nx.num HSx.out.mo ⟨st2.2, .inl rfl⟩, ⟨st2.1, fun k hk => by have := HSx.out.mo.2 k hk; simpa using this⟩, HSx.out.ne, HSx.out.ar.other st2.2 fun k hk e => HSx.out.ne k (by rw [← e]; rfl) (by simp [Value.ownBlock] at hk; omega)⟩)
                  have HB10 := Lib.hid (show Below wo.heap.size wo (w5.setCell ⟨g2, Q, none⟩ (.int .i64 x9)) from hB9.setCell (p := ⟨g2, Q, none⟩) hg2A _)
                  have hcq3 : w5.cell? ⟨wo.heap.size + 1 + 1, P, none⟩ = some (.int .i64 ((Q : Int) + 1)) := hcq2
                  obtain rfl : q = (Q : Int) + 1 := by have h := hcq1.symm.trans hcq3; simpa using h
                  have q8 : (Q : Int) < ((mm : Nat) : Int) := by omega
                  have q9 : IntKind.i64.wrap ((Q : Int) + 1 - 1) = (Q : Int) := by rw [IntWalk.i64_in _ (by omega)]; omega
                  have q10 : (P : Int) < ((fact n : Nat) : Int) := by omega
                  clear hat hs2 HK gq2 hsA hr2 gr hAdd hcc hq2 hcq2 eT2 hB9 st2
                  go_wp2
                  go_region
                  skip
                  go_wp2
                  go_roundw
                  case rel => exact ⟨⟨k + 1, _, _, _, _, mm, by omega, by go_num, rfl, rfl, HS9.out.below (Drew.below ⟨1, rfl⟩ _)⟩, HB10.out.trans (Drew.below ⟨1, rfl⟩ _)⟩
                  case measure => simp [intOf]; omega
            · obtain rfl : k = n - 1 := by omega
              have q3 : ¬ ((n - 1 : Nat) : Int) + 1 < (n : Int) := by omega
              have HS2 := Lib.hid (show SRep wk wo.heap.size (wo.heap.size + 2) (fact n) a1 c1 a2 c2 mm (stI n (lvT n u t).1 (lvT n u t).2 (i + 1)) by rw [Hst2.out]; exact hS)
              clear hS
              go_wp2
              go_roundw
              case rel => exact ⟨⟨i + 1, _, _, _, _, mm, by omega, by go_num, rfl, rfl, HS2.out⟩, hBk⟩
              case measure => simp [intOf]; omega
        · obtain rfl : i = m := by omega
          have e1 : lvT n u (t + 1) = ((stI n (lvT n u t).1 (lvT n u t).2 i).1, (stI n (lvT n u t).1 (lvT n u t).2 i).2.1) := by rw [lvT, HL.out.1]
          have HL2 := Lib.hid (show LR wi a1 mm (lvT n u (t + 1)).1 by rw [e1]; exact hS.nx.lr)
          have HC2 := Lib.hid (show RI wi a2 (lvT n u (t + 1)).2 by rw [e1]; exact hS.mo.rd)
          have HB2 := Lib.hid (hB.trans (hBi.mono hz0))
          clear hS e1
          go_wp2
          go_roundw
          case rel => exact ⟨⟨t + 1, _, _, _, _, mm, by omega, by go_num, rfl, rfl, HL2.out, HC2.out⟩, HB2.out⟩
          case measure => simp [intOf]; omega
    · obtain rfl : t = len := by omega
      have q1 : ¬ 0 < (t : Int) - (t : Int) := by omega
      have hone := Hlv.out.one
      rw [Hlen.out, Int.toNat_natCast, hL.1] at hone
      obtain ⟨b, off, rfl, hcell⟩ := hC.at (k := 0) (by rw [(Hper.out t).2, hL.1]; exact hone)
      obtain ⟨x, hx⟩ := some_at (k := 0) (show (lvT n u t).2.length = m by rw [(Hper.out t).2, hL.1]) hone
      have hcx : wo.cell? ⟨b, off, none⟩ = some (.int .i64 x) := hcell 0 x hx
      have HX := Lib.hid (show specCnt n u = x by unfold specCnt; rw [Hlen.out, Int.toNat_natCast]; exact getD_of hx)
      have q2 : (0 : Int) < (m : Int) := by omega
      clear hcell hx hC hL
      go_wp2
      go_ret
      exact ⟨by rw [HX.out]; rfl, hB⟩
set_option maxHeartbeats 1600000 in
theorem specCount_any (n : Nat) (h1 : 1 ≤ n) (h5 : n ≤ 5) (a : Option Addr) (c : Nat) (u : List Int) (w : World) (hr : RI w a u) (hcap : n ≤ c) (hu : u ∈ perms n) (hl : 8 < sumI (code u)) :
    Calls Try.prog 8 #[.slice a n c] w fun e w' => e = .returned (.int .i64 (rcnt u)) ∧ Below w.heap.size w w' := by
  obtain ⟨hul, hup⟩ := perms_ok hu h1 h5
  have Heq := Lib.hid (lvFacts h1 h5 hu hl).eq
  go_enter Try.func8, Try.ntmps8
  go_wp2_with fail
  refine (is (specIsPerm_any _ _ _ u _ hr hul (by omega) hcap) hup).mono ?_
  rintro e w1 ⟨rfl, hd1⟩
  have hB1 := hd1.below w.heap.size
  have HR := Lib.hid (hr.below hB1)
  go_wp2_with fail
  refine (l1Count_any n h1 h5 _ _ u _ HR.out hcap hu hl).mono ?_
  rintro e w2 ⟨rfl, hB2⟩
  go_wp2
  go_ret
  exact ⟨by rw [← Heq.out]; rfl, hB1.trans (hB2.mono hB1.size)⟩
end Go.Proofs.Ytdpjcjnednmoeaa

namespace Go.Proofs.Ytdpjcjnednmoeaa
open Go.RowKit

theorem dPerm_at (K : Int) (k : Nat) (hK : K = (k : Int)) (h1 : 1 ≤ k) (h5 : k ≤ 5) (g : Nat) (a : Option Addr) (m c : Nat) (xs : List Int) (w : World) (hc : Cur w g a m c xs) :
    Calls Try.prog 14 #[.pointer (some ⟨g, 0, none⟩), .int .i64 K] w (PermPost k g a m c xs w) := by subst hK; exact dPerm_any k h1 h5 g a m c xs w hc
def TwoPost (w : World) (e : Ending) (w' : World) : Prop :=
  ∃ n u v a1 c1 a2 c2, e = .returned (.tuple #[.slice a1 n c1, .slice a2 n c2]) ∧ (1 ≤ n ∧ n ≤ 5) ∧ u ∈ perms n ∧ v ∈ perms n ∧ OwI w' w.heap.size w'.heap.size a1 n c1 u ∧ OwI w' w.heap.size w'.heap.size a2 n c2 v ∧ Below w.heap.size w w'
end Go.Proofs.Ytdpjcjnednmoeaa
