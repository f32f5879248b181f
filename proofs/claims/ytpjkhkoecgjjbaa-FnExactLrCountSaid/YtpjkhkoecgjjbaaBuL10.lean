/-
  Contract of the program's layer, whole.
  Contract of l4At.
  Contracts of l1Same and slices.Equal: two lists of integers compared.
  Contract of l4Add, for one shape more.
-/
import Derived.Test.YtpjkhkoecgjjbaaBuL9
import Derived.Test.YtpjkhkoecgjjbaaBuL1
import Derived.Test.YtpjkhkoecgjjbaaBuL4
import Derived.Test.YtpjkhkoecgjjbaaBuL7
import Derived.Test.YtpjkhkoecgjjbaaBuL5
import Derived.Deep.RegionHeld3
namespace Go.Proofs.Ytpjkhkoecgjjbaa
open Go.RowKit

set_option maxRecDepth 100000 in
set_option maxHeartbeats 3200000 in
theorem layer_out (A : Nat) (cs : List Int) (first : Bool) (r N : Nat) (L : List (List Int × Int)) (P old put last : List Int) (left : Int) (ap acs aold aund aput al : Option Addr) (cp ncs ccs cold nund cund cput n c : Nat) (w : World)
    (hp : LayPre A cs first 0 r N L P old put last left ap acs aold aund aput al cp ncs nund cund cput n c w) (hl : 0 < left) :
    Calls Try.prog 49 #[.slice ap 16 cp, .slice acs ncs ccs, .slice aold 16 cold, .int .i64 r, .int .i64 left, .slice aund nund cund, .slice aput 16 cput, .int .i64 16, .func (.func 43) #[] #[.pointer (some ⟨A, 0, none⟩)]] w
      (SeePost A (N + (lrStrip (restP cs) first last 0 P put left).length) (insAll (lrStrip (restP cs) first last 0 P put left) L) w) := by
  have hD : lrStrip (restP cs) first last 0 P put left = [] := by rw [lrStrip, if_pos hl]
  have hrk := hp.rk
  have z0 : ((r : Int) == 16) = true := by simp; omega
  have HS := Lib.hid (show SeePost A N L w (.returned (.tuple #[])) w from ⟨al, n, c, rfl, hp.st, Lay.refl _ _⟩)
  rw [hD]
  clear hD hp hrk
  go_enter Try.func49, Try.ntmps49
  go_wp2
  go_end0
  exact HS.out

set_option maxRecDepth 100000 in
set_option maxHeartbeats 3200000 in
theorem layer_see (A : Nat) (cs : List Int) (first : Bool) (r N : Nat) (L : List (List Int × Int)) (P old put last : List Int) (ap acs aold aund aput al : Option Addr) (cp ncs ccs cold nund cund cput n c : Nat) (w : World)
    (hp : LayPre A cs first 0 r N L P old put last 0 ap acs aold aund aput al cp ncs nund cund cput n c w) (hn : ncs = 1) :
    Calls Try.prog 49 #[.slice ap 16 cp, .slice acs ncs ccs, .slice aold 16 cold, .int .i64 r, .int .i64 0, .slice aund nund cund, .slice aput 16 cput, .int .i64 16, .func (.func 43) #[] #[.pointer (some ⟨A, 0, none⟩)]] w
      (SeePost A (N + (lrStrip (restP cs) first last 0 P put 0).length) (insAll (lrStrip (restP cs) first last 0 P put 0) L) w) := by
  have hD : lrStrip (restP cs) first last 0 P put 0 = [P] := by
    rw [lrStrip_zero hp.ok rfl]
    unfold restP
    have : cs.tail = [] := List.eq_nil_of_length_eq_zero (by rw [List.length_tail, hp.lcs]; omega)
    rw [this, lrAll]
  have hbig := hp.big
  rw [hD] at hbig ⊢
  rw [insAll_one]
  have hrk := hp.rk
  have z0 : ((r : Int) == 16) = true := by simp; omega
  have z1 : ((ncs : Int) == 1) = true := by simp; omega
  have HC := Lib.hid (see_any A N L al n c ap cp P w hp.st hbig hp.rP.rd hp.ok.lP hp.pcp hp.A0)
  clear hD hp hrk hn hbig
  go_enter Try.func49, Try.ntmps49
  go_wp2_with fail
  refine HC.out.mono ?_
  rintro e w1 ⟨a1, n1, c1, rfl, h1, h2⟩
  have HE := Lib.hid (show SeePost A (N + 1) (insL (bare P) L) w (.returned (.tuple #[])) w1 from ⟨a1, n1, c1, rfl, h1, h2⟩)
  clear h1 h2
  go_wp2
  go_end0
  exact HE.out

set_option maxRecDepth 100000 in
set_option maxHeartbeats 6400000 in
theorem layer_on (M : Nat) (ih : LayIh M) (A : Nat) (c0 c1 : Int) (rest : List Int) (first : Bool) (r N : Nat) (L : List (List Int × Int)) (P old put last : List Int) (ap acs aold aund aput al : Option Addr) (cp ncs ccs cold nund cund cput n c : Nat) (w : World)
    (hM : ncs * 18 < M + 1) (hcc : ncs ≤ ccs) (hp : LayPre A (c0 :: c1 :: rest) first 0 r N L P old put last 0 ap acs aold aund aput al cp ncs nund cund cput n c w) :
    Calls Try.prog 49 #[.slice ap 16 cp, .slice acs ncs ccs, .slice aold 16 cold, .int .i64 r, .int .i64 0, .slice aund nund cund, .slice aput 16 cput, .int .i64 16, .func (.func 43) #[] #[.pointer (some ⟨A, 0, none⟩)]] w
      (SeePost A (N + (lrStrip (restP (c0 :: c1 :: rest)) first last 0 P put 0).length) (insAll (lrStrip (restP (c0 :: c1 :: rest)) first last 0 P put 0) L) w) := by
  have hD : lrStrip (restP (c0 :: c1 :: rest)) first last 0 P put 0 = lrStrip (restP (c1 :: rest)) false put 16 P zeros16 c1 := by rw [lrStrip_zero hp.ok rfl, restP_cons]
  obtain ⟨D, hDD⟩ : ∃ D, lrStrip (restP (c1 :: rest)) false put 16 P zeros16 c1 = D := ⟨_, rfl⟩
  rw [hD, hDD]
  have hlcs := hp.lcs
  simp only [List.length_cons] at hlcs
  have hrk := hp.rk
  have z0 : ((r : Int) == 16) = true := by simp; omega
  have z1 : ((ncs : Int) == 1) = false := by rw [beq_eq_false_iff_ne]; omega
  obtain ⟨bc, oc, hac, hcc1⟩ := hp.rcs.rd.at (k := 1) (by simp)
  subst hac
  have hcell := hcc1 1 c1 rfl
  have hbz : bc < w.heap.size := World.block_lt_of_cell? _ _ hcell
  have hAw := hp.st.box.lt
  have hmk := mk16
  obtain ⟨cz, hcz⟩ : ∃ cz, madeCells #[.int .i64 0] 16 = cz := ⟨_, rfl⟩
  have hmz := fun w => made16 w
  rw [hcz] at hmz
  simp only [hcz] at hmk
  have Hmz := Lib.hid hmz
  have hrow0 : OS (w.alloc (.cells cz 3)) w.heap.size (some ⟨w.heap.size, 0, none⟩) 16 16 (prefTo put 0) := by rw [prefTo_zero]; exact hmz w
  have hb0 : Below w.heap.size w (w.alloc (.cells cz 3)) := (Below.refl _ _).alloc (Nat.le_refl _) _
  have Hrow0 := Lib.hid hrow0
  have Hp := Lib.hid hp
  have HM := Lib.hid hM
  have Hih := Lib.hid ih
  have HD := Lib.hid hDD
  have Hlput := Lib.hid hp.ok.lput
  have HlP := Lib.hid hp.ok.lP
  have Hput0 := Lib.hid hp.ok.put0
  have Hcell := Lib.hid (show ∀ w2, Below w.heap.size w w2 → w2.cell? ⟨bc, oc + 1, none⟩ = some (.int .i64 c1) from fun w2 hb2 => by rw [hb2.cell (p := ⟨bc, oc + 1, none⟩) hbz]; exact hcell)
  clear hp hM ih hDD hD hcc1 hcell hcz hmz hrow0
  go_enter Try.func49, Try.ntmps49
  go_wp2
  go_loopw [19, 43] (fun tv kv wr => Hid (∃ i : Nat, i ≤ 16 ∧ kv = .int .i64 i ∧ tv = .int .i64 (sumI (put.take i)) ∧ OS wr w.heap.size (some ⟨w.heap.size, 0, none⟩) 16 16 (prefTo put i)) ∧ Below w.heap.size w wr) (fun _ kv _ => 16 - (intOf kv).toNat)
  case atStart => exact ⟨⟨0, Nat.zero_le _, rfl, rfl, Hrow0.out⟩, hb0⟩
  case round =>
    clear Hrow0 hb0
    obtain ⟨HV, hB⟩ := hrel
    obtain ⟨wo, rfl⟩ : ∃ wo : World, wo = wr := ⟨_, rfl⟩
    obtain ⟨i, hi, rfl, rfl, hrow⟩ := HV.out
    clear HV
    have hbs := hB.size
    by_cases hlt : i < 16
    · obtain ⟨x, hx⟩ := some_at Hlput.out hlt
      obtain ⟨bp, op, hap, hcp⟩ := (Hp.out.rput.below hB).rd.at (k := i) (by rw [Hlput.out]; exact hlt)
      have hcx := hcp i x hx
      have hxb := Hput0.out i
      rw [getD_of hx] at hxb
      have hsb := sum16_bd Hlput.out Hput0.out i
      have hst := sumI_take hx
      have hpt := prefTo_set put i
      obtain ⟨S, hS⟩ : ∃ S, sumI (put.take i) = S := ⟨_, rfl⟩
      rw [hS] at hst hsb hpt ⊢
      obtain ⟨g, hg0, hBg, ⟨y, hy, hcy⟩, hfy⟩ := OI.cons hrow hlt
      obtain rfl : w.heap.size = g := by simpa using hg0
      have hst2 := hrow.store i S
      rw [hpt] at hst2
      have hb2 := hB.grown hst2.2 hbs (by intro q hq; obtain rfl := Option.some.inj hq; exact Nat.le_refl _)
      have Hst2 := Lib.hid hst2.1
      have Hst := Lib.hid hst
      have z2 : (i : Int) < 16 := by omega
      have z3 : (0 : Int) ≤ (i : Int) := by omega
      have z4 : IntKind.i64.wrap (S + x) = S + x := IntWalk.i64_in _ (by omega)
      clear hx hcp hst hS hpt hst2 hy hrow
      subst hap
      go_wp2
      go_roundw
      case rel => exact ⟨⟨i + 1, by omega, by go_num, by rw [Hst.out], Hst2.out⟩, hb2⟩
      case measure => simp [intOf]; omega
    · obtain rfl : i = 16 := by omega
      have hne : w.heap.size ≠ A := by omega
      have HU := Lib.hid (show ∀ w2, Below wo.heap.size wo w2 → RT A w2 (some ⟨w.heap.size, 0, none⟩) (prefs put) from fun w2 hb => (RT.of_os (A := A) hrow (by intro q hq; obtain rfl : w.heap.size = q := (by simpa [Value.ownBlock] using hq); exact hne)).below hb)
      have HPr := Lib.hid (show ∀ w2, Below wo.heap.size wo w2 → RI w2 ap P from fun w2 hb => ((Hp.out.rP.below hB).below hb).rd)
      have HBo := Lib.hid (show ∀ w2, Below wo.heap.size wo w2 → Below w.heap.size w w2 from fun w2 hb => hB.trans (hb.mono hbs))
      have S_of := Lib.hid (show ∀ w2, Below wo.heap.size wo w2 → w2.cell? ⟨bc, oc + 1, none⟩ = some (.int .i64 c1) from fun w2 hb => Hcell.out _ (HBo.out _ hb))
      have e0 : Below wo.heap.size wo wo := Below.refl _ _
      have e1 : Below wo.heap.size wo wo.drew := Drew.below ⟨1, rfl⟩ _
      have e2 : Below wo.heap.size wo (wo.drew.alloc (.cells cz 3)) := e1.alloc (Nat.le_refl _) _
      have e3 : Below wo.heap.size wo (wo.alloc (.cells cz 3)).drew := ((Below.refl _ _).alloc (Nat.le_refl _) _).trans (Drew.below ⟨1, rfl⟩ _)
      have hAo : A < wo.heap.size := by omega
      have Hz3 := Lib.hid (show RT A (wo.alloc (.cells cz 3)).drew (some ⟨wo.heap.size, 0, none⟩) zeros16 from (RT.of_os (A := A) (Hmz.out wo) (by intro q hq; obtain rfl : wo.heap.size = q := (by simpa [Value.ownBlock] using hq); exact Nat.ne_of_gt hAo)).below (Drew.below ⟨1, rfl⟩ _))
      have z2 : ¬ (ccs = 1) := by omega
      have z3 : (1 : Int) ≤ (ncs : Int) := by omega
      have z5 : (1 : Int) < (ncs : Int) := by omega
      have z6 : 1 ≤ ncs := by omega
      clear hrow Hcell
      go_wp2
      go_region_held3 (fun w' => w'.cell? ⟨bc, oc + 1, none⟩ = some (.int .i64 c1)) ((first | exact S_of.out _ e0 | exact S_of.out _ e1 | exact S_of.out _ e2 | exact S_of.out _ e3 | exact Hp.out.rcs.keep (k := 1) (x := c1) rfl _ HL6.out | exact S_of.out _ hB5 | exact S_of.out _ (Below.alloc hB5 (Below.size hB5) _)))
        ((first
          | (go_at_call 34; refine (cloneI_any _ _ _ P _ (HPr.out _ (by first | exact e1 | exact e2 | exact e3)) HlP.out (by omega)).mono ?_; rintro e w5 ⟨a5, c5, rfl, ho5, hb5⟩; have hB5 : Below wo.heap.size wo w5 := (by first | exact e1.trans (hb5.mono e1.size) | exact e2.trans (hb5.mono e2.size) | exact e3.trans (hb5.mono e3.size)); have hn5 := hb5.size; have Ho5 := Lib.hid (RT.of_os (A := A) ho5.1 (by intro q hq e; have := ho5.1.lo q hq; have := e1.size; have := e2.size; have := e3.size; omega)); have hcap5 := ho5.1.lt; clear ho5)
          | (go_at_call 49; refine (Hih.out A (c1 :: rest) false 16 0 N L P P zeros16 put c1 ap _ _ _ _ al cp (ncs - 1) (ccs - 1) c5 16 16 16 n c _ (by have := HM.out; omega) (by omega) (LayPre.onto Hp.out (HBo.out _ hB5) (HU.out _ hB5) Ho5.out (Hz3.out.below hb5))).mono ?_; rintro e w6 ⟨a6, n6, c6, rfl, h6a, h6b⟩; have HL6 := Lib.hid ((Lay.of_below (A := A) (HBo.out _ hB5)).trans h6b); have H6 := Lib.hid h6a; clear h6a h6b)
          | (go_at_call 49; refine (Hih.out A (c1 :: rest) false 16 0 N L P P zeros16 put c1 ap _ _ _ _ al cp (ncs - 1) (ccs - 1) c5 16 16 16 n c _ (by have := HM.out; omega) (by omega) (LayPre.onto Hp.out (HBo.out _ (Below.alloc hB5 (Below.size hB5) _)) (HU.out _ (Below.alloc hB5 (Below.size hB5) _)) (Ho5.out.below ((Below.refl _ _).alloc (Nat.le_refl _) _)) (RT.of_os (A := A) (Hmz.out w5) (by intro q hq; obtain rfl : w5.heap.size = q := (by simpa [Value.ownBlock] using hq); have := hB5.size; omega)))).mono ?_; rintro e w6 ⟨a6, n6, c6, rfl, h6a, h6b⟩; have HL6 := Lib.hid ((Lay.of_below (A := A) (HBo.out _ (Below.alloc hB5 (Below.size hB5) _))).trans h6b); have H6 := Lib.hid h6a; clear h6a h6b)))
      all_goals
        rw [HD.out] at H6
        have HE := Lib.hid (show SeePost A (N + D.length) (insAll D L) w (.returned (.tuple #[])) w6 from ⟨a6, n6, c6, rfl, H6.out, HL6.out⟩)
        clear H6 HL6 S_of HBo HU HPr
        go_wp2
        go_end0
        exact HE.out
theorem layer_all (M : Nat) (ih : LayIh M) : LayIh (M + 1) := by
  intro A cs first k r N L P old put last left ap acs aold aund aput al cp ncs ccs cold nund cund cput n c w hM hcc hp
  rcases k with _ | k
  · have h0 := hp.ok.left0
    by_cases hl : 0 < left
    · exact layer_out A cs first r N L P old put last left ap acs aold aund aput al cp ncs ccs cold nund cund cput n c w hp hl
    · obtain rfl : left = 0 := by omega
      by_cases hn : ncs = 1
      · exact layer_see A cs first r N L P old put last ap acs aold aund aput al cp ncs ccs cold nund cund cput n c w hp hn
      · have h1 := hp.lcs
        have h2 := hp.ncs1
        rcases cs with _ | ⟨c0, _ | ⟨c1, rest⟩⟩
        · simp at h1; omega
        · simp at h1; omega
        · exact layer_on M ih A c0 c1 rest first r N L P old put last ap acs aold aund aput al cp ncs ccs cold nund cund cput n c w (by omega) hcc hp
  · cases hf : first <;> rcases Nat.eq_zero_or_pos r with hr0 | hr0
    · subst hf; exact layer_10 M ih A cs false k r N L P old put last left ap acs aold aund aput al cp ncs ccs cold nund cund cput n c w hM hcc hp rfl hr0
    · subst hf; exact layer_11 M ih A cs false k r N L P old put last left ap acs aold aund aput al cp ncs ccs cold nund cund cput n c w hM hcc hp rfl hr0
    · subst hf; exact layer_00 M ih A cs true k r N L P old put last left ap acs aold aund aput al cp ncs ccs cold nund cund cput n c w hM hcc hp rfl hr0
    · subst hf; exact layer_01 M ih A cs true k r N L P old put last left ap acs aold aund aput al cp ncs ccs cold nund cund cput n c w hM hcc hp rfl hr0
theorem layer_any : ∀ M, LayIh M
  | 0 => fun _ _ _ _ _ _ _ _ _ _ _ _ _ _ _ _ _ _ _ _ _ _ _ _ _ _ _ _ h => absurd h (Nat.not_lt_zero _)
  | M + 1 => layer_all M (layer_any M)
end Go.Proofs.Ytpjkhkoecgjjbaa

namespace Go.Proofs.Ytpjkhkoecgjjbaa
open Go.RowKit

set_option maxHeartbeats 400000 in
theorem l4At_any (a : Option Addr) (n c : Nat) (xs : List Int) (i : Nat) (w : World) (hr : RI w a xs) (hn : xs.length = n) (_hb : n ≤ 17592186044416) (_hi : i ≤ 17592186044416) :
    Calls Try.prog 58 #[.slice a n c, .int .i64 i] w fun e w' => e = .returned (.int .i64 (xs.getD i 0)) ∧ w = w' := by
  have Hn := Lib.hid hn; clear hn
  by_cases hlt : i < n
  · obtain ⟨b, off, rfl, hcell⟩ := hr.at (k := i) (by rw [Hn.out]; exact hlt)
    obtain ⟨x, hx⟩ := some_at Hn.out hlt
    have hc := hcell i x hx
    have Hx := Lib.hid hx; clear hx
    clear hcell
    go_enter Try.func58, Try.ntmps58
    go_wp2
    go_ret
    exact ⟨ret_int (getD_of Hx.out).symm, rfl⟩
  · go_enter Try.func58, Try.ntmps58
    go_wp2
    go_ret
    exact ⟨ret_int (by rw [List.getD_eq_getElem?_getD, List.getElem?_eq_none (by rw [Hn.out]; omega)]; rfl), rfl⟩
theorem l4At_is (a : Option Addr) (n c : Nat) (xs : List Int) (i : Nat) (I x : Int) (w : World) (hr : RI w a xs) (hn : xs.length = n) (hb : n ≤ 17592186044416) (hi : i ≤ 17592186044416) (hI : I = (i : Int)) (hx : xs.getD i 0 = x) :
    Calls Try.prog 58 #[.slice a n c, .int .i64 I] w fun e w' => e = .returned (.int .i64 x) ∧ w = w' := by
  subst hI hx; exact l4At_any a n c xs i w hr hn hb hi
end Go.Proofs.Ytpjkhkoecgjjbaa

namespace Go.Proofs.Ytpjkhkoecgjjbaa
open Go.RowKit

set_option maxHeartbeats 400000 in
theorem l1Same_any (a b : Option Addr) (n c m d : Nat) (xs ys : List Int) (w : World) (hr : RI w a xs) (hs : RI w b ys) (hn : xs.length = n) (hm : ys.length = m) (hb : n ≤ 17592186044416) :
    Calls Try.prog 38 #[.slice a n c, .slice b m d] w fun e w' => e = .returned (.bool (decide (xs = ys))) ∧ Drew w w' := by
  have Hn := Lib.hid hn; clear hn
  have Hm := Lib.hid hm; clear hm
  by_cases hnm : n = m
  · subst hnm
    go_enter Try.func38, Try.ntmps38
    go_wp2
    go_loopw [5] (fun i wr => ∃ k : Nat, k ≤ n ∧ i = .int .i64 k ∧ Hid (∀ j, j < k → xs[j]? = ys[j]?) ∧ Drew w wr) (fun i _ => n - (intOf i).toNat)
    case atStart => exact ⟨0, Nat.zero_le _, rfl, by intro j hj; omega, Drew.refl _⟩
    case round =>
      obtain ⟨k, hk, rfl, HA, hd⟩ := hrel
      by_cases hlt : k < n
      · obtain ⟨b, off, rfl, hcell⟩ := (hr.drew hd).at (k := k) (by rw [Hn.out]; exact hlt)
        obtain ⟨b2, off2, rfl, hcell2⟩ := (hs.drew hd).at (k := k) (by rw [Hm.out]; exact hlt)
        obtain ⟨x, hx⟩ : ∃ x, xs[k]? = some x := ⟨xs[k]'(by rw [Hn.out]; exact hlt), by simp⟩
        obtain ⟨y, hy⟩ : ∃ y, ys[k]? = some y := ⟨ys[k]'(by rw [Hm.out]; exact hlt), by simp⟩
        have hc := hcell k x hx
        have hc2 := hcell2 k y hy
        have Hx := Lib.hid hx; clear hx
        have Hy := Lib.hid hy; clear hy
        clear hcell hcell2
        have hltI : (k : Int) < (n : Int) := by omega
        by_cases h1 : x = y
        · subst h1
          go_wp2
          go_quiet (fail)
          go_wp2
          go_roundw
          case rel => exact ⟨k + 1, by omega, by go_num, by
                intro j hj
                rcases Nat.lt_or_ge j k with h | h
                · exact HA.out j h
                · obtain rfl : j = k := by omega
                  rw [Hx.out, Hy.out], hd.trans (Drew.drewN _ _)⟩
          case measure => simp [intOf]; omega
        · have hne : (x != y) = true := by simpa using h1
          have H1 := Lib.hid h1; clear h1
          go_wp2
          go_quiet (fail)
          go_wp2
          go_ret
          exact ⟨ret_bool (ne_of_at Hx.out Hy.out H1.out).symm, hd.trans (Drew.drewN _ _)⟩
      · go_wp2
        go_ret
        exact ⟨ret_bool (eq_of_all (Hn.out.trans Hm.out.symm) (by intro j hj; exact HA.out j (by rw [Hn.out] at hj; omega))).symm, hd⟩
  · go_enter Try.func38, Try.ntmps38
    have hne : ((n : Int) != (m : Int)) = true := by rw [bne_iff_ne]; omega
    go_wp2
    go_ret
    exact ⟨ret_bool (by symm; rw [decide_eq_false_iff_not]; rintro rfl; exact hnm (Hn.out.symm.trans Hm.out)), Drew.refl _⟩

set_option maxHeartbeats 400000 in
theorem slEqual_any (a b : Option Addr) (n c m d : Nat) (xs ys : List Int) (w : World) (hr : RI w a xs) (hs : RI w b ys) (hn : xs.length = n) (hm : ys.length = m) (hb : n ≤ 17592186044416) :
    Calls Try.prog 40 #[.slice a n c, .slice b m d] w fun e w' => e = .returned (.bool (decide (xs = ys))) ∧ Drew w w' := by
  have Hn := Lib.hid hn; clear hn
  have Hm := Lib.hid hm; clear hm
  by_cases hnm : n = m
  · subst hnm
    go_enter Try.func40, Try.ntmps40
    go_wp2
    go_loopw [13] (fun i wr => ∃ k : Nat, k ≤ n ∧ i = .int .i64 k ∧ Hid (∀ j, j < k → xs[j]? = ys[j]?) ∧ Drew w wr) (fun i _ => n - (intOf i).toNat)
    case atStart => exact ⟨0, Nat.zero_le _, rfl, by intro j hj; omega, Drew.refl _⟩
    case round =>
      obtain ⟨k, hk, rfl, HA, hd⟩ := hrel
      by_cases hlt : k < n
      · obtain ⟨b, off, rfl, hcell⟩ := (hr.drew hd).at (k := k) (by rw [Hn.out]; exact hlt)
        obtain ⟨b2, off2, rfl, hcell2⟩ := (hs.drew hd).at (k := k) (by rw [Hm.out]; exact hlt)
        obtain ⟨x, hx⟩ : ∃ x, xs[k]? = some x := ⟨xs[k]'(by rw [Hn.out]; exact hlt), by simp⟩
        obtain ⟨y, hy⟩ : ∃ y, ys[k]? = some y := ⟨ys[k]'(by rw [Hm.out]; exact hlt), by simp⟩
        have hc := hcell k x hx
        have hc2 := hcell2 k y hy
        have Hx := Lib.hid hx; clear hx
        have Hy := Lib.hid hy; clear hy
        clear hcell hcell2
        have hltI : (k : Int) < (n : Int) := by omega
        by_cases h1 : x = y
        · subst h1
          go_wp2
          go_quiet (fail)
          go_wp2
          go_roundw
          case rel => exact ⟨k + 1, by omega, by go_num, by
                intro j hj
                rcases Nat.lt_or_ge j k with h | h
                · exact HA.out j h
                · obtain rfl : j = k := by omega
                  rw [Hx.out, Hy.out], hd.trans (Drew.drewN _ _)⟩
          case measure => simp [intOf]; omega
        · have hne : (x != y) = true := by simpa using h1
          have H1 := Lib.hid h1; clear h1
          go_wp2
          go_quiet (fail)
          go_wp2
          go_ret
          exact ⟨ret_bool (ne_of_at Hx.out Hy.out H1.out).symm, hd.trans (Drew.drewN _ _)⟩
      · go_wp2
        go_ret
        exact ⟨ret_bool (eq_of_all (Hn.out.trans Hm.out.symm) (by intro j hj; exact HA.out j (by rw [Hn.out] at hj; omega))).symm, hd⟩
  · go_enter Try.func40, Try.ntmps40
    have hne : ((n : Int) != (m : Int)) = true := by rw [bne_iff_ne]; omega
    go_wp2
    go_ret
    exact ⟨ret_bool (by symm; rw [decide_eq_false_iff_not]; rintro rfl; exact hnm (Hn.out.symm.trans Hm.out)), Drew.refl _⟩
end Go.Proofs.Ytpjkhkoecgjjbaa

namespace Go.Proofs.Ytpjkhkoecgjjbaa
open Go.RowKit

/-- what has been put out after i -/
def insTo (v : List Int) (xs : List (List Int × Int)) (i : Nat) : Bool → List (List Int × Int)
  | false => xs.take i
  | true => match cntAt v xs with
    | some y => xs.take (insAt v xs) ++ (v, y + 1) :: (xs.take i).drop (insAt v xs + 1)
    | none => xs.take (insAt v xs) ++ (v, 1) :: (xs.take i).drop (insAt v xs)
theorem insTo_next {v : List Int} {xs : List (List Int × Int)} {i : Nat} {p : List Int × Int} (hp : xs[i]? = some p) {d : Bool} (hd : d = true → insAt v xs < i ∨ (cntAt v xs = none ∧ insAt v xs = i)) : insTo v xs i d ++ [p] = insTo v xs (i + 1) d := by
  have hl := lt_of_some hp
  cases d with
  | false => show xs.take i ++ [p] = _; rw [← take_at hp]; rfl
  | true =>
    have h := hd rfl
    unfold insTo
    simp only
    cases hc : cntAt v xs with
    | none =>
      simp only
      rw [take_at hp, List.drop_append_of_le_length (by rw [List.length_take]; omega)]
      simp
    | some y =>
      simp only
      rcases h with h | ⟨h, _⟩
      · rw [take_at hp, List.drop_append_of_le_length (by rw [List.length_take]; omega)]
        simp
      · rw [hc] at h; cases h
theorem insTo_put {v : List Int} {xs : List (List Int × Int)} (h : cntAt v xs = none) : insTo v xs (insAt v xs) false ++ [(v, 1)] = insTo v xs (insAt v xs) true := by
  unfold insTo
  simp only [h]
  rw [List.drop_of_length_le (by rw [List.length_take]; omega)]
theorem insTo_more {v : List Int} {xs : List (List Int × Int)} {y : Int} (h : cntAt v xs = some y) : insTo v xs (insAt v xs) false ++ [(v, y + 1)] = insTo v xs (insAt v xs + 1) true := by
  unfold insTo
  simp only [h]
  rw [List.drop_of_length_le (by rw [List.length_take]; omega)]
theorem set_take_drop {α : Type} {xs : List α} {j : Nat} (x : α) (h : j < xs.length) : xs.set j x = xs.take j ++ x :: xs.drop (j + 1) := by
  rw [List.set_eq_take_append_cons_drop, if_pos h]
theorem insTo_end {v : List Int} {xs : List (List Int × Int)} : insTo v xs xs.length true = insL v xs := by
  unfold insTo insL
  simp only [List.take_length]
  cases hc : cntAt v xs with
  | none => rfl
  | some y => simp only; rw [set_take_drop _ (lt_of_some (cntAt_some hc))]
theorem insTo_len (v : List Int) (xs : List (List Int × Int)) (i : Nat) (d : Bool) : (insTo v xs i d).length ≤ xs.length + 1 := by
  have := insAt_le v xs
  cases d with
  | false => show (xs.take i).length ≤ _; rw [List.length_take]; omega
  | true =>
    unfold insTo
    simp only
    split <;> (rw [List.length_append, List.length_cons, List.length_drop, List.length_take, List.length_take]; omega)

set_option maxRecDepth 100000 in
set_option maxHeartbeats 6400000 in
theorem l4Add_any (a : Option Addr) (n c : Nat) (xs : List (List Int × Int)) (b : Option Addr) (m d : Nat) (v : List Int) (w : World) (hr : RP w a xs) (hn : xs.length = n) (hb : n ≤ 4294967296) (hsh : ∀ p ∈ xs, 1 ≤ p.2 ∧ p.2 ≤ (4294967296 : Int) ∧ p.1.length ≤ 16)
    (hrp : RI w b v) (hm : v.length = m) (hmb : m ≤ 16) :
    Calls Try.prog 50 #[.slice a n c, .slice b m d, .int .i64 1] w fun e w' => ∃ a' n' c', e = .returned (.slice a' n' c') ∧ KN w' w.heap.size w'.heap.size a' n' c' (insL v xs) ∧ Below w.heap.size w w' := by
  have Hn := Lib.hid hn
  have Hm := Lib.hid hm
  have Hsh := Lib.hid hsh
  have Hins := Lib.hid (insAt_le v xs)
  have Hlen := Lib.hid (fun i d => insTo_len v xs i d)
  rw [hn] at Hins Hlen
  obtain ⟨j, hj⟩ : ∃ j, insAt v xs = j := ⟨_, rfl⟩
  have HJ := Lib.hid hj
  have hjn : j ≤ n := by have := Hins.out; rw [hj] at this; exact this
  have hBa : Below w.heap.size w (w.alloc (.cells #[] 50)) := (Below.refl _ _).alloc (Nat.le_refl _) _
  have HK0 := Lib.hid (KN.made w)
  clear hn hm hsh Hins hj
  go_enter Try.func50, Try.ntmps50
  go_wp2
  go_loopw [7, 8, 9] (fun ov dv iv wr => Hid (∃ (i : Nat) (d : Bool) (a1 : Option Addr) (m1 c1 : Nat), iv = .int .i64 i ∧ i ≤ n ∧ dv = .bool d ∧ ov = .slice a1 m1 c1 ∧ KN wr w.heap.size wr.heap.size a1 m1 c1 (insTo v xs i d) ∧ (d = false → i ≤ j) ∧ (d = true → j < i)) ∧ Below w.heap.size w wr) (fun _ _ iv _ => n - (intOf iv).toNat)
  case atStart => exact ⟨⟨0, false, _, _, _, rfl, Nat.zero_le _, rfl, rfl, HK0.out, fun _ => Nat.zero_le _, fun h => by cases h⟩, hBa⟩
  case round =>
    clear HK0 hBa
    obtain ⟨HV, hB⟩ := hrel
    obtain ⟨wo, rfl⟩ : ∃ wo : World, wo = wr := ⟨_, rfl⟩
    obtain ⟨i, dd, a1, m1, c1, rfl, hi, rfl, rfl, hK, hdf, hdt⟩ := HV.out
    clear HV
    have hbs := hB.size
    have hm1 : m1 ≤ n + 1 := by
      have h1 := hK.len
      have := Hlen.out i dd
      omega
    by_cases hlt : i < n
    · obtain ⟨s, y, hx1⟩ := part_at Hn.out hlt
      obtain ⟨bb, off, rfl, hcell⟩ := hr.at (k := i) (by rw [Hn.out]; exact hlt)
      obtain ⟨a2, c2, p1, p2, hri, hcap⟩ := hcell i _ hx1
      simp only at p1 p2 hri hcap
      obtain ⟨hy1, hy2, hsl⟩ := Hsh.out (s, y) (List.mem_of_getElem? hx1)
      simp only at hy1 hy2 hsl
      obtain ⟨sl, hl⟩ : ∃ sl, s.length = sl := ⟨_, rfl⟩
      rw [hl] at p1 hcap hsl
      have Hl := Lib.hid hl
      have hbz : bb < w.heap.size := World.block_lt_of_cell? _ _ p1
      have S_of : ∀ w2, Below w.heap.size w w2 → w2.cell? ⟨bb, off + i * 2, none⟩ = some (.slice a2 sl c2) ∧ w2.cell? ⟨bb, off + i * 2 + 1, none⟩ = some (.int .i64 y) := by
        intro w2 hb2
        exact ⟨by rw [hb2.cell (p := ⟨bb, off + i * 2, none⟩) hbz]; exact p1, by rw [hb2.cell (p := ⟨bb, off + i * 2 + 1, none⟩) hbz]; exact p2⟩
      have HR := Lib.hid (fun w2 (h : Below w.heap.size w w2) => hri.below h)
      have HRv := Lib.hid (fun w2 (h : Below w.heap.size w w2) => hrp.below h)
      have q1 : (i : Int) < (n : Int) := by omega
      have Hx := Lib.hid hx1
      have y1 := (S_of wo hB).1
      have y2 := (S_of wo hB).2
      clear hcell hx1 hl p1 p2 hri
      cases dd with
      | true =>
        have hdt' := hdt rfl
        have HN := Lib.hid (insTo_next (v := v) Hx.out (d := true) (fun _ => by have := HJ.out; exact .inl (by omega)))
        have HKd := Lib.hid (hK.below (Drew.below (Drew.drewN wo 1) _))
        have d1 : Below w.heap.size w wo.drew := hB.trans (Drew.below ⟨1, rfl⟩ _)
        clear hK hdf hdt y1 y2
        go_wp2
        go_region_held3 (fun w' => w'.cell? ⟨bb, off + i * 2, none⟩ = some (.slice a2 sl c2) ∧ w'.cell? ⟨bb, off + i * 2 + 1, none⟩ = some (.int .i64 y)) ((first | exact S_of _ hB | exact S_of _ d1 | exact S_of _ hB5 | exact S_of _ (Below.alloc hB5 (Below.size hB5) _) | exact S_of _ ‹_›))
          ((first | (go_at_call 41; refine (l1Ints_any _ _ _ s _ (HR.out _ (by first | exact hB | exact d1)) Hl.out (by omega)).mono ?_; rintro e w5 ⟨a5, c5, rfl, ho5, hb5⟩; have hB5 := d1.trans (hb5.mono (Below.size d1)); have HK5 := Lib.hid (KN.below HKd.out hb5); have Ho5 := Lib.hid ho5; have hs5 := hb5.size; clear ho5 hb5) | (refine step_pushN (by rfl) (by rfl) _ _ (by rfl) HK5.out (by rfl) Ho5.out (Below.size d1) (by rfl) (by omega) (Below.size hB5) hs5 (Nat.le_refl _) ?_; intro a6 c6 w6 ho6 hg6; have hB6 := below_grown (v := .slice a1 m1 c1) hB5 hg6 (Below.size hB5) HK5.out.lo)))
        rw [HN.out] at ho6
        have HF := Lib.hid ho6
        clear ho6 hg6 S_of d1 hB5 HKd HK5 Ho5
        go_wp2
        go_roundw
        case rel => exact ⟨⟨i + 1, true, _, _, _, by go_num, by omega, rfl, rfl, HF.out, fun h => (by cases h), fun _ => (by omega)⟩, hB6⟩
        case measure => simp [intOf]; omega
      | false =>
        have hdf' := hdf rfl
        by_cases hij : i < j
        · have Hless := Lib.hid (show less s v = true from insAt_less (xs := xs) (i := i) (by rw [HJ.out]; exact hij) Hx.out)
          have HN := Lib.hid (insTo_next (v := v) Hx.out (d := false) (fun h => by cases h))
          have HK1 := Lib.hid hK
          clear hK hdf hdt
          go_wp2_with fail
          refine (is (l1Less_any _ _ _ _ _ _ s v _ (HR.out _ hB) (HRv.out _ hB) Hl.out Hm.out (by omega) (by omega)) Hless.out).mono ?_
          rintro e w2 ⟨rfl, hd2⟩
          have hBb := hB.trans (hd2.below _)
          have HKd := Lib.hid ((HK1.out.below (hd2.below _)).below (Drew.below (Drew.drewN w2 1) _))
          have hz2 := (hd2.below wo.heap.size).size
          have d1 : Below w.heap.size w w2.drew := hBb.trans (Drew.below ⟨1, rfl⟩ _)
          have hbs2 := hBb.size
          clear HK1 hd2 y1 y2
          go_wp2
          go_region_held3 (fun w' => w'.cell? ⟨bb, off + i * 2, none⟩ = some (.slice a2 sl c2) ∧ w'.cell? ⟨bb, off + i * 2 + 1, none⟩ = some (.int .i64 y)) ((first | exact S_of _ hBb | exact S_of _ d1 | exact S_of _ hB5 | exact S_of _ (Below.alloc hB5 (Below.size hB5) _) | exact S_of _ ‹_›))
            ((first | (go_at_call 41; refine (l1Ints_any _ _ _ s _ (HR.out _ (by first | exact hBb | exact d1)) Hl.out (by omega)).mono ?_; rintro e w5 ⟨a5, c5, rfl, ho5, hb5⟩; have hB5 := d1.trans (hb5.mono (Below.size d1)); have HK5 := Lib.hid (KN.below HKd.out hb5); have Ho5 := Lib.hid ho5; have hs5 := hb5.size; clear ho5 hb5) | (refine step_pushN (by rfl) (by rfl) _ _ (by rfl) HK5.out (by rfl) Ho5.out (Below.size d1) (by rfl) (by omega) (Below.size hB5) (Nat.le_trans hz2 hs5) (Nat.le_refl _) ?_; intro a6 c6 w6 ho6 hg6; have hB6 := below_grown (v := .slice a1 m1 c1) hB5 hg6 (Below.size hB5) HK5.out.lo)))
          rw [HN.out] at ho6
          have HF := Lib.hid ho6
          clear ho6 hg6 S_of d1 hB5 HKd HK5 Ho5
          go_wp2
          go_roundw
          case rel => exact ⟨⟨i + 1, false, _, _, _, by go_num, by omega, rfl, rfl, HF.out, fun _ => (by omega), fun h => (by cases h)⟩, hB6⟩
          case measure => simp [intOf]; omega
        · obtain rfl : i = j := by omega
          have Hless := Lib.hid (show less s v = false from insAt_stop (xs := xs) (by rw [HJ.out]; exact Hx.out))
          have HK1 := Lib.hid hK
          clear hK hdf hdt
          cases hcnt : cntAt v xs with
          | none =>
            have Hns := Lib.hid (show decide (s = v) = false by
              rw [decide_eq_false_iff_not]; exact cntAt_none hcnt (p := (s, y)) (by rw [HJ.out]; exact Hx.out))
            have HP := Lib.hid (show insTo v xs i false ++ [(v, 1)] = insTo v xs i true by rw [← HJ.out]; exact insTo_put hcnt)
            have HN := Lib.hid (insTo_next (v := v) Hx.out (d := true) (fun _ => .inr ⟨hcnt, HJ.out⟩))
            clear hcnt
            go_wp2_with fail
            refine (is (l1Less_any _ _ _ _ _ _ s v _ (HR.out _ hB) (HRv.out _ hB) Hl.out Hm.out (by omega) (by omega)) Hless.out).mono ?_
            rintro e w2 ⟨rfl, hd2⟩
            have hBb := hB.trans (hd2.below _)
            have HK2 := Lib.hid (HK1.out.below (hd2.below _))
            have y3 := (S_of w2 hBb).1
            have y4 := (S_of w2 hBb).2
            have hz2 := (hd2.below wo.heap.size).size
            clear HK1 hd2 y1 y2
            go_wp2_with fail
            refine (is (l1Same_any _ _ _ _ _ _ s v _ (HR.out _ hBb) (HRv.out _ hBb) Hl.out Hm.out (by omega)) Hns.out).mono ?_
            rintro e w3 ⟨rfl, hd3⟩
            have hBc := hBb.trans (hd3.below _)
            have HK3 := Lib.hid (HK2.out.below (hd3.below _))
            have hz3 := (hd3.below w2.heap.size).size
            have hbs3 := hBc.size
            clear HK2 hd3 y3 y4
            go_wp2_with fail
            refine (l1Ints_any _ _ _ v _ (HRv.out _ hBc) Hm.out (by omega)).mono ?_
            rintro e w8 ⟨a8, c8, rfl, ho8, hb8⟩
            have hB8 := hBc.trans (hb8.mono hbs3)
            have HK8 := Lib.hid (HK3.out.below hb8)
            have Ho8 := Lib.hid ho8
            have hs8 := hb8.size
            have hbs8 := hB8.size
            clear HK3 ho8 hb8
            go_wp2_with (first | (at_builtin; go_loud (refine wpList_pushN (by rfl) (by rfl) _ _ (by rfl) HK8.out (by rfl) Ho8.out (by omega) (by rfl) (by rfl) (by omega) hbs8 (by omega) (Nat.le_refl _) ?_)))
            intro a4 c4 w4 ho4 hg4
            rw [HP.out] at ho4
            have hBd := below_grown (v := .slice a1 m1 c1) hB8 hg4 hbs8 HK8.out.lo
            have HKd := Lib.hid (ho4.below (Drew.below (Drew.drewN w4 1) _))
            have d1 : Below w.heap.size w w4.drew := hBd.trans (Drew.below ⟨1, rfl⟩ _)
            have hbs4 := hBd.size
            clear ho4 hg4 HK8 Ho8 hBb hBc
            go_wp2
            go_region_held3 (fun w' => w'.cell? ⟨bb, off + i * 2, none⟩ = some (.slice a2 sl c2) ∧ w'.cell? ⟨bb, off + i * 2 + 1, none⟩ = some (.int .i64 y)) ((first | exact S_of _ hBd | exact S_of _ d1 | exact S_of _ hB5 | exact S_of _ (Below.alloc hB5 (Below.size hB5) _) | exact S_of _ ‹_›))
              ((first | (go_at_call 41; refine (l1Ints_any _ _ _ s _ (HR.out _ (by first | exact hBd | exact d1)) Hl.out (by omega)).mono ?_; rintro e w5 ⟨a5, c5, rfl, ho5, hb5⟩; have hB5 := d1.trans (hb5.mono (Below.size d1)); have HK5 := Lib.hid (KN.below HKd.out hb5); have Ho5 := Lib.hid ho5; have hs5 := hb5.size; clear ho5 hb5) | (refine step_pushN (by rfl) (by rfl) _ _ (by rfl) HK5.out (by rfl) Ho5.out (Below.size d1) (by rfl) (by omega) (Below.size hB5) hs5 (Nat.le_refl _) ?_; intro a6 c6 w6 ho6 hg6; have hB6 := below_grown (v := .slice a4 (m1 + 1) c4) hB5 hg6 (Below.size hB5) HK5.out.lo)))
            rw [HN.out] at ho6
            have HF := Lib.hid ho6
            clear ho6 hg6 S_of d1 hB5 HKd HK5 Ho5
            go_wp2
            go_roundw
            case rel => exact ⟨⟨i + 1, true, _, _, _, by go_num, by omega, rfl, rfl, HF.out, fun h => (by cases h), fun _ => (by omega)⟩, hB6⟩
            case measure => simp [intOf]; omega
          | some z =>
            have hsz := cntAt_some hcnt
            rw [HJ.out, Hx.out] at hsz
            obtain ⟨rfl, rfl⟩ : s = v ∧ y = z := by simpa using hsz
            have HP := Lib.hid (show insTo s xs i false ++ [(s, y + 1)] = insTo s xs (i + 1) true by rw [← HJ.out]; exact insTo_more hcnt)
            have Hns := Lib.hid (show decide (s = s) = true by simp)
            have q7 : IntKind.i64.wrap (y + 1) = y + 1 := IntWalk.i64_in _ (by omega)
            have q8 : (y + 1 != 0) = true := by simp; omega
            clear hcnt hsz
            go_wp2_with fail
            refine (is (l1Less_any _ _ _ _ _ _ s s _ (HR.out _ hB) (HRv.out _ hB) Hl.out Hm.out (by omega) (by omega)) Hless.out).mono ?_
            rintro e w2 ⟨rfl, hd2⟩
            have hBb := hB.trans (hd2.below _)
            have HK2 := Lib.hid (HK1.out.below (hd2.below _))
            have y3 := (S_of w2 hBb).1
            have y4 := (S_of w2 hBb).2
            have hz2 := (hd2.below wo.heap.size).size
            clear HK1 hd2 y1 y2
            go_wp2_with fail
            refine (is (l1Same_any _ _ _ _ _ _ s s _ (HR.out _ hBb) (HRv.out _ hBb) Hl.out Hm.out (by omega)) (by simp : _ = true)).mono ?_
            rintro e w3 ⟨rfl, hd3⟩
            have hBc := hBb.trans (hd3.below _)
            have HK3 := Lib.hid (HK2.out.below (hd3.below _))
            have hz3 := (hd3.below w2.heap.size).size
            have hbs3 := hBc.size
            have y5 := (S_of w3 hBc).1
            have y6 := (S_of w3 hBc).2
            have HKd := Lib.hid (HK3.out.below (Drew.below (Drew.drewN w3 1) _))
            have d1 : Below w.heap.size w w3.drew := hBc.trans (Drew.below ⟨1, rfl⟩ _)
            clear HK2 HK3 hd3 y3 y4 hBb
            go_wp2
            go_region_held3 (fun w' => w'.cell? ⟨bb, off + i * 2, none⟩ = some (.slice a2 sl c2) ∧ w'.cell? ⟨bb, off + i * 2 + 1, none⟩ = some (.int .i64 y)) ((first | exact S_of _ hBc | exact S_of _ d1 | exact S_of _ hB5 | exact S_of _ (Below.alloc hB5 (Below.size hB5) _) | exact S_of _ ‹_›))
              ((first | (go_at_call 41; refine (l1Ints_any _ _ _ s _ (HRv.out _ (by first | exact hBc | exact d1)) Hm.out (by omega)).mono ?_; rintro e w5 ⟨a5, c5, rfl, ho5, hb5⟩; have hB5 := d1.trans (hb5.mono (Below.size d1)); have HK5 := Lib.hid (KN.below HKd.out hb5); have Ho5 := Lib.hid ho5; have hs5 := hb5.size; clear ho5 hb5) | (refine step_pushN (by rfl) (by rfl) _ _ (by rfl) HK5.out (by rfl) Ho5.out (Below.size d1) (by rfl) (by omega) (Below.size hB5) (Nat.le_trans (Nat.le_trans hz2 hz3) hs5) (Nat.le_refl _) ?_; intro a6 c6 w6 ho6 hg6; have hB6 := below_grown (v := .slice a1 m1 c1) hB5 hg6 (Below.size hB5) HK5.out.lo)))
            rw [HP.out] at ho6
            have HF := Lib.hid ho6
            clear ho6 hg6 S_of d1 hB5 HKd HK5 Ho5
            go_wp2
            go_roundw
            case rel => exact ⟨⟨i + 1, true, _, _, _, by go_num, by omega, rfl, rfl, HF.out, fun h => (by cases h), fun _ => (by omega)⟩, hB6⟩
            case measure => simp [intOf]; omega
    · obtain rfl : i = n := by omega
      have q1 : ¬ (i : Int) < (i : Int) := by omega
      cases dd with
      | true =>
        have hfin : insTo v xs i true = insL v xs := by rw [← Hn.out]; exact insTo_end
        rw [hfin] at hK
        have HK := Lib.hid hK
        clear hK hdf hdt hfin
        go_wp2
        go_ret
        exact ⟨_, _, _, rfl, HK.out, hB⟩
      | false =>
        have hdf' := hdf rfl
        obtain rfl : i = j := by omega
        have HP := Lib.hid (show insTo v xs i false ++ [(v, 1)] = insL v xs by
          have hc : cntAt v xs = none := by
            unfold cntAt
            rw [HJ.out, List.getElem?_eq_none (by rw [Hn.out]; exact Nat.le_refl _)]
          have h1 : insTo v xs i false ++ [(v, 1)] = insTo v xs i true := by rw [← HJ.out]; exact insTo_put hc
          rw [h1, ← Hn.out]; exact insTo_end)
        have HK1 := Lib.hid hK
        have HRv := Lib.hid (fun w2 (h : Below w.heap.size w w2) => hrp.below h)
        clear hK hdf hdt
        go_wp2_with fail
        refine (l1Ints_any _ _ _ v _ (HRv.out _ hB) Hm.out (by omega)).mono ?_
        rintro e w8 ⟨a8, c8, rfl, ho8, hb8⟩
        have hB8 := hB.trans (hb8.mono hbs)
        have HK8 := Lib.hid (HK1.out.below hb8)
        have Ho8 := Lib.hid ho8
        have hs8 := hb8.size
        have hbs8 := hB8.size
        clear HK1 ho8 hb8
        go_wp2_with (first | (at_builtin; go_loud (refine wpList_pushN (by rfl) (by rfl) _ _ (by rfl) HK8.out (by rfl) Ho8.out (by omega) (by rfl) (by rfl) (by omega) hbs8 (by omega) (Nat.le_refl _) ?_)))
        intro a4 c4 w4 ho4 hg4
        rw [HP.out] at ho4
        have hBd := below_grown (v := .slice a1 m1 c1) hB8 hg4 hbs8 HK8.out.lo
        have HF := Lib.hid ho4
        clear ho4 hg4 HK8 Ho8
        go_wp2
        go_ret
        exact ⟨_, _, _, rfl, HF.out, hBd⟩
end Go.Proofs.Ytpjkhkoecgjjbaa
