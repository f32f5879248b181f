/-
  Law FnDescends: for every input the divided difference at a descent of a Schubert polynomial is that of the shorter permutation, and at all other places it is 0; more places change nothing. No condition.
-/
import Derived.Test.YtflkomgfgmephaaDescF
import Derived.Test.YtflkomgfgmephaaSwapped
import Derived.Test.YtflkomgfgmephaaLawSch
import Derived.Test.YtflkomgfgmephaaBuH3
import Derived.Deep.RegionHeld3
namespace Go.Proofs.Ytflkomgfgmephaa
open Go.RowKit

set_option maxRecDepth 100000 in
set_option maxHeartbeats 6400000 in
theorem lawDescends_walk (w : World) (a : Option Addr) (n c : Nat) (xs : List Int) (hr : RB w a xs) (hn : xs.length = n) (hb : n ≤ 9223372036854775807) (hbs : Bytes xs) :
    Calls Try.prog 3 #[.slice a n c] w fun e w' => e = .returned (.bool true) ∧ Below w.heap.size w w' := by
  have Hn := Lib.hid hn; clear hn
  have Hbs := Lib.hid hbs; clear hbs
  by_cases hbig : 1048576 < n
  · have h1 := Lib.hid (show decide (1048576 < n) = true by simpa using hbig)
    go_enter Try.func3, Try.ntmps3
    go_wp2_with fail
    refine (is (big_any _ _ _ _ hb) h1.out).mono ?_
    rintro e w1 ⟨rfl, rfl⟩
    go_wp2
    go_ret
    exact ⟨rfl, Below.refl _ _⟩
  · have h1 := Lib.hid (show decide (1048576 < n) = false by simpa using hbig)
    go_enter Try.func3, Try.ntmps3
    go_wp2_with fail
    refine (is (big_any _ _ _ _ hb) h1.out).mono ?_
    rintro e w1 ⟨rfl, rfl⟩
    go_wp2_with fail
    refine (drawTwo_any _ _ _ xs _ hr Hn.out (by omega) Hbs.out).mono ?_
    rintro e w1 ⟨m, u, v0, au, cu, av, cv, rfl, ⟨hm1, hm5⟩, hu, hv, hou, -, hB1⟩
    obtain ⟨hul, hup⟩ := perms_ok hu hm1 hm5
    have Hul := Lib.hid hul
    have Hup := Lib.hid hup
    have hru := hou.rd
    have huc := hou.1.lt
    obtain ⟨Lu, hLu⟩ : ∃ L, sumI (code u) = L := ⟨_, rfl⟩
    have hLb : 0 ≤ Lu ∧ Lu ≤ 100 := by rw [← hLu]; have := len_ok hm1 hm5 hu; exact ⟨this.1, this.2.1⟩
    have HLu := Lib.hid hLu
    have HF := Lib.hid (descFacts hm1 hm5 hu)
    clear hou hv hr h1 hbig hu hul hup hLu
    go_wp2_with fail
    refine (implSch_ok _ _ _ u _ hru Hul.out huc Hup.out HF.out.su).mono ?_
    rintro e w2 ⟨a2, n2, c2, rfl, hp2, hB2⟩
    have hru2 := hru.below hB2
    have hB2' := hB1.trans (hB2.mono hB1.size)
    have hn2 : n2 ≠ 0 := by rw [← hp2.len]; exact HF.out.some
    clear hru hB2 hB1
    go_wp2_with fail
    refine (implDegree_ok _ _ _ (SM u) Lu _ hp2 HF.out.su (by rw [← HLu.out]; exact HF.out.deg) (by omega) hn2).mono ?_
    rintro e w3 ⟨rfl, hB3⟩
    have hru3 := hru2.below hB3
    have hp3 := hp2.below hB3
    have hB3' := hB2'.trans (hB3.mono hB2'.size)
    have q1 : IntKind.i64.wrap ((m : Int) + 1) = (m : Int) + 1 := IntWalk.i64_in _ (by omega)
    clear hru2 hp2 hB3 hB2'
    go_wp2_with fail
    refine (isInt (lengthOf_any _ _ _ u _ hru3 Hul.out (by omega) huc Hup.out) HLu.out).mono ?_
    rintro e w4 ⟨rfl, hB4⟩
    have hru4 := hru3.below hB4
    have hp4 := hp3.below hB4
    have hB4' := hB3'.trans (hB4.mono hB3'.size)
    clear hru3 hp3 hB4 hB3'
    go_wp2_with fail
    refine (embed_any _ _ _ u _ _ hru4 Hul.out (by omega) Hup.out rfl).mono ?_
    rintro e w5 ⟨a5, c5, rfl, ho5, hB5⟩
    have hru5 := hru4.below hB5
    have hp5 := hp4.below hB5
    have hB5' := hB4'.trans (hB5.mono hB4'.size)
    have Ho5 := Lib.hid ho5
    have hSM := Lib.hid (show OKp (SM (grow1 u)) by rw [HF.out.emb]; exact HF.out.su)
    clear hru4 hp4 hB5 hB4' ho5
    go_wp2_with fail
    refine (schubert_law _ _ _ (grow1 u) _ Ho5.out.rd Ho5.out.len Ho5.out.1.lt HF.out.embp hSM.out).mono ?_
    rintro e w6 ⟨a6, n6, c6, rfl, hp6, hB6⟩
    rw [HF.out.emb] at hp6
    have hru6 := hru5.below hB6
    have hp56 := hp5.below hB6
    have hB6' := hB5'.trans (hB6.mono hB5'.size)
    clear hru5 hp5 hB6 hB5' Ho5
    go_wp2_with fail
    refine (terms_law _ _ _ _ _ _ (SM u) (SM u) _ hp56 hp6 (Eqv.refl _)).mono ?_
    rintro e w7 ⟨rfl, hd7⟩
    have hru7 := hru6.drew hd7
    have hp7 := hp56.below (hd7.below _)
    have hB7 := hB6'.trans (hd7.below _)
    have Hru7 := Lib.hid hru7
    have Hp7 := Lib.hid hp7
    clear hru6 hp56 hp6 hB6' hd7 hru7 hp7 q1
    go_wp2
    go_loopw [7] (fun kv wr => Hid (∃ k : Nat, kv = .int .i64 k ∧ k + 1 ≤ m) ∧ Below w7.heap.size w7 wr) (fun kv _ => m - (intOf kv).toNat)
    case atStart => exact ⟨⟨0, rfl, by omega⟩, Below.refl _ _⟩
    case round =>
      obtain ⟨HK, hBr⟩ := hrel
      obtain ⟨wo, rfl⟩ : ∃ wo : World, wo = wr := ⟨_, rfl⟩
      obtain ⟨k, rfl, hk⟩ := HK.out
      clear HK
      have q1 : IntKind.i64.wrap ((k : Int) + 1) = (k : Int) + 1 := IntWalk.i64_in _ (by omega)
      have hru8 := Hru7.out.below hBr
      have hp8 := Hp7.out.below hBr
      by_cases hlt : k + 1 < m
      · have q2 : (k : Int) + 1 < (m : Int) := by omega
        have q3 : (k : Int) < (m : Int) := by omega
        go_wp2_with fail
        refine (divided_law _ _ _ (SM u) k _ _ hp8 rfl (by omega) HF.out.su (HF.out.div k hlt)).mono ?_
        rintro e w9 ⟨a9, n9, c9, rfl, hp9, hB9⟩
        have hBr9 := hBr.trans (hB9.mono hBr.size)
        obtain ⟨b, off, rfl, hcell⟩ := (hru8.below hB9).at (k := k) (by rw [Hul.out]; omega)
        obtain ⟨x, hx⟩ := some_at Hul.out (show k < m by omega)
        obtain ⟨y, hy⟩ := some_at Hul.out (show k + 1 < m by omega)
        have px := hcell k x hx
        have py := hcell (k + 1) y hy
        have Hxy := Lib.hid (show (u.getD (k + 1) 0 = y ∧ u.getD k 0 = x) from ⟨getD_of hy, getD_of hx⟩)
        clear hcell hp8 hx hy
        by_cases hgt : y < x
        · obtain ⟨hdn, hokp, hpm⟩ := HF.out.down k hlt (by rw [Hxy.out.1, Hxy.out.2]; exact hgt)
          have Hokp := Lib.hid hokp
          have Hpm := Lib.hid hpm
          have hpd := hp9.eqv hdn.eqv
          have Hpd := Lib.hid (fun w2 (h : Below w9.heap.size w9 w2) => hpd.below h)
          have hru9 := hru8.below hB9
          have Hru9 := Lib.hid (fun w2 (h : Below w9.heap.size w9 w2) => hru9.below h)
          have S_of : ∀ w2, Below w9.heap.size w9 w2 → w2.cell? ⟨b, off + k, none⟩ = some (.int .i64 x) ∧ w2.cell? ⟨b, off + (k + 1), none⟩ = some (.int .i64 y) := fun w2 hb => ⟨by rw [hb.cell (World.block_lt_of_cell? _ _ px)]; exact px, by rw [hb.cell (World.block_lt_of_cell? _ _ py)]; exact py⟩
          have q4 : (0 : Int) ≤ (k : Int) + 1 := by omega
          have q5 : (0 : Int) ≤ (k : Int) := by omega
          have g1 : decide (x > y) = true := by simpa using hgt
          have g2 : decide (y < x) = true := by simpa using hgt
          have g3 : decide (x < y) = false := by simp; omega
          have d0 : Below w9.heap.size w9 w9 := Below.refl _ _
          have d1 : Below w9.heap.size w9 w9.drew := Drew.below ⟨1, rfl⟩ _
          clear hp9 hru8 hru9 hpd hdn hokp hpm Hxy
          go_wp2
          refine wp_region_noPanic ?_
          refine wp_region_held_drew (S := fun w' => w'.cell? ⟨b, off + k, none⟩ = some (.int .i64 x) ∧ w'.cell? ⟨b, off + (k + 1), none⟩ = some (.int .i64 y)) (by kernel_rfl) (S_of _ d1) (fun hHeld => ?_)
          refine wpAnyH_take (i := 0) (oi := { dst := some 51, op := Op.move (Operand.tmp 3), type := 24, pos := _, after := #[], guard := none }) (v := ?v0) rfl (by kernel_rfl) (by kernel_rfl) (by kernel_rfl) (fun _ _ _ h => h) (Or.inl ⟨by rfl, ?hy0⟩) (by assumption) ?_
          case hy0 => (intro w hSw; (try dsimp only at hSw); go_simp; try with_reducible rfl)
          simp only [Act.put, List.setIfInBounds_toArray, List.set_cons_zero, List.set_cons_succ]
          refine wpAnyH_take (i := 1) (oi := { dst := some 52, op := Op.move (Operand.tmp 7), type := 3, pos := _, after := #[], guard := none }) (v := ?v1) rfl (by kernel_rfl) (by kernel_rfl) (by kernel_rfl) (fun _ _ _ h => h) (Or.inl ⟨by rfl, ?hy1⟩) (by assumption) ?_
          case hy1 => (intro w hSw; (try dsimp only at hSw); go_simp; try with_reducible rfl)
          simp only [Act.put, List.setIfInBounds_toArray, List.set_cons_zero, List.set_cons_succ]
          refine wpAnyH_take (i := 2) (oi := { dst := some 53, op := Op.indexAddr 24 (Operand.tmp 51) (Operand.tmp 52), type := 0, pos := _, after := #[{ on := 0, ground := Ground.data }, { on := 1, ground := Ground.data }], guard := none }) (v := ?v2) rfl (by kernel_rfl) (by kernel_rfl) (by kernel_rfl) (fun _ _ _ h => h) (Or.inl ⟨by rfl, ?hy2⟩) (by assumption) ?_
          case hy2 => (intro w hSw; (try dsimp only at hSw); go_simp; try with_reducible rfl)
          simp only [Act.put, List.setIfInBounds_toArray, List.set_cons_zero, List.set_cons_succ]
          refine wpAnyH_take (i := 3) (oi := { dst := some 54, op := Op.load 3 (Operand.tmp 53), type := 3, pos := _, after := #[{ on := 2, ground := Ground.data }], guard := none }) (v := ?v3) rfl (by kernel_rfl) (by kernel_rfl) (by kernel_rfl) (fun _ _ _ h => h) (Or.inl ⟨by rfl, ?hy3⟩) (by assumption) ?_
          case hy3 => (intro w hSw; (try dsimp only at hSw); go_simp; try with_reducible rfl)
          simp only [Act.put, List.setIfInBounds_toArray, List.set_cons_zero, List.set_cons_succ]
          refine wpAnyH_take (i := 4) (oi := { dst := some 55, op := Op.move (Operand.tmp 3), type := 24, pos := _, after := #[], guard := none }) (v := ?v4) rfl (by kernel_rfl) (by kernel_rfl) (by kernel_rfl) (fun _ _ _ h => h) (Or.inl ⟨by rfl, ?hy4⟩) (by assumption) ?_
          case hy4 => (intro w hSw; (try dsimp only at hSw); go_simp; try with_reducible rfl)
          simp only [Act.put, List.setIfInBounds_toArray, List.set_cons_zero, List.set_cons_succ]
          refine wpAnyH_take (i := 5) (oi := { dst := some 56, op := Op.move (Operand.tmp 7), type := 3, pos := _, after := #[], guard := none }) (v := ?v5) rfl (by kernel_rfl) (by kernel_rfl) (by kernel_rfl) (fun _ _ _ h => h) (Or.inl ⟨by rfl, ?hy5⟩) (by assumption) ?_
          case hy5 => (intro w hSw; (try dsimp only at hSw); go_simp; try with_reducible rfl)
          simp only [Act.put, List.setIfInBounds_toArray, List.set_cons_zero, List.set_cons_succ]
          refine wpAnyH_take (i := 6) (oi := { dst := some 57, op := Op.binOp BinOp.add 3 (Operand.tmp 56) (Operand.const (Value.int IntKind.i64 1)) 3, type := 3, pos := _, after := #[{ on := 5, ground := Ground.data }], guard := none }) (v := ?v6) rfl (by kernel_rfl) (by kernel_rfl) (by kernel_rfl) (fun _ _ _ h => h) (Or.inl ⟨by rfl, ?hy6⟩) (by assumption) ?_
          case hy6 => (intro w hSw; (try dsimp only at hSw); go_simp; try with_reducible rfl)
          simp only [Act.put, List.setIfInBounds_toArray, List.set_cons_zero, List.set_cons_succ]
          refine wpAnyH_take (i := 7) (oi := { dst := some 58, op := Op.indexAddr 24 (Operand.tmp 55) (Operand.tmp 57), type := 0, pos := _, after := #[{ on := 4, ground := Ground.data }, { on := 6, ground := Ground.data }], guard := none }) (v := ?v7) rfl (by kernel_rfl) (by kernel_rfl) (by kernel_rfl) (fun _ _ _ h => h) (Or.inl ⟨by rfl, ?hy7⟩) (by assumption) ?_
          case hy7 => (intro w hSw; (try dsimp only at hSw); go_simp; try with_reducible rfl)
          simp only [Act.put, List.setIfInBounds_toArray, List.set_cons_zero, List.set_cons_succ]
          refine wpAnyH_take (i := 8) (oi := { dst := some 59, op := Op.load 3 (Operand.tmp 58), type := 3, pos := _, after := #[{ on := 7, ground := Ground.data }], guard := none }) (v := ?v8) rfl (by kernel_rfl) (by kernel_rfl) (by kernel_rfl) (fun _ _ _ h => h) (Or.inl ⟨by rfl, ?hy8⟩) (by assumption) ?_
          case hy8 => (intro w hSw; (try dsimp only at hSw); go_simp; try with_reducible rfl)
          simp only [Act.put, List.setIfInBounds_toArray, List.set_cons_zero, List.set_cons_succ]
          refine wpAnyH_take (i := 9) (oi := { dst := some 60, op := Op.binOp BinOp.gtr 3 (Operand.tmp 54) (Operand.tmp 59) 3, type := 4, pos := _, after := #[{ on := 3, ground := Ground.data }, { on := 8, ground := Ground.data }], guard := none }) (v := ?v9) rfl (by kernel_rfl) (by kernel_rfl) (by kernel_rfl) (fun _ _ _ h => h) (Or.inl ⟨by rfl, ?hy9⟩) (by assumption) ?_
          case hy9 => (intro w hSw; (try dsimp only at hSw); go_simp; try with_reducible rfl)
          simp only [Act.put, List.setIfInBounds_toArray, List.set_cons_zero, List.set_cons_succ]
          refine wpAnyH_take (i := 10) (oi := { dst := some 61, op := Op.move (Operand.tmp 60), type := 4, pos := _, after := #[{ on := 9, ground := Ground.data }], guard := none }) (v := ?v10) rfl (by kernel_rfl) (by kernel_rfl) (by kernel_rfl) (fun _ _ _ h => h) (Or.inl ⟨by rfl, ?hy10⟩) (by assumption) ?_
          case hy10 => (intro w hSw; (try dsimp only at hSw); go_simp; try with_reducible rfl)
          simp only [Act.put, List.setIfInBounds_toArray, List.set_cons_zero, List.set_cons_succ]
          refine wpAnyH_take (i := 11) (oi := { dst := some 62, op := Op.move (Operand.tmp 8), type := 27, pos := _, after := #[{ on := 10, ground := Ground.guard }], guard := some (10, true) }) (v := ?v11) rfl (by kernel_rfl) (by kernel_rfl) (by kernel_rfl) (fun _ _ _ h => h) (Or.inl ⟨by rfl, ?hy11⟩) (by assumption) ?_
          case hy11 => (intro w hSw; (try dsimp only at hSw); go_simp; try with_reducible rfl)
          simp only [Act.put, List.setIfInBounds_toArray, List.set_cons_zero, List.set_cons_succ]
          refine wpAnyH_take (i := 12) (oi := { dst := some 63, op := Op.move (Operand.tmp 3), type := 24, pos := _, after := #[{ on := 10, ground := Ground.guard }], guard := some (10, true) }) (v := ?v12) rfl (by kernel_rfl) (by kernel_rfl) (by kernel_rfl) (fun _ _ _ h => h) (Or.inl ⟨by rfl, ?hy12⟩) (by assumption) ?_
          case hy12 => (intro w hSw; (try dsimp only at hSw); go_simp; try with_reducible rfl)
          simp only [Act.put, List.setIfInBounds_toArray, List.set_cons_zero, List.set_cons_succ]
          refine wpAnyH_take (i := 13) (oi := { dst := some 64, op := Op.move (Operand.tmp 7), type := 3, pos := _, after := #[{ on := 10, ground := Ground.guard }], guard := some (10, true) }) (v := ?v13) rfl (by kernel_rfl) (by kernel_rfl) (by kernel_rfl) (fun _ _ _ h => h) (Or.inl ⟨by rfl, ?hy13⟩) (by assumption) ?_
          case hy13 => (intro w hSw; (try dsimp only at hSw); go_simp; try with_reducible rfl)
          simp only [Act.put, List.setIfInBounds_toArray, List.set_cons_zero, List.set_cons_succ]
          refine wpAnyH_take (i := 14) (oi := { dst := some 65, op := Op.move (Operand.tmp 7), type := 3, pos := _, after := #[{ on := 10, ground := Ground.guard }], guard := some (10, true) }) (v := ?v14) rfl (by kernel_rfl) (by kernel_rfl) (by kernel_rfl) (fun _ _ _ h => h) (Or.inl ⟨by rfl, ?hy14⟩) (by assumption) ?_
          case hy14 => (intro w hSw; (try dsimp only at hSw); go_simp; try with_reducible rfl)
          simp only [Act.put, List.setIfInBounds_toArray, List.set_cons_zero, List.set_cons_succ]
          refine wpAnyH_take (i := 15) (oi := { dst := some 66, op := Op.binOp BinOp.add 3 (Operand.tmp 65) (Operand.const (Value.int IntKind.i64 1)) 3, type := 3, pos := _, after := #[{ on := 14, ground := Ground.data }, { on := 10, ground := Ground.guard }], guard := some (10, true) }) (v := ?v15) rfl (by kernel_rfl) (by kernel_rfl) (by kernel_rfl) (fun _ _ _ h => h) (Or.inl ⟨by rfl, ?hy15⟩) (by assumption) ?_
          case hy15 => (intro w hSw; (try dsimp only at hSw); go_simp; try with_reducible rfl)
          simp only [Act.put, List.setIfInBounds_toArray, List.set_cons_zero, List.set_cons_succ]
          refine wpAnyH_ready (rs := [16]) (by kernel_rfl) (by simp) ?_
          refine AllReadyH.cons (o := { dst := some 67, op := Op.call { callee := Callee.value (Operand.func 16), args := #[Operand.tmp 63, Operand.tmp 64, Operand.tmp 66], argTypes := #[24, 3, 3] }, type := 24, pos := _, after := #[{ on := 12, ground := Ground.data }, { on := 13, ground := Ground.data }, { on := 15, ground := Ground.data }, { on := 10, ground := Ground.chain }, { on := 10, ground := Ground.guard }], guard := some (10, true) }) rfl (fun K hK => ?_) AllReadyH.nil
          go_simp
          go_at_call 16
          refine (swapped_any _ _ _ u k (k + 1) _ _ _ (Hru9.out _ d1) Hul.out (by omega) rfl (by omega) (by omega) (by omega)).mono ?_
          rintro e w10 ⟨a10, c10, rfl, ho10, hb10⟩
          have d2 := Below.trans d1 (hb10.mono (Below.size d1))
          go_wp2_with fail
          refine hK.out _ _ ?_ (fun hHeld => ?_)
          · exact S_of _ d2
          clear hK K
          try simp only [Act.put, List.setIfInBounds_toArray, List.set_cons_zero, List.set_cons_succ]
          refine wpAnyH_ready (rs := [17]) (by kernel_rfl) (by simp) ?_
          refine AllReadyH.cons (o := { dst := some 68, op := Op.call { callee := Callee.value (Operand.func 13), args := #[Operand.tmp 67], argTypes := #[24] }, type := 27, pos := _, after := #[{ on := 16, ground := Ground.data }, { on := 16, ground := Ground.chain }, { on := 10, ground := Ground.guard }], guard := some (10, true) }) rfl (fun K hK => ?_) AllReadyH.nil
          go_simp
          go_at_call 13
          refine (schubert_law _ _ _ _ _ ho10.rd ho10.len ho10.1.lt Hpm.out Hokp.out).mono ?_
          rintro e w11 ⟨a11, n11, c11, rfl, hp11, hb11⟩
          have d3 := Below.trans d2 (hb11.mono (Below.size d2))
          go_wp2_with fail
          refine hK.out _ _ ?_ (fun hHeld => ?_)
          · exact S_of _ d3
          clear hK K
          try simp only [Act.put, List.setIfInBounds_toArray, List.set_cons_zero, List.set_cons_succ]
          refine wpAnyH_ready (rs := [18]) (by kernel_rfl) (by simp) ?_
          refine AllReadyH.cons (o := { dst := some 69, op := Op.call { callee := Callee.value (Operand.func 12), args := #[Operand.tmp 62, Operand.tmp 68], argTypes := #[27, 27] }, type := 4, pos := _, after := #[{ on := 11, ground := Ground.data }, { on := 17, ground := Ground.data }, { on := 17, ground := Ground.chain }, { on := 10, ground := Ground.guard }], guard := some (10, true) }) rfl (fun K hK => ?_) AllReadyH.nil
          go_simp
          go_at_call 12
          refine (terms_law _ _ _ _ _ _ _ _ _ (Hpd.out _ d3) hp11 (Eqv.refl _)).mono ?_
          rintro e w12 ⟨rfl, hd12⟩
          have d4 := d3.trans (hd12.below _)
          go_wp2_with fail
          refine hK.out _ _ ?_ (fun hHeld => ?_)
          · exact S_of _ d4
          clear hK K
          try simp only [Act.put, List.setIfInBounds_toArray, List.set_cons_zero, List.set_cons_succ]
          refine wpAnyH_take (i := 19) (oi := { dst := some 70, op := Op.unOp UnOp.not 4 (Operand.tmp 69), type := 4, pos := _, after := #[{ on := 18, ground := Ground.data }, { on := 10, ground := Ground.guard }], guard := some (10, true) }) (v := ?v19) rfl (by kernel_rfl) (by kernel_rfl) (by kernel_rfl) (fun _ _ _ h => h) (Or.inl ⟨by rfl, ?hy19⟩) (by assumption) ?_
          case hy19 => (intro w hSw; (try dsimp only at hSw); go_simp; try with_reducible rfl)
          simp only [Act.put, List.setIfInBounds_toArray, List.set_cons_zero, List.set_cons_succ]
          refine wpAnyH_take (i := 20) (oi := { dst := some 71, op := Op.pick (Operand.tmp 61) (Operand.tmp 70) (Operand.const (Value.bool false)), type := 4, pos := _, after := #[{ on := 10, ground := Ground.data }, { on := 19, ground := Ground.data }], guard := none }) (v := ?v20) rfl (by kernel_rfl) (by kernel_rfl) (by kernel_rfl) (fun _ _ _ h => h) (Or.inl ⟨by rfl, ?hy20⟩) (by assumption) ?_
          case hy20 => (intro w hSw; (try dsimp only at hSw); go_simp; try with_reducible rfl)
          simp only [Act.put, List.setIfInBounds_toArray, List.set_cons_zero, List.set_cons_succ]
          refine wpAnyH_take (i := 21) (oi := { dst := some 72, op := Op.move (Operand.tmp 71), type := 4, pos := _, after := #[{ on := 20, ground := Ground.data }, { on := 18, ground := Ground.chain }], guard := none }) (v := ?v21) rfl (by kernel_rfl) (by kernel_rfl) (by kernel_rfl) (fun _ _ _ h => h) (Or.inl ⟨by rfl, ?hy21⟩) (by assumption) ?_
          case hy21 => (intro w hSw; (try dsimp only at hSw); go_simp; try with_reducible rfl)
          simp only [Act.put, List.setIfInBounds_toArray, List.set_cons_zero, List.set_cons_succ]
          refine wpAnyH_take (i := 22) (oi := { dst := some 73, op := Op.move (Operand.tmp 3), type := 24, pos := _, after := #[{ on := 21, ground := Ground.guard }], guard := some (21, false) }) (v := ?v22) rfl (by kernel_rfl) (by kernel_rfl) (by kernel_rfl) (fun _ _ _ h => h) (Or.inl ⟨by rfl, ?hy22⟩) (by assumption) ?_
          case hy22 => (intro w hSw; (try dsimp only at hSw); go_simp; try with_reducible rfl)
          simp only [Act.put, List.setIfInBounds_toArray, List.set_cons_zero, List.set_cons_succ]
          refine wpAnyH_take (i := 23) (oi := { dst := some 74, op := Op.move (Operand.tmp 7), type := 3, pos := _, after := #[{ on := 21, ground := Ground.guard }], guard := some (21, false) }) (v := ?v23) rfl (by kernel_rfl) (by kernel_rfl) (by kernel_rfl) (fun _ _ _ h => h) (Or.inl ⟨by rfl, ?hy23⟩) (by assumption) ?_
          case hy23 => (intro w hSw; (try dsimp only at hSw); go_simp; try with_reducible rfl)
          simp only [Act.put, List.setIfInBounds_toArray, List.set_cons_zero, List.set_cons_succ]
          refine wpAnyH_take (i := 24) (oi := { dst := some 75, op := Op.indexAddr 24 (Operand.tmp 73) (Operand.tmp 74), type := 0, pos := _, after := #[{ on := 22, ground := Ground.data }, { on := 23, ground := Ground.data }, { on := 21, ground := Ground.guard }], guard := some (21, false) }) (v := ?v24) rfl (by kernel_rfl) (by kernel_rfl) (by kernel_rfl) (fun _ _ _ h => h) (Or.inl ⟨by rfl, ?hy24⟩) (by assumption) ?_
          case hy24 => (intro w hSw; (try dsimp only at hSw); go_simp; try with_reducible rfl)
          simp only [Act.put, List.setIfInBounds_toArray, List.set_cons_zero, List.set_cons_succ]
          refine wpAnyH_take (i := 25) (oi := { dst := some 76, op := Op.load 3 (Operand.tmp 75), type := 3, pos := _, after := #[{ on := 24, ground := Ground.data }, { on := 21, ground := Ground.guard }], guard := some (21, false) }) (v := ?v25) rfl (by kernel_rfl) (by kernel_rfl) (by kernel_rfl) (fun _ _ _ h => h) (Or.inl ⟨by rfl, ?hy25⟩) (by assumption) ?_
          case hy25 => (intro w hSw; (try dsimp only at hSw); go_simp; try with_reducible rfl)
          simp only [Act.put, List.setIfInBounds_toArray, List.set_cons_zero, List.set_cons_succ]
          refine wpAnyH_take (i := 26) (oi := { dst := some 77, op := Op.move (Operand.tmp 3), type := 24, pos := _, after := #[{ on := 21, ground := Ground.guard }], guard := some (21, false) }) (v := ?v26) rfl (by kernel_rfl) (by kernel_rfl) (by kernel_rfl) (fun _ _ _ h => h) (Or.inl ⟨by rfl, ?hy26⟩) (by assumption) ?_
          case hy26 => (intro w hSw; (try dsimp only at hSw); go_simp; try with_reducible rfl)
          simp only [Act.put, List.setIfInBounds_toArray, List.set_cons_zero, List.set_cons_succ]
          refine wpAnyH_take (i := 27) (oi := { dst := some 78, op := Op.move (Operand.tmp 7), type := 3, pos := _, after := #[{ on := 21, ground := Ground.guard }], guard := some (21, false) }) (v := ?v27) rfl (by kernel_rfl) (by kernel_rfl) (by kernel_rfl) (fun _ _ _ h => h) (Or.inl ⟨by rfl, ?hy27⟩) (by assumption) ?_
          case hy27 => (intro w hSw; (try dsimp only at hSw); go_simp; try with_reducible rfl)
          simp only [Act.put, List.setIfInBounds_toArray, List.set_cons_zero, List.set_cons_succ]
          refine wpAnyH_take (i := 28) (oi := { dst := some 79, op := Op.binOp BinOp.add 3 (Operand.tmp 78) (Operand.const (Value.int IntKind.i64 1)) 3, type := 3, pos := _, after := #[{ on := 27, ground := Ground.data }, { on := 21, ground := Ground.guard }], guard := some (21, false) }) (v := ?v28) rfl (by kernel_rfl) (by kernel_rfl) (by kernel_rfl) (fun _ _ _ h => h) (Or.inl ⟨by rfl, ?hy28⟩) (by assumption) ?_
          case hy28 => (intro w hSw; (try dsimp only at hSw); go_simp; try with_reducible rfl)
          simp only [Act.put, List.setIfInBounds_toArray, List.set_cons_zero, List.set_cons_succ]
          refine wpAnyH_take (i := 29) (oi := { dst := some 80, op := Op.indexAddr 24 (Operand.tmp 77) (Operand.tmp 79), type := 0, pos := _, after := #[{ on := 26, ground := Ground.data }, { on := 28, ground := Ground.data }, { on := 21, ground := Ground.guard }], guard := some (21, false) }) (v := ?v29) rfl (by kernel_rfl) (by kernel_rfl) (by kernel_rfl) (fun _ _ _ h => h) (Or.inl ⟨by rfl, ?hy29⟩) (by assumption) ?_
          case hy29 => (intro w hSw; (try dsimp only at hSw); go_simp; try with_reducible rfl)
          simp only [Act.put, List.setIfInBounds_toArray, List.set_cons_zero, List.set_cons_succ]
          refine wpAnyH_take (i := 30) (oi := { dst := some 81, op := Op.load 3 (Operand.tmp 80), type := 3, pos := _, after := #[{ on := 29, ground := Ground.data }, { on := 21, ground := Ground.guard }], guard := some (21, false) }) (v := ?v30) rfl (by kernel_rfl) (by kernel_rfl) (by kernel_rfl) (fun _ _ _ h => h) (Or.inl ⟨by rfl, ?hy30⟩) (by assumption) ?_
          case hy30 => (intro w hSw; (try dsimp only at hSw); go_simp; try with_reducible rfl)
          simp only [Act.put, List.setIfInBounds_toArray, List.set_cons_zero, List.set_cons_succ]
          refine wpAnyH_take (i := 31) (oi := { dst := some 82, op := Op.binOp BinOp.lss 3 (Operand.tmp 76) (Operand.tmp 81) 3, type := 4, pos := _, after := #[{ on := 25, ground := Ground.data }, { on := 30, ground := Ground.data }, { on := 21, ground := Ground.guard }], guard := some (21, false) }) (v := ?v31) rfl (by kernel_rfl) (by kernel_rfl) (by kernel_rfl) (fun _ _ _ h => h) (Or.inl ⟨by rfl, ?hy31⟩) (by assumption) ?_
          case hy31 => (intro w hSw; (try dsimp only at hSw); go_simp; try with_reducible rfl)
          simp only [Act.put, List.setIfInBounds_toArray, List.set_cons_zero, List.set_cons_succ]
          refine wpAnyH_take (i := 32) (oi := { dst := some 83, op := Op.move (Operand.tmp 82), type := 4, pos := _, after := #[{ on := 31, ground := Ground.data }, { on := 21, ground := Ground.chain }, { on := 21, ground := Ground.guard }], guard := some (21, false) }) (v := ?v32) rfl (by kernel_rfl) (by kernel_rfl) (by kernel_rfl) (fun _ _ _ h => h) (Or.inl ⟨by rfl, ?hy32⟩) (by assumption) ?_
          case hy32 => (intro w hSw; (try dsimp only at hSw); go_simp; try with_reducible rfl)
          simp only [Act.put, List.setIfInBounds_toArray, List.set_cons_zero, List.set_cons_succ]
          refine wpAnyH_take (i := 33) (oi := { dst := some 84, op := Op.move (Operand.tmp 8), type := 27, pos := _, after := #[{ on := 32, ground := Ground.guard }], guard := some (32, true) }) (v := undef) rfl (by kernel_rfl) (by kernel_rfl) (by kernel_rfl) (fun _ _ _ h => h) (Or.inr ⟨by rfl, rfl⟩) (by assumption) ?_
          simp only [Act.put, List.setIfInBounds_toArray, List.set_cons_zero, List.set_cons_succ]
          refine wpAnyH_take (i := 34) (oi := { dst := some 85, op := Op.call { callee := Callee.builtin Builtin.len, args := #[Operand.tmp 84], argTypes := #[27] }, type := 3, pos := _, after := #[{ on := 33, ground := Ground.data }, { on := 32, ground := Ground.guard }], guard := some (32, true) }) (v := undef) rfl (by kernel_rfl) (by kernel_rfl) (by kernel_rfl) (fun _ _ _ h => h) (Or.inr ⟨by rfl, rfl⟩) (by assumption) ?_
          simp only [Act.put, List.setIfInBounds_toArray, List.set_cons_zero, List.set_cons_succ]
          refine wpAnyH_take (i := 35) (oi := { dst := some 86, op := Op.binOp BinOp.neq 3 (Operand.tmp 85) (Operand.const (Value.int IntKind.i64 0)) 3, type := 4, pos := _, after := #[{ on := 34, ground := Ground.data }, { on := 32, ground := Ground.guard }], guard := some (32, true) }) (v := undef) rfl (by kernel_rfl) (by kernel_rfl) (by kernel_rfl) (fun _ _ _ h => h) (Or.inr ⟨by rfl, rfl⟩) (by assumption) ?_
          simp only [Act.put, List.setIfInBounds_toArray, List.set_cons_zero, List.set_cons_succ]
          refine wpAnyH_take (i := 36) (oi := { dst := some 87, op := Op.pick (Operand.tmp 83) (Operand.tmp 86) (Operand.const (Value.bool false)), type := 4, pos := _, after := #[{ on := 32, ground := Ground.data }, { on := 35, ground := Ground.data }, { on := 21, ground := Ground.guard }], guard := some (21, false) }) (v := ?v36) rfl (by kernel_rfl) (by kernel_rfl) (by kernel_rfl) (fun _ _ _ h => h) (Or.inl ⟨by rfl, ?hy36⟩) (by assumption) ?_
          case hy36 => (intro w hSw; (try dsimp only at hSw); go_simp; try with_reducible rfl)
          simp only [Act.put, List.setIfInBounds_toArray, List.set_cons_zero, List.set_cons_succ]
          refine wpAnyH_take (i := 37) (oi := { dst := some 88, op := Op.pick (Operand.tmp 72) (Operand.const (Value.bool true)) (Operand.tmp 87), type := 4, pos := _, after := #[{ on := 21, ground := Ground.data }, { on := 36, ground := Ground.data }], guard := none }) (v := ?v37) rfl (by kernel_rfl) (by kernel_rfl) (by kernel_rfl) (fun _ _ _ h => h) (Or.inl ⟨by rfl, ?hy37⟩) (by assumption) ?_
          case hy37 => (intro w hSw; (try dsimp only at hSw); go_simp; try with_reducible rfl)
          simp only [Act.put, List.setIfInBounds_toArray, List.set_cons_zero, List.set_cons_succ]
          refine wpAnyH_done (by kernel_rfl) ?_ _
          refine NoPanic.normal ?_
          have hB12 := hBr9.trans (d4.mono hBr9.size)
          clear S_of d0 d1 d2 d3 d4 hb10 hb11 hd12 hp11 ho10 hHeld
          go_wp2
          go_roundw
          case rel => exact ⟨⟨k + 1, by go_num, by omega⟩, hB12⟩
          case measure => simp [intOf]; omega
        · have hz : n9 = 0 := by have := hp9.len; rw [none_length (HF.out.up k hlt (by rw [Hxy.out.1, Hxy.out.2]; exact hgt))] at this; exact this.symm
          subst hz
          have g1 : decide (x > y) = false := by simp; omega
          have g2 : decide (y < x) = false := by simp; omega
          clear hp9 hB9 hru8
          cases hlx : decide (x < y)
          · go_wp2
            go_quiet (fail)
            go_wp2
            go_roundw
            case rel => exact ⟨⟨k + 1, by go_num, by omega⟩, hBr9.trans (Drew.below (Drew.drewN _ _) _)⟩
            case measure => simp [intOf]; omega
          · go_wp2
            go_quiet (fail)
            go_wp2
            go_roundw
            case rel => exact ⟨⟨k + 1, by go_num, by omega⟩, hBr9.trans (Drew.below (Drew.drewN _ _) _)⟩
            case measure => simp [intOf]; omega
      · have q2 : ¬ (k : Int) + 1 < (m : Int) := by omega
        go_wp2
        go_ret
        exact ⟨rfl, hB7.trans (hBr.mono hB7.size)⟩
end Go.Proofs.Ytflkomgfgmephaa
