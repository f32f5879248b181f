/-
  Statement FnPolyText: for every input the law returns true and its arguments read as before. The listed variables read as the program lays them (the card ties them to its text). The frame was written by the kit's proof-skeleton program and turned by a program of ours.
-/
import Derived.Test.YtcminkcoifkbgaaGreatDoorLPolyText
import Derived.Test.YtcminkcoifkbgaaGreatDoorOpen
import Derived.Test.YtcminkcoifkbgaaGreatDoorFacts
import Derived.Test.YtcminkcoifkbgaaGreatDoorCards
import Derived.Test.YtcminkcoifkbgaaGreatDoorTie
import Derived.LaidMore
import Derived.Lay
import Derived.SevenTiedAt
import Derived.Shelf.Vars
namespace Go.Proofs.YtcminkcoifkbgaaGreatDoor.fnPolyText
open Go.ChangeShapes Go.WideShapes Go.ChangeAt Go.RowKit
open Go.ChangeMaps (open_string shut_string)

theorem maxlen_any {w : World} (h : w.ShapedOpen Tryz.prog) : MX w :=
  cell_of_shapedOpen_int (g := 0) (t := 3) (zero := #[.int .i64 0]) h (of_decide_eq_true (by kernel_rfl)) (by kernel_rfl) (by kernel_rfl) (by kernel_rfl) (by kernel_rfl) (by kernel_rfl)
set_option maxRecDepth 100000 in
theorem inner {H : Type} (enc : TypeId × Value → H) (W : World) (base : Nat) (args : Array Value) (ds gs : List (DataW H)) (before : List MemPlace)
    (hval1 : ∀ (j : Nat) t v, Tryz.f3.params[j]? = some t → args[j]? = some v → Value.okWide Tryz.prog W .any base t v)
    (hW : DataW.Whole enc Tryz.prog Tryz.f3.params.toList Rows.fnPolyTextSpec.vars false W args.toList ds gs before) (hmx : MX W) :
    Calls Tryz.prog 3 args W fun e W' => ∃ v, e = .returned v ∧ Rows.fnPolyTextSpec.post enc Tryz.prog Tryz.f3 false true false false W args v W' := by
  have hval : ∀ (j : Nat) t v, Tryz.f3.params[j]? = some t → args[j]? = some v → Value.okWide Tryz.prog W .any base t v := hval1
  have hW' := hW
  obtain ⟨p, q, hA0, hV, rfl, hfz, hnd⟩ := hW
  have hA : DataW.TrodAll enc Tryz.prog W 0 (fun _ => true) true Tryz.f3.params.toList args.toList ds p := hA0
  rw [Tryz.params3] at hA hval
  obtain ⟨v0, vs0, d0, ds0, p0, q0, hargs, rfl, rfl, h0, r0⟩ := trodAll_cons hA
  obtain ⟨rfl, rfl, rfl⟩ := trodAll_nil r0
  obtain rfl : args = #[v0] := by cases args; simp_all
  obtain ⟨rfl, rfl⟩ := trodVars_none hV
  obtain ⟨a0, len0, cap0, rfl⟩ := okWide_slice Tryz.underlying22 (hval 0 22 v0 rfl rfl)
  have k0 := h0
  have lt0 : ∀ x ∈ p0, x.block < W.heap.size := by obtain ⟨m, hm⟩ := k0; exact DataW.trod_lt m _ _ _ hm
  obtain ⟨z0, w0⟩ : ∃ zs, IsRow .u8 W a0 len0 cap0 zs := by
    obtain ⟨fuel, hf⟩ := h0
    rcases open_ints Tryz.underlying22 Tryz.underlying5 (by kernel_rfl) hf with ⟨hcs, _⟩ | ⟨x, l, c, zs, hcs, _, hl, hm, hz, _, hcell, hwz⟩
    · simp [Value.cells] at hcs
      obtain ⟨rfl, rfl, rfl⟩ := hcs
      exact ⟨[], .inl ⟨rfl, rfl, rfl, rfl⟩⟩
    · simp [Value.cells] at hcs
      obtain ⟨rfl, rfl, rfl⟩ := hcs
      exact ⟨zs, .inr ⟨_, rfl, hl, hm, by simpa using hz, hcell, hwz⟩⟩
  clear hA0 hval1
  obtain ⟨hr0, hn0, hb0, hz0⟩ := w0.rb
  refine (lawPolyText_walk W a0 len0 cap0 _ hr0 hn0 hb0 hz0 hmx).mono fun e W' ⟨he, bel⟩ => ?_
  subst he
  exact ⟨_, rfl, _, _, _, [], _, [], hW', trodAll_mk1 (shut_bool Tryz.underlying4 _), (trodAll_cons_mk (Below.trod pf_laidOut (by kernel_rfl) (of_decide_eq_true (by kernel_rfl)) k0 bel lt0) trodAll_mk0), rfl, bel.frame _, fun h => by cases h⟩

/-! ### THE ROW's STEP: WRITTEN OUT: LEAVE IT -/
set_option maxRecDepth 100000 in
theorem lifted (os : Os) (started : os.Started) (H : Type) (enc : TypeId × Value → H) :
    ReturnsInHanded {} Tryz.checked os 3 .any (fun w args => (Rows.fnPolyTextSpec.pre enc Tryz.prog Tryz.f3 Rows.fnPolyTextRow.domain false w args ∧ laidMetH Tryz.prog Rows.fnPolyTextRow.laid w) ∧ sizedMet enc Tryz.prog Tryz.f3 (OpenSpec.ofChange Rows.fnPolyTextSpec) false w args)
      (Rows.fnPolyTextSpec.post enc Tryz.prog Tryz.f3 false true false false) := by
  refine returnsInHanded_of_calls own started (by kernel_rfl)
    (ChangeSpec.witness_shaped (enc := enc) (C := Tryz.checked) (os := os) (f := 3) (fn := Tryz.f3) (X := fun w _ => laidMetH Tryz.prog Rows.fnPolyTextRow.laid w) false (World.laidAll Tryz.prog os Rows.fnPolyTextRow.laid) #[.slice none 0 0] 8 (World.laidAll_os _ _ _)
      (World.shaped_of_ZipB (by kernel_rfl) (by kernel_rfl)) (by kernel_rfl) (by kernel_rfl) (by kernel_rfl)
      (by rw [MakeChecks.laidMetH_plain _ _ _ (by kernel_rfl)]; exact laidMet_laidAll _ (by kernel_rfl) (by kernel_rfl))) ?_
  intro w0 tape inp _ hsh _ hok hpre _
  obtain ⟨_, _, _, fn1, hf1, _, _, _, _, hval1⟩ := hok
  obtain rfl : fn1 = Tryz.f3 := Option.some.inj (hf1.symm.trans Tryz.func3)
  obtain ⟨⟨⟨ds, gs, before, hw0, _⟩, _⟩, _⟩ := hpre
  have hmx := maxlen_any hsh
  have hwh := DataW.Whole.of_heap (w' := w0.forCall tape inp) (by rfl) hw0
  suffices HH : Calls Tryz.prog 3 inp.args (w0.forCall tape inp) fun e W' => ∃ v, e = .returned v ∧ Rows.fnPolyTextSpec.post enc Tryz.prog Tryz.f3 false true false false (w0.forCall tape inp) inp.args v W' from
    HH.mono fun e W' ⟨v, he, hp⟩ => by subst he; exact ChangeSpec.post_blind hp
  exact inner enc _ w0.heap.size _ ds gs before hval1 hwh hmx

theorem k01 : (Rows.fnPolyTextRow.wf (OpenSpec.ofChange Rows.fnPolyTextSpec)) = true := by kernel_rfl
theorem k04 : (Tryz.f3.params.all (Tryz.prog.readableRec ·)) = true := by kernel_rfl
theorem k05 : (namedTie Tryz.prog Rows.fnPolyTextRow.named Rows.fnPolyTextSpec.vars) = true := by kernel_rfl
theorem k06 : ((Rows.fnPolyTextRow.stops == [])) = true := by kernel_rfl
theorem k08 : ((Rows.fnPolyTextRow.knobs == [])) = true := by kernel_rfl
theorem k10 : ((Rows.fnPolyTextRow.inPlace == Tryz.prog.inPlace 3)) = true := by kernel_rfl
theorem k11 : ((Rows.fnPolyTextRow.unfollowed == Tryz.prog.unfollowed 3)) = true := by kernel_rfl
theorem k12 : ((Rows.fnPolyTextRow.recurses == Tryz.prog.recurses 3)) = true := by kernel_rfl
theorem k13 : ((Rows.fnPolyTextRow.named == Tryz.prog.varsNamed 3)) = true := by kernel_rfl
theorem k14 : ((Rows.fnPolyTextRow.maps == (Tryz.f3.params.toList ++ Rows.fnPolyTextSpec.plain.varTypes Tryz.prog).any (Tryz.prog.mapsRec ·))) = true := by kernel_rfl
theorem k15 : ((Rows.fnPolyTextRow.ifaces == (Tryz.f3.params.toList ++ Rows.fnPolyTextSpec.plain.varTypes Tryz.prog).any (Tryz.prog.ifacesRec ·))) = true := by kernel_rfl
theorem k16 : ((Rows.fnPolyTextRow.mapsOut == Tryz.prog.mapsAmong Tryz.f3.resultTypes.toList)) = true := by kernel_rfl
theorem k17 : ((Rows.fnPolyTextRow.loops == (Tryz.f3.params.toList ++ Rows.fnPolyTextSpec.plain.varTypes Tryz.prog).any (Tryz.prog.loopsFrom ·))) = true := by kernel_rfl
theorem k18 : ((Rows.fnPolyTextRow.wideKeys == (Tryz.f3.params.toList ++ Rows.fnPolyTextSpec.plain.varTypes Tryz.prog ++ Tryz.f3.resultTypes.toList).any (Tryz.prog.wideKeysFrom ·))) = true := by kernel_rfl
theorem k19 : (Rows.fnPolyTextSpec.vars.all (Tryz.prog.varReadable ·)) = true := by kernel_rfl
theorem k20 : (Tryz.f3.resultTypes.all (fun t => Tryz.prog.readableRec t && decide (t < Tryz.prog.types.size))) = true := by kernel_rfl
theorem k21 : ((Rows.fnPolyTextRow.ifacesOut == Tryz.f3.resultTypes.toList.any (Tryz.prog.ifacesRec ·))) = true := by kernel_rfl
theorem k22 : ((Rows.fnPolyTextRow.loopsOut == Tryz.f3.resultTypes.toList.any (Tryz.prog.loopsFrom ·))) = true := by kernel_rfl
theorem k24 : (Rows.fnPolyTextRow.shortTexts.isNone) = true := by kernel_rfl
theorem k29 : ((Rows.fnPolyTextRow.kinds == (if Rows.fnPolyTextRow.domain.isEmpty then [] else Tryz.f3.params.toList.map fun t => match Tryz.prog.underlying t with | some (.int k) => some k | _ => none))) = true := by kernel_rfl
theorem k30 : ((Rows.fnPolyTextRow.pinned == Rows.fnPolyTextRow.pinnedBy)) = true := by kernel_rfl
theorem k31 : ((Rows.fnPolyTextRow.veiled == (Tryz.f3.params.toList ++ Rows.fnPolyTextSpec.plain.varTypes Tryz.prog ++ Tryz.f3.resultTypes.toList).any (Tryz.prog.veiledRec ·))) = true := by kernel_rfl
theorem k32 : (Rows.fnPolyTextRow.veiledFits Tryz.prog Tryz.f3.params.toList (Tryz.f3.params.toList ++ Rows.fnPolyTextSpec.plain.varTypes Tryz.prog ++ Tryz.f3.resultTypes.toList)) = true := by kernel_rfl
theorem k23 : (Rows.fnPolyTextRow.plainKeys == Tryz.prog.plainKeys) = true := by rw [pf_plain]; kernel_rfl
theorem k27 : (Rows.fnPolyTextRow.lifted == Tryz.prog.liftsFinal) = true := by rw [pf_liftsFinal]; kernel_rfl
theorem k28 : (Tryz.prog.make == some Rows.fnPolyTextRow.make) = true := by rw [pf_make]; kernel_rfl
set_option maxRecDepth 100000 in
theorem closed : joinedFacts Tryz.prog 3 Tryz.f3 Rows.fnPolyTextSpec Rows.fnPolyTextRow = true := by
  unfold joinedFacts
  exact band (band (band (band (band (band (band (band (band (band (band (band (band (band (band (band (band (band (band (band (band (band (band (band (band (band (band (band (band (band (band k01 pf_laidOut) pf_mapsRowed) k04) k05) k06) pf_stops) k08) pf_stopKnobs) k10) k11) k12) k13) k14) k15) k16) k17) k18) k19) k20) k21) k22) k23) k24) pf_stopsHeard) pf_mayEnter) k27) k28) k29) k30) k31) k32

theorem over : Rows.fnPolyTextRow.holds Tryz.pinned (OpenSpec.ofChange Rows.fnPolyTextSpec) :=
  OpenClaim.holds_of_wide 3 Tryz.f3 rfl rfl rfl rfl rfl rfl rfl ⟨rfl, rfl, rfl, rfl, rfl⟩ rfl rfl rfl rfl rfl (by kernel_rfl) Tryz.func3 closed
    (of_decide_eq_true (by kernel_rfl)) (by unfold Func.isWrapper; first | (rw [if_pos (by decide +kernel)]; kernel_rfl) | (rw [if_neg (by decide +kernel)]; exact ⟨rfl, rfl⟩))
    (fun os started H enc _ => lifted os started H enc)

/-- the row -/
theorem row_holds : Rows.FnPolyTextSaid := over
/-- ████ THE STATEMENT: THE TIED CARD ████ -/
theorem proved : Rows.FnPolyTextCardSaid :=
  Claim7.holds_tied_plain_at .later [] [.data, .pinned] true (true, "8f10b3e9c3d15646702c2b2c7153df31aad4b630965398862be22fa458976ad9") false row_holds (fun _ h => by cases h) (by kernel_rfl) (fun _ h => by cases h) fnPolyText_row_tie rfl ⟨rfl, rfl⟩ (by kernel_rfl) rfl
    (fun f fn hf hfn => by
      obtain rfl : f = 3 := Option.some.inj ((show Tryz.prog.funcNamed Rows.fnPolyTextRow.func = some 3 by kernel_rfl).symm.trans hf) |>.symm
      obtain rfl : fn = Tryz.f3 := (Option.some.inj (Tryz.func3.symm.trans hfn)).symm
      exact ⟨by kernel_rfl, fun j t ht => by
        rw [Tryz.params3] at ht
        have h22 : t = 22 := by
          rcases j with _ | j
          · simpa using ht.symm
          · simp at ht
        subst h22
        exact (show Tryz.prog.wantsStandIn 22 = false by kernel_rfl)⟩)
    (by kernel_rfl)
#print axioms proved
end Go.Proofs.YtcminkcoifkbgaaGreatDoor.fnPolyText
