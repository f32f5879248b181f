/-
  Statement FnExactLadderMoves: for every input the law returns true and its arguments read as before. No condition. Written by a program of ours after the kit's proof-skeleton.
-/
import Derived.Test.YtageojkepoejiaaLLadderMoves
import Derived.Test.YtageojkepoejiaaOpen
import Derived.Test.YtageojkepoejiaaBuG1
import Derived.Test.YtageojkepoejiaaFacts
namespace Go.Proofs.Ytageojkepoejiaa.fnExactLadderMoves
open Go.ChangeShapes Go.WideShapes Go.ChangeAt Go.RowKit
open Go.ChangeMaps (open_string shut_string)
set_option linter.unusedVariables false

set_option maxRecDepth 100000 in
theorem lifted (os : Os) (started : os.Started) (H : Type) (enc : TypeId × Value → H) :
    ReturnsInHanded {} Try.checked os 4 .any (Rows.fnExactLadderMovesSpec.pre6 enc Try.prog Try.f4 Rows.fnExactLadderMovesRow.domain false) (Rows.fnExactLadderMovesSpec.post enc Try.prog Try.f4 false true false false) := by
  refine returnsInHanded_of_change (C := Try.checked) own started (by kernel_rfl) Try.func4
    (ChangeSpec.witness6 (enc := enc) (C := Try.checked) false ⟨#[], #[.int .i64 0, .slice none 0 0], []⟩ 8 (by kernel_rfl) (by kernel_rfl) (by kernel_rfl) (by kernel_rfl)) ?_
  intro W base args ds gs before hval0 hW hcnd _
  have hval : ∀ (j : Nat) t v, Try.f4.params[j]? = some t → args[j]? = some v → Value.okWide Try.prog W .any base t v := hval0
  have hW' := hW
  obtain ⟨p, q, hA0, hV, rfl, hfz, hnd⟩ := hW
  have hA : DataW.TrodAll enc Try.prog W 0 (fun _ => true) true Try.f4.params.toList args.toList ds p := hA0
  rw [Try.params4] at hA hval
  obtain ⟨v0, vs0, d0, ds0, p0, q0, hargs, rfl, rfl, h0, r0⟩ := trodAll_cons hA
  obtain ⟨v1, vs1, d1, ds1, p1, q1, rfl, rfl, rfl, h1, r1⟩ := trodAll_cons r0
  obtain ⟨rfl, rfl, rfl⟩ := trodAll_nil r1
  obtain rfl : args = #[v0, v1] := by cases args; simp_all
  obtain ⟨rfl, rfl⟩ := trodVars_none hV
  obtain ⟨a0, rfl, rfl, rfl, w0⟩ := open_int Try.underlying3 (hval 0 3 v0 rfl rfl) h0
  obtain ⟨a1, len1, cap1, rfl⟩ := okWide_slice Try.underlying32 (hval 1 32 v1 rfl rfl)
  have k1 := h1
  have lt1 : ∀ x ∈ p1, x.block < W.heap.size := by obtain ⟨m, hm⟩ := k1; exact DataW.trod_lt m _ _ _ hm
  obtain ⟨z1, hr1, hn1, hb1, hz1⟩ := open_C h1
  clear hA0 hval0
  refine (lawLadderMoves_walk W a0 w0 a1 len1 cap1 z1 hr1 hn1 hb1 hz1).mono fun e W' ⟨he, bel⟩ => ?_
  subst he
  exact ⟨_, rfl, _, _, _, [], _, [], hW', trodAll_mk1 (shut_bool Try.underlying4 _), (trodAll_cons_mk (shut_int Try.underlying3 w0) (trodAll_cons_mk (Below.trod pf_laidOut (by kernel_rfl) (of_decide_eq_true (by kernel_rfl)) k1 bel lt1) trodAll_mk0)), rfl, bel.frame _, fun h => by cases h⟩

theorem k01 : (Rows.fnExactLadderMovesRow.wf (OpenSpec.ofChange Rows.fnExactLadderMovesSpec)) = true := by kernel_rfl
theorem k04 : (Try.f4.params.all (Try.prog.readableRec ·)) = true := by kernel_rfl
theorem k05 : (namedTie Try.prog Rows.fnExactLadderMovesRow.named Rows.fnExactLadderMovesSpec.vars) = true := by kernel_rfl
theorem k06 : ((Rows.fnExactLadderMovesRow.stops == [])) = true := by kernel_rfl
theorem k08 : ((Rows.fnExactLadderMovesRow.knobs == [])) = true := by kernel_rfl
theorem k10 : ((Rows.fnExactLadderMovesRow.inPlace == Try.prog.inPlace 4)) = true := by kernel_rfl
theorem k11 : ((Rows.fnExactLadderMovesRow.unfollowed == Try.prog.unfollowed 4)) = true := by kernel_rfl
theorem k12 : ((Rows.fnExactLadderMovesRow.recurses == Try.prog.recurses 4)) = true := by kernel_rfl
theorem k13 : ((Rows.fnExactLadderMovesRow.named == Try.prog.varsNamed 4)) = true := by kernel_rfl
theorem k14 : ((Rows.fnExactLadderMovesRow.maps == (Try.f4.params.toList ++ Rows.fnExactLadderMovesSpec.plain.varTypes Try.prog).any (Try.prog.mapsRec ·))) = true := by kernel_rfl
theorem k15 : ((Rows.fnExactLadderMovesRow.ifaces == (Try.f4.params.toList ++ Rows.fnExactLadderMovesSpec.plain.varTypes Try.prog).any (Try.prog.ifacesRec ·))) = true := by kernel_rfl
theorem k16 : ((Rows.fnExactLadderMovesRow.mapsOut == Try.prog.mapsAmong Try.f4.resultTypes.toList)) = true := by kernel_rfl
theorem k17 : ((Rows.fnExactLadderMovesRow.loops == (Try.f4.params.toList ++ Rows.fnExactLadderMovesSpec.plain.varTypes Try.prog).any (Try.prog.loopsFrom ·))) = true := by kernel_rfl
theorem k18 : ((Rows.fnExactLadderMovesRow.wideKeys == (Try.f4.params.toList ++ Rows.fnExactLadderMovesSpec.plain.varTypes Try.prog ++ Try.f4.resultTypes.toList).any (Try.prog.wideKeysFrom ·))) = true := by kernel_rfl
theorem k19 : (Rows.fnExactLadderMovesSpec.vars.all (Try.prog.varReadable ·)) = true := by kernel_rfl
theorem k20 : (Try.f4.resultTypes.all (fun t => Try.prog.readableRec t && decide (t < Try.prog.types.size))) = true := by kernel_rfl
theorem k21 : ((Rows.fnExactLadderMovesRow.ifacesOut == Try.f4.resultTypes.toList.any (Try.prog.ifacesRec ·))) = true := by kernel_rfl
theorem k22 : ((Rows.fnExactLadderMovesRow.loopsOut == Try.f4.resultTypes.toList.any (Try.prog.loopsFrom ·))) = true := by kernel_rfl
theorem k24 : (Rows.fnExactLadderMovesRow.shortTexts.isNone) = true := by kernel_rfl
theorem k29 : ((Rows.fnExactLadderMovesRow.kinds == (if Rows.fnExactLadderMovesRow.domain.isEmpty then [] else Try.f4.params.toList.map fun t => match Try.prog.underlying t with | some (.int k) => some k | _ => none))) = true := by kernel_rfl
theorem k30 : ((Rows.fnExactLadderMovesRow.pinned == Rows.fnExactLadderMovesRow.pinnedBy)) = true := by kernel_rfl
theorem k31 : ((Rows.fnExactLadderMovesRow.veiled == (Try.f4.params.toList ++ Rows.fnExactLadderMovesSpec.plain.varTypes Try.prog ++ Try.f4.resultTypes.toList).any (Try.prog.veiledRec ·))) = true := by kernel_rfl
theorem k32 : (Rows.fnExactLadderMovesRow.veiledFits Try.prog Try.f4.params.toList (Try.f4.params.toList ++ Rows.fnExactLadderMovesSpec.plain.varTypes Try.prog ++ Try.f4.resultTypes.toList)) = true := by kernel_rfl
theorem k23 : (Rows.fnExactLadderMovesRow.plainKeys == Try.prog.plainKeys) = true := by rw [pf_plain]; kernel_rfl
theorem k27 : (Rows.fnExactLadderMovesRow.lifted == Try.prog.liftsFinal) = true := by rw [pf_liftsFinal]; kernel_rfl
theorem k28 : (Try.prog.make == some Rows.fnExactLadderMovesRow.make) = true := by rw [pf_make]; kernel_rfl
set_option maxRecDepth 100000 in
theorem closed : joinedFacts Try.prog 4 Try.f4 Rows.fnExactLadderMovesSpec Rows.fnExactLadderMovesRow = true := by
  unfold joinedFacts
  exact band (band (band (band (band (band (band (band (band (band (band (band (band (band (band (band (band (band (band (band (band (band (band (band (band (band (band (band (band (band (band k01 pf_laidOut) pf_mapsRowed) k04) k05) k06) pf_stops) k08) pf_stopKnobs) k10) k11) k12) k13) k14) k15) k16) k17) k18) k19) k20) k21) k22) k23) k24) pf_stopsHeard) pf_mayEnter) k27) k28) k29) k30) k31) k32

theorem over : Rows.fnExactLadderMovesRow.holds Try.pinned (OpenSpec.ofChange Rows.fnExactLadderMovesSpec) :=
  OpenClaim.holds_of_wide 4 Try.f4 rfl rfl rfl rfl rfl rfl rfl ⟨rfl, rfl, rfl, rfl, rfl⟩ rfl rfl rfl rfl rfl (by kernel_rfl) Try.func4 closed
    (of_decide_eq_true (by kernel_rfl)) (by unfold Func.isWrapper; first | (rw [if_pos (by decide +kernel)]; kernel_rfl) | (rw [if_neg (by decide +kernel)]; exact ⟨rfl, rfl⟩))
    (fun os started H enc _ => lifted os started H enc)

/-- THE STATEMENT -/
theorem proved : Rows.FnExactLadderMovesSaid := over
#print axioms proved
end Go.Proofs.Ytageojkepoejiaa.fnExactLadderMoves
