/-
  Statement FnExactShapesIn: for every input the law returns true and its arguments read as before. No condition. The frame was written by the kit's proof-skeleton program and turned by a program of ours.
-/
import Derived.Test.YtleehkgfoicmdaaLShapesIn
import Derived.Test.YtleehkgfoicmdaaOpen
import Derived.Test.YtleehkgfoicmdaaFacts
namespace Go.Proofs.Ytleehkgfoicmdaa.fnExactShapesIn
open Go.ChangeShapes Go.WideShapes Go.ChangeAt Go.RowKit
open Go.ChangeMaps (open_string shut_string)

/-! ### THE ROW's STEP: WRITTEN OUT: LEAVE IT -/
set_option maxRecDepth 100000 in
theorem lifted (os : Os) (started : os.Started) (H : Type) (enc : TypeId × Value → H) :
    ReturnsInHanded {} Try.checked os 6 .any (Rows.fnExactShapesInSpec.pre6 enc Try.prog Try.f6 Rows.fnExactShapesInRow.domain false) (Rows.fnExactShapesInSpec.post enc Try.prog Try.f6 false true false false) := by
  refine returnsInHanded_of_change (C := Try.checked) own started (by kernel_rfl) Try.func6
    (ChangeSpec.witness6 (enc := enc) (C := Try.checked) false ⟨#[], #[.int .i64 0, .int .i64 0], []⟩ 8 (by kernel_rfl) (by kernel_rfl) (by kernel_rfl) (by kernel_rfl)) ?_
  intro W base args ds gs before hval0 hW hcnd _
  have hval : ∀ (j : Nat) t v, Try.f6.params[j]? = some t → args[j]? = some v → Value.okWide Try.prog W .any base t v := hval0
  have hW' := hW
  obtain ⟨p, q, hA0, hV, rfl, hfz, hnd⟩ := hW
  have hA : DataW.TrodAll enc Try.prog W 0 (fun _ => true) true Try.f6.params.toList args.toList ds p := hA0
  rw [Try.params6] at hA hval
  obtain ⟨v0, vs0, d0, ds0, p0, q0, hargs, rfl, rfl, h0, r0⟩ := trodAll_cons hA
  obtain ⟨v1, vs1, d1, ds1, p1, q1, rfl, rfl, rfl, h1, r1⟩ := trodAll_cons r0
  obtain ⟨rfl, rfl, rfl⟩ := trodAll_nil r1
  obtain rfl : args = #[v0, v1] := by cases args; simp_all
  obtain ⟨rfl, rfl⟩ := trodVars_none hV
  obtain ⟨a0, rfl, rfl, rfl, w0⟩ := open_int Try.underlying3 (hval 0 3 v0 rfl rfl) h0
  obtain ⟨a1, rfl, rfl, rfl, w1⟩ := open_int Try.underlying3 (hval 1 3 v1 rfl rfl) h1
  clear hA0 hval0
  simp only [List.append_nil] at hW'
  refine (lawShapesIn_walk W a0 w0 a1 w1).mono fun e W' ⟨he, hg⟩ => ?_
  subst he
  exact ⟨_, rfl, _, _, _, [], _, [], hW', trodAll_mk1 (shut_bool Try.underlying4 _), (trodAll_cons_mk (shut_int Try.underlying3 w0) (trodAll_cons_mk (shut_int Try.underlying3 w1) trodAll_mk0)), rfl, hg.frame _, fun h => by cases h⟩

theorem k01 : (Rows.fnExactShapesInRow.wf (OpenSpec.ofChange Rows.fnExactShapesInSpec)) = true := by kernel_rfl
theorem k04 : (Try.f6.params.all (Try.prog.readableRec ·)) = true := by kernel_rfl
theorem k05 : (namedTie Try.prog Rows.fnExactShapesInRow.named Rows.fnExactShapesInSpec.vars) = true := by kernel_rfl
theorem k06 : ((Rows.fnExactShapesInRow.stops == [])) = true := by kernel_rfl
theorem k08 : ((Rows.fnExactShapesInRow.knobs == [])) = true := by kernel_rfl
theorem k10 : ((Rows.fnExactShapesInRow.inPlace == Try.prog.inPlace 6)) = true := by kernel_rfl
theorem k11 : ((Rows.fnExactShapesInRow.unfollowed == Try.prog.unfollowed 6)) = true := by kernel_rfl
theorem k12 : ((Rows.fnExactShapesInRow.recurses == Try.prog.recurses 6)) = true := by kernel_rfl
theorem k13 : ((Rows.fnExactShapesInRow.named == Try.prog.varsNamed 6)) = true := by kernel_rfl
theorem k14 : ((Rows.fnExactShapesInRow.maps == (Try.f6.params.toList ++ Rows.fnExactShapesInSpec.plain.varTypes Try.prog).any (Try.prog.mapsRec ·))) = true := by kernel_rfl
theorem k15 : ((Rows.fnExactShapesInRow.ifaces == (Try.f6.params.toList ++ Rows.fnExactShapesInSpec.plain.varTypes Try.prog).any (Try.prog.ifacesRec ·))) = true := by kernel_rfl
theorem k16 : ((Rows.fnExactShapesInRow.mapsOut == Try.prog.mapsAmong Try.f6.resultTypes.toList)) = true := by kernel_rfl
theorem k17 : ((Rows.fnExactShapesInRow.loops == (Try.f6.params.toList ++ Rows.fnExactShapesInSpec.plain.varTypes Try.prog).any (Try.prog.loopsFrom ·))) = true := by kernel_rfl
theorem k18 : ((Rows.fnExactShapesInRow.wideKeys == (Try.f6.params.toList ++ Rows.fnExactShapesInSpec.plain.varTypes Try.prog ++ Try.f6.resultTypes.toList).any (Try.prog.wideKeysFrom ·))) = true := by kernel_rfl
theorem k19 : (Rows.fnExactShapesInSpec.vars.all (Try.prog.varReadable ·)) = true := by kernel_rfl
theorem k20 : (Try.f6.resultTypes.all (fun t => Try.prog.readableRec t && decide (t < Try.prog.types.size))) = true := by kernel_rfl
theorem k21 : ((Rows.fnExactShapesInRow.ifacesOut == Try.f6.resultTypes.toList.any (Try.prog.ifacesRec ·))) = true := by kernel_rfl
theorem k22 : ((Rows.fnExactShapesInRow.loopsOut == Try.f6.resultTypes.toList.any (Try.prog.loopsFrom ·))) = true := by kernel_rfl
theorem k24 : (Rows.fnExactShapesInRow.shortTexts.isNone) = true := by kernel_rfl
theorem k29 : ((Rows.fnExactShapesInRow.kinds == (if Rows.fnExactShapesInRow.domain.isEmpty then [] else Try.f6.params.toList.map fun t => match Try.prog.underlying t with | some (.int k) => some k | _ => none))) = true := by kernel_rfl
theorem k30 : ((Rows.fnExactShapesInRow.pinned == Rows.fnExactShapesInRow.pinnedBy)) = true := by kernel_rfl
theorem k31 : ((Rows.fnExactShapesInRow.veiled == (Try.f6.params.toList ++ Rows.fnExactShapesInSpec.plain.varTypes Try.prog ++ Try.f6.resultTypes.toList).any (Try.prog.veiledRec ·))) = true := by kernel_rfl
theorem k32 : (Rows.fnExactShapesInRow.veiledFits Try.prog Try.f6.params.toList (Try.f6.params.toList ++ Rows.fnExactShapesInSpec.plain.varTypes Try.prog ++ Try.f6.resultTypes.toList)) = true := by kernel_rfl
theorem k23 : (Rows.fnExactShapesInRow.plainKeys == Try.prog.plainKeys) = true := by rw [pf_plain]; kernel_rfl
theorem k27 : (Rows.fnExactShapesInRow.lifted == Try.prog.liftsFinal) = true := by rw [pf_liftsFinal]; kernel_rfl
theorem k28 : (Try.prog.make == some Rows.fnExactShapesInRow.make) = true := by rw [pf_make]; kernel_rfl
set_option maxRecDepth 100000 in
theorem closed : joinedFacts Try.prog 6 Try.f6 Rows.fnExactShapesInSpec Rows.fnExactShapesInRow = true := by
  unfold joinedFacts
  exact band (band (band (band (band (band (band (band (band (band (band (band (band (band (band (band (band (band (band (band (band (band (band (band (band (band (band (band (band (band (band k01 pf_laidOut) pf_mapsRowed) k04) k05) k06) pf_stops) k08) pf_stopKnobs) k10) k11) k12) k13) k14) k15) k16) k17) k18) k19) k20) k21) k22) k23) k24) pf_stopsHeard) pf_mayEnter) k27) k28) k29) k30) k31) k32

theorem over : Rows.fnExactShapesInRow.holds Try.pinned (OpenSpec.ofChange Rows.fnExactShapesInSpec) :=
  OpenClaim.holds_of_wide 6 Try.f6 rfl rfl rfl rfl rfl rfl rfl ⟨rfl, rfl, rfl, rfl, rfl⟩ rfl rfl rfl rfl rfl (by kernel_rfl) Try.func6 closed
    (of_decide_eq_true (by kernel_rfl)) (by unfold Func.isWrapper; first | (rw [if_pos (by decide +kernel)]; kernel_rfl) | (rw [if_neg (by decide +kernel)]; exact ⟨rfl, rfl⟩))
    (fun os started H enc _ => lifted os started H enc)

/-- ████ THE STATEMENT ████ -/
theorem proved : Rows.FnExactShapesInSaid :=
  over
#print axioms proved
end Go.Proofs.Ytleehkgfoicmdaa.fnExactShapesIn

