/-
  Statement FnExactIsobaricOf: for every input the law returns true and its arguments read as before. No condition. Written by a program of ours after the kit's proof-skeleton.
-/
import Derived.Test.YtiiiiolifpaehaaLIsobaricOf
import Derived.Test.YtiiiiolifpaehaaOpen
import Derived.Test.YtiiiiolifpaehaaKP4
import Derived.Test.YtiiiiolifpaehaaFacts
namespace Go.Proofs.Ytiiiiolifpaehaa.fnExactIsobaricOf
open Go.ChangeShapes Go.WideShapes Go.ChangeAt Go.RowKit
open Go.ChangeMaps (open_string shut_string)
set_option linter.unusedVariables false

set_option maxRecDepth 100000 in
theorem lifted (os : Os) (started : os.Started) (H : Type) (enc : TypeId × Value → H) :
    ReturnsInHanded {} Try.checked os 12 .any (Rows.fnExactIsobaricOfSpec.pre6 enc Try.prog Try.f12 Rows.fnExactIsobaricOfRow.domain false) (Rows.fnExactIsobaricOfSpec.post enc Try.prog Try.f12 false true false false) := by
  refine returnsInHanded_of_change (C := Try.checked) own started (by kernel_rfl) Try.func12
    (ChangeSpec.witness6 (enc := enc) (C := Try.checked) false ⟨#[], #[.slice none 0 0, .int .i64 0], []⟩ 8 (by kernel_rfl) (by kernel_rfl) (by kernel_rfl) (by kernel_rfl)) ?_
  intro W base args ds gs before hval0 hW hcnd _
  have hval : ∀ (j : Nat) t v, Try.f12.params[j]? = some t → args[j]? = some v → Value.okWide Try.prog W .any base t v := hval0
  have hW' := hW
  obtain ⟨p, q, hA0, hV, rfl, hfz, hnd⟩ := hW
  have hA : DataW.TrodAll enc Try.prog W 0 (fun _ => true) true Try.f12.params.toList args.toList ds p := hA0
  rw [Try.params12] at hA hval
  obtain ⟨v0, vs0, d0, ds0, p0, q0, hargs, rfl, rfl, h0, r0⟩ := trodAll_cons hA
  obtain ⟨v1, vs1, d1, ds1, p1, q1, rfl, rfl, rfl, h1, r1⟩ := trodAll_cons r0
  obtain ⟨rfl, rfl, rfl⟩ := trodAll_nil r1
  obtain rfl : args = #[v0, v1] := by cases args; simp_all
  obtain ⟨rfl, rfl⟩ := trodVars_none hV
  obtain ⟨a0, len0, cap0, rfl⟩ := okWide_slice Try.underlying58 (hval 0 58 v0 rfl rfl)
  have k0 := h0
  have lt0 : ∀ x ∈ p0, x.block < W.heap.size := by obtain ⟨m, hm⟩ := k0; exact DataW.trod_lt m _ _ _ hm
  obtain ⟨z0, hr0, hn0, hb0, hz0⟩ := open_P h0
  obtain ⟨a1, rfl, rfl, rfl, w1⟩ := open_int Try.underlying3 (hval 1 3 v1 rfl rfl) h1
  clear hA0 hval0
  refine (lawIsobaricOf_walk W a0 len0 cap0 z0 hr0 hn0 hb0 hz0 a1 w1).mono fun e W' ⟨he, bel⟩ => ?_
  subst he
  exact ⟨_, rfl, _, _, _, [], _, [], hW', trodAll_mk1 (shut_bool Try.underlying4 _), (trodAll_cons_mk (Below.trod pf_laidOut (by kernel_rfl) (of_decide_eq_true (by kernel_rfl)) k0 bel lt0) (trodAll_cons_mk (shut_int Try.underlying3 w1) trodAll_mk0)), rfl, bel.frame _, fun h => by cases h⟩

theorem k01 : (Rows.fnExactIsobaricOfRow.wf (OpenSpec.ofChange Rows.fnExactIsobaricOfSpec)) = true := by kernel_rfl
theorem k04 : (Try.f12.params.all (Try.prog.readableRec ·)) = true := by kernel_rfl
theorem k05 : (namedTie Try.prog Rows.fnExactIsobaricOfRow.named Rows.fnExactIsobaricOfSpec.vars) = true := by kernel_rfl
theorem k06 : ((Rows.fnExactIsobaricOfRow.stops == [])) = true := by kernel_rfl
theorem k08 : ((Rows.fnExactIsobaricOfRow.knobs == [])) = true := by kernel_rfl
theorem k10 : ((Rows.fnExactIsobaricOfRow.inPlace == Try.prog.inPlace 12)) = true := by kernel_rfl
theorem k11 : ((Rows.fnExactIsobaricOfRow.unfollowed == Try.prog.unfollowed 12)) = true := by kernel_rfl
theorem k12 : ((Rows.fnExactIsobaricOfRow.recurses == Try.prog.recurses 12)) = true := by kernel_rfl
theorem k13 : ((Rows.fnExactIsobaricOfRow.named == Try.prog.varsNamed 12)) = true := by kernel_rfl
theorem k14 : ((Rows.fnExactIsobaricOfRow.maps == (Try.f12.params.toList ++ Rows.fnExactIsobaricOfSpec.plain.varTypes Try.prog).any (Try.prog.mapsRec ·))) = true := by kernel_rfl
theorem k15 : ((Rows.fnExactIsobaricOfRow.ifaces == (Try.f12.params.toList ++ Rows.fnExactIsobaricOfSpec.plain.varTypes Try.prog).any (Try.prog.ifacesRec ·))) = true := by kernel_rfl
theorem k16 : ((Rows.fnExactIsobaricOfRow.mapsOut == Try.prog.mapsAmong Try.f12.resultTypes.toList)) = true := by kernel_rfl
theorem k17 : ((Rows.fnExactIsobaricOfRow.loops == (Try.f12.params.toList ++ Rows.fnExactIsobaricOfSpec.plain.varTypes Try.prog).any (Try.prog.loopsFrom ·))) = true := by kernel_rfl
theorem k18 : ((Rows.fnExactIsobaricOfRow.wideKeys == (Try.f12.params.toList ++ Rows.fnExactIsobaricOfSpec.plain.varTypes Try.prog ++ Try.f12.resultTypes.toList).any (Try.prog.wideKeysFrom ·))) = true := by kernel_rfl
theorem k19 : (Rows.fnExactIsobaricOfSpec.vars.all (Try.prog.varReadable ·)) = true := by kernel_rfl
theorem k20 : (Try.f12.resultTypes.all (fun t => Try.prog.readableRec t && decide (t < Try.prog.types.size))) = true := by kernel_rfl
theorem k21 : ((Rows.fnExactIsobaricOfRow.ifacesOut == Try.f12.resultTypes.toList.any (Try.prog.ifacesRec ·))) = true := by kernel_rfl
theorem k22 : ((Rows.fnExactIsobaricOfRow.loopsOut == Try.f12.resultTypes.toList.any (Try.prog.loopsFrom ·))) = true := by kernel_rfl
theorem k24 : (Rows.fnExactIsobaricOfRow.shortTexts.isNone) = true := by kernel_rfl
theorem k29 : ((Rows.fnExactIsobaricOfRow.kinds == (if Rows.fnExactIsobaricOfRow.domain.isEmpty then [] else Try.f12.params.toList.map fun t => match Try.prog.underlying t with | some (.int k) => some k | _ => none))) = true := by kernel_rfl
theorem k30 : ((Rows.fnExactIsobaricOfRow.pinned == Rows.fnExactIsobaricOfRow.pinnedBy)) = true := by kernel_rfl
theorem k31 : ((Rows.fnExactIsobaricOfRow.veiled == (Try.f12.params.toList ++ Rows.fnExactIsobaricOfSpec.plain.varTypes Try.prog ++ Try.f12.resultTypes.toList).any (Try.prog.veiledRec ·))) = true := by kernel_rfl
theorem k32 : (Rows.fnExactIsobaricOfRow.veiledFits Try.prog Try.f12.params.toList (Try.f12.params.toList ++ Rows.fnExactIsobaricOfSpec.plain.varTypes Try.prog ++ Try.f12.resultTypes.toList)) = true := by kernel_rfl
theorem k23 : (Rows.fnExactIsobaricOfRow.plainKeys == Try.prog.plainKeys) = true := by rw [pf_plain]; kernel_rfl
theorem k27 : (Rows.fnExactIsobaricOfRow.lifted == Try.prog.liftsFinal) = true := by rw [pf_liftsFinal]; kernel_rfl
theorem k28 : (Try.prog.make == some Rows.fnExactIsobaricOfRow.make) = true := by rw [pf_make]; kernel_rfl
set_option maxRecDepth 100000 in
theorem closed : joinedFacts Try.prog 12 Try.f12 Rows.fnExactIsobaricOfSpec Rows.fnExactIsobaricOfRow = true := by
  unfold joinedFacts
  exact band (band (band (band (band (band (band (band (band (band (band (band (band (band (band (band (band (band (band (band (band (band (band (band (band (band (band (band (band (band (band k01 pf_laidOut) pf_mapsRowed) k04) k05) k06) pf_stops) k08) pf_stopKnobs) k10) k11) k12) k13) k14) k15) k16) k17) k18) k19) k20) k21) k22) k23) k24) pf_stopsHeard) pf_mayEnter) k27) k28) k29) k30) k31) k32

theorem over : Rows.fnExactIsobaricOfRow.holds Try.pinned (OpenSpec.ofChange Rows.fnExactIsobaricOfSpec) :=
  OpenClaim.holds_of_wide 12 Try.f12 rfl rfl rfl rfl rfl rfl rfl ⟨rfl, rfl, rfl, rfl, rfl⟩ rfl rfl rfl rfl rfl (by kernel_rfl) Try.func12 closed
    (of_decide_eq_true (by kernel_rfl)) (by unfold Func.isWrapper; first | (rw [if_pos (by decide +kernel)]; kernel_rfl) | (rw [if_neg (by decide +kernel)]; exact ⟨rfl, rfl⟩))
    (fun os started H enc _ => lifted os started H enc)

/-- THE STATEMENT -/
theorem proved : Rows.FnExactIsobaricOfSaid := over
#print axioms proved
end Go.Proofs.Ytiiiiolifpaehaa.fnExactIsobaricOf
