/-
  Statement FnExactMonkProduct: for every input the law returns true and its arguments read as before. No condition. Written by a program of ours after the kit's proof-skeleton.
-/
import Derived.Test.YtocgcgmlemoekaaLMonkProduct
import Derived.Test.YtocgcgmlemoekaaOpen
import Derived.Test.YtocgcgmlemoekaaFacts
namespace Go.Proofs.Ytocgcgmlemoekaa.fnExactMonkProduct
open Go.ChangeShapes Go.WideShapes Go.ChangeAt Go.RowKit
open Go.ChangeMaps (open_string shut_string)
set_option linter.unusedVariables false

set_option maxRecDepth 100000 in
theorem lifted (os : Os) (started : os.Started) (H : Type) (enc : TypeId × Value → H) :
    ReturnsInHanded {} Try.checked os 10 .any (Rows.fnExactMonkProductSpec.pre6 enc Try.prog Try.f10 Rows.fnExactMonkProductRow.domain false) (Rows.fnExactMonkProductSpec.post enc Try.prog Try.f10 false true false false) := by
  refine returnsInHanded_of_change (C := Try.checked) own started (by kernel_rfl) Try.func10
    (ChangeSpec.witness6 (enc := enc) (C := Try.checked) false ⟨#[], #[.slice none 0 0, .int .i64 0], []⟩ 8 (by kernel_rfl) (by kernel_rfl) (by kernel_rfl) (by kernel_rfl)) ?_
  intro W base args ds gs before hval0 hW hcnd _
  have hval : ∀ (j : Nat) t v, Try.f10.params[j]? = some t → args[j]? = some v → Value.okWide Try.prog W .any base t v := hval0
  have hW' := hW
  obtain ⟨p, q, hA0, hV, rfl, hfz, hnd⟩ := hW
  have hA : DataW.TrodAll enc Try.prog W 0 (fun _ => true) true Try.f10.params.toList args.toList ds p := hA0
  rw [Try.params10] at hA hval
  obtain ⟨v0, vs0, d0, ds0, p0, q0, hargs, rfl, rfl, h0, r0⟩ := trodAll_cons hA
  obtain ⟨v1, vs1, d1, ds1, p1, q1, rfl, rfl, rfl, h1, r1⟩ := trodAll_cons r0
  obtain ⟨rfl, rfl, rfl⟩ := trodAll_nil r1
  obtain rfl : args = #[v0, v1] := by cases args; simp_all
  obtain ⟨rfl, rfl⟩ := trodVars_none hV
  obtain ⟨a0, len0, cap0, rfl⟩ := okWide_slice Try.underlying22 (hval 0 22 v0 rfl rfl)
  have k0 := h0
  have lt0 : ∀ x ∈ p0, x.block < W.heap.size := by obtain ⟨m, hm⟩ := k0; exact DataW.trod_lt m _ _ _ hm
  obtain ⟨z0, hr0, hn0, hb0, hz0⟩ := open_I h0
  obtain ⟨a1, rfl, rfl, rfl, w1⟩ := open_int Try.underlying3 (hval 1 3 v1 rfl rfl) h1
  clear hA0 hval0
  refine (lawMonkProduct_walk W a0 len0 cap0 z0 hr0 hn0 hb0 hz0 a1 w1).mono fun e W' ⟨he, bel⟩ => ?_
  subst he
  exact ⟨_, rfl, _, _, _, [], _, [], hW', trodAll_mk1 (shut_bool Try.underlying4 _), (trodAll_cons_mk (Below.trod pf_laidOut (by kernel_rfl) (of_decide_eq_true (by kernel_rfl)) k0 bel lt0) (trodAll_cons_mk (shut_int Try.underlying3 w1) trodAll_mk0)), rfl, bel.frame _, fun h => by cases h⟩

theorem k01 : (Rows.fnExactMonkProductRow.wf (OpenSpec.ofChange Rows.fnExactMonkProductSpec)) = true := by kernel_rfl
theorem k04 : (Try.f10.params.all (Try.prog.readableRec ·)) = true := by kernel_rfl
theorem k05 : (namedTie Try.prog Rows.fnExactMonkProductRow.named Rows.fnExactMonkProductSpec.vars) = true := by kernel_rfl
theorem k06 : ((Rows.fnExactMonkProductRow.stops == [])) = true := by kernel_rfl
theorem k08 : ((Rows.fnExactMonkProductRow.knobs == [])) = true := by kernel_rfl
theorem k10 : ((Rows.fnExactMonkProductRow.inPlace == Try.prog.inPlace 10)) = true := by kernel_rfl
theorem k11 : ((Rows.fnExactMonkProductRow.unfollowed == Try.prog.unfollowed 10)) = true := by kernel_rfl
theorem k12 : ((Rows.fnExactMonkProductRow.recurses == Try.prog.recurses 10)) = true := by kernel_rfl
theorem k13 : ((Rows.fnExactMonkProductRow.named == Try.prog.varsNamed 10)) = true := by kernel_rfl
theorem k14 : ((Rows.fnExactMonkProductRow.maps == (Try.f10.params.toList ++ Rows.fnExactMonkProductSpec.plain.varTypes Try.prog).any (Try.prog.mapsRec ·))) = true := by kernel_rfl
theorem k15 : ((Rows.fnExactMonkProductRow.ifaces == (Try.f10.params.toList ++ Rows.fnExactMonkProductSpec.plain.varTypes Try.prog).any (Try.prog.ifacesRec ·))) = true := by kernel_rfl
theorem k16 : ((Rows.fnExactMonkProductRow.mapsOut == Try.prog.mapsAmong Try.f10.resultTypes.toList)) = true := by kernel_rfl
theorem k17 : ((Rows.fnExactMonkProductRow.loops == (Try.f10.params.toList ++ Rows.fnExactMonkProductSpec.plain.varTypes Try.prog).any (Try.prog.loopsFrom ·))) = true := by kernel_rfl
theorem k18 : ((Rows.fnExactMonkProductRow.wideKeys == (Try.f10.params.toList ++ Rows.fnExactMonkProductSpec.plain.varTypes Try.prog ++ Try.f10.resultTypes.toList).any (Try.prog.wideKeysFrom ·))) = true := by kernel_rfl
theorem k19 : (Rows.fnExactMonkProductSpec.vars.all (Try.prog.varReadable ·)) = true := by kernel_rfl
theorem k20 : (Try.f10.resultTypes.all (fun t => Try.prog.readableRec t && decide (t < Try.prog.types.size))) = true := by kernel_rfl
theorem k21 : ((Rows.fnExactMonkProductRow.ifacesOut == Try.f10.resultTypes.toList.any (Try.prog.ifacesRec ·))) = true := by kernel_rfl
theorem k22 : ((Rows.fnExactMonkProductRow.loopsOut == Try.f10.resultTypes.toList.any (Try.prog.loopsFrom ·))) = true := by kernel_rfl
theorem k24 : (Rows.fnExactMonkProductRow.shortTexts.isNone) = true := by kernel_rfl
theorem k29 : ((Rows.fnExactMonkProductRow.kinds == (if Rows.fnExactMonkProductRow.domain.isEmpty then [] else Try.f10.params.toList.map fun t => match Try.prog.underlying t with | some (.int k) => some k | _ => none))) = true := by kernel_rfl
theorem k30 : ((Rows.fnExactMonkProductRow.pinned == Rows.fnExactMonkProductRow.pinnedBy)) = true := by kernel_rfl
theorem k31 : ((Rows.fnExactMonkProductRow.veiled == (Try.f10.params.toList ++ Rows.fnExactMonkProductSpec.plain.varTypes Try.prog ++ Try.f10.resultTypes.toList).any (Try.prog.veiledRec ·))) = true := by kernel_rfl
theorem k32 : (Rows.fnExactMonkProductRow.veiledFits Try.prog Try.f10.params.toList (Try.f10.params.toList ++ Rows.fnExactMonkProductSpec.plain.varTypes Try.prog ++ Try.f10.resultTypes.toList)) = true := by kernel_rfl
theorem k23 : (Rows.fnExactMonkProductRow.plainKeys == Try.prog.plainKeys) = true := by rw [pf_plain]; kernel_rfl
theorem k27 : (Rows.fnExactMonkProductRow.lifted == Try.prog.liftsFinal) = true := by rw [pf_liftsFinal]; kernel_rfl
theorem k28 : (Try.prog.make == some Rows.fnExactMonkProductRow.make) = true := by rw [pf_make]; kernel_rfl
set_option maxRecDepth 100000 in
theorem closed : joinedFacts Try.prog 10 Try.f10 Rows.fnExactMonkProductSpec Rows.fnExactMonkProductRow = true := by
  unfold joinedFacts
  exact band (band (band (band (band (band (band (band (band (band (band (band (band (band (band (band (band (band (band (band (band (band (band (band (band (band (band (band (band (band (band k01 pf_laidOut) pf_mapsRowed) k04) k05) k06) pf_stops) k08) pf_stopKnobs) k10) k11) k12) k13) k14) k15) k16) k17) k18) k19) k20) k21) k22) k23) k24) pf_stopsHeard) pf_mayEnter) k27) k28) k29) k30) k31) k32

theorem over : Rows.fnExactMonkProductRow.holds Try.pinned (OpenSpec.ofChange Rows.fnExactMonkProductSpec) :=
  OpenClaim.holds_of_wide 10 Try.f10 rfl rfl rfl rfl rfl rfl rfl ⟨rfl, rfl, rfl, rfl, rfl⟩ rfl rfl rfl rfl rfl (by kernel_rfl) Try.func10 closed
    (of_decide_eq_true (by kernel_rfl)) (by unfold Func.isWrapper; first | (rw [if_pos (by decide +kernel)]; kernel_rfl) | (rw [if_neg (by decide +kernel)]; exact ⟨rfl, rfl⟩))
    (fun os started H enc _ => lifted os started H enc)

/-- THE STATEMENT -/
theorem proved : Rows.FnExactMonkProductSaid := over
#print axioms proved
end Go.Proofs.Ytocgcgmlemoekaa.fnExactMonkProduct
