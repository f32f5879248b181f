/-
  Statement FnMacdonald: for every input the law returns true and its arguments read as before. No condition. The frame was written by the kit's proof-skeleton program and turned by a program of ours.
-/
import Derived.Test.YtdpjcjnednmoeaaLMacdonald
import Derived.Test.YtdpjcjnednmoeaaBuM8
import Derived.Test.YtdpjcjnednmoeaaFacts
namespace Go.Proofs.Ytdpjcjnednmoeaa.fnMacdonald
open Go.ChangeShapes Go.WideShapes Go.ChangeAt Go.RowKit
open Go.ChangeMaps (open_string shut_string)

/-! ### THE ROW's STEP: WRITTEN OUT: LEAVE IT -/
set_option maxRecDepth 100000 in
theorem lifted (os : Os) (started : os.Started) (H : Type) (enc : TypeId × Value → H) :
    ReturnsInHanded {} Try.checked os 3 .any (Rows.fnMacdonaldSpec.pre6 enc Try.prog Try.f3 Rows.fnMacdonaldRow.domain false) (Rows.fnMacdonaldSpec.post enc Try.prog Try.f3 false true false false) := by
  refine returnsInHanded_of_change (C := Try.checked) own started (by kernel_rfl) Try.func3
    (ChangeSpec.witness6 (enc := enc) (C := Try.checked) false ⟨#[], #[.slice none 0 0], []⟩ 8 (by kernel_rfl) (by kernel_rfl) (by kernel_rfl) (by kernel_rfl)) ?_
  intro W base args ds gs before hval0 hW hcnd _
  have hval : ∀ (j : Nat) t v, Try.f3.params[j]? = some t → args[j]? = some v → Value.okWide Try.prog W .any base t v := hval0
  have hW' := hW
  obtain ⟨p, q, hA0, hV, rfl, hfz, hnd⟩ := hW
  have hA : DataW.TrodAll enc Try.prog W 0 (fun _ => true) true Try.f3.params.toList args.toList ds p := hA0
  rw [Try.params3] at hA hval
  obtain ⟨v0, vs0, d0, ds0, p0, q0, hargs, rfl, rfl, h0, r0⟩ := trodAll_cons hA
  obtain ⟨rfl, rfl, rfl⟩ := trodAll_nil r0
  obtain rfl : args = #[v0] := by cases args; simp_all
  obtain ⟨rfl, rfl⟩ := trodVars_none hV
  obtain ⟨a0, len0, cap0, rfl⟩ := okWide_slice Try.underlying22 (hval 0 22 v0 rfl rfl)
  have k0 := h0
  have lt0 : ∀ x ∈ p0, x.block < W.heap.size := by obtain ⟨m, hm⟩ := k0; exact DataW.trod_lt m _ _ _ hm
  obtain ⟨z0, w0⟩ : ∃ zs, IsRow .u8 W a0 len0 cap0 zs := by
    obtain ⟨fuel, hf⟩ := h0
    rcases open_ints Try.underlying22 Try.underlying5 (by kernel_rfl) hf with ⟨hcs, _⟩ | ⟨x, l, c, zs, hcs, _, hl, hm, hz, _, hcell, hwz⟩
    · simp [Value.cells] at hcs
      obtain ⟨rfl, rfl, rfl⟩ := hcs
      exact ⟨[], .inl ⟨rfl, rfl, rfl, rfl⟩⟩
    · simp [Value.cells] at hcs
      obtain ⟨rfl, rfl, rfl⟩ := hcs
      exact ⟨zs, .inr ⟨_, rfl, hl, hm, by simpa using hz, hcell, hwz⟩⟩
  clear hA0 hval0
  obtain ⟨hr0, hn0, hb0, hz0⟩ := w0.rb
  refine (lawMacdonald_walk W a0 len0 cap0 _ hr0 hn0 hb0 hz0).mono fun e W' ⟨he, bel⟩ => ?_
  subst he
  exact ⟨_, rfl, _, _, _, [], _, [], hW', trodAll_mk1 (shut_bool Try.underlying4 _), (trodAll_cons_mk (Below.trod pf_laidOut (by kernel_rfl) (of_decide_eq_true (by kernel_rfl)) k0 bel lt0) trodAll_mk0), rfl, bel.frame _, fun h => by cases h⟩

theorem k01 : (Rows.fnMacdonaldRow.wf (OpenSpec.ofChange Rows.fnMacdonaldSpec)) = true := by kernel_rfl
theorem k04 : (Try.f3.params.all (Try.prog.readableRec ·)) = true := by kernel_rfl
theorem k05 : (namedTie Try.prog Rows.fnMacdonaldRow.named Rows.fnMacdonaldSpec.vars) = true := by kernel_rfl
theorem k06 : ((Rows.fnMacdonaldRow.stops == [])) = true := by kernel_rfl
theorem k08 : ((Rows.fnMacdonaldRow.knobs == [])) = true := by kernel_rfl
theorem k10 : ((Rows.fnMacdonaldRow.inPlace == Try.prog.inPlace 3)) = true := by kernel_rfl
theorem k11 : ((Rows.fnMacdonaldRow.unfollowed == Try.prog.unfollowed 3)) = true := by kernel_rfl
theorem k12 : ((Rows.fnMacdonaldRow.recurses == Try.prog.recurses 3)) = true := by kernel_rfl
theorem k13 : ((Rows.fnMacdonaldRow.named == Try.prog.varsNamed 3)) = true := by kernel_rfl
theorem k14 : ((Rows.fnMacdonaldRow.maps == (Try.f3.params.toList ++ Rows.fnMacdonaldSpec.plain.varTypes Try.prog).any (Try.prog.mapsRec ·))) = true := by kernel_rfl
theorem k15 : ((Rows.fnMacdonaldRow.ifaces == (Try.f3.params.toList ++ Rows.fnMacdonaldSpec.plain.varTypes Try.prog).any (Try.prog.ifacesRec ·))) = true := by kernel_rfl
theorem k16 : ((Rows.fnMacdonaldRow.mapsOut == Try.prog.mapsAmong Try.f3.resultTypes.toList)) = true := by kernel_rfl
theorem k17 : ((Rows.fnMacdonaldRow.loops == (Try.f3.params.toList ++ Rows.fnMacdonaldSpec.plain.varTypes Try.prog).any (Try.prog.loopsFrom ·))) = true := by kernel_rfl
theorem k18 : ((Rows.fnMacdonaldRow.wideKeys == (Try.f3.params.toList ++ Rows.fnMacdonaldSpec.plain.varTypes Try.prog ++ Try.f3.resultTypes.toList).any (Try.prog.wideKeysFrom ·))) = true := by kernel_rfl
theorem k19 : (Rows.fnMacdonaldSpec.vars.all (Try.prog.varReadable ·)) = true := by kernel_rfl
theorem k20 : (Try.f3.resultTypes.all (fun t => Try.prog.readableRec t && decide (t < Try.prog.types.size))) = true := by kernel_rfl
theorem k21 : ((Rows.fnMacdonaldRow.ifacesOut == Try.f3.resultTypes.toList.any (Try.prog.ifacesRec ·))) = true := by kernel_rfl
theorem k22 : ((Rows.fnMacdonaldRow.loopsOut == Try.f3.resultTypes.toList.any (Try.prog.loopsFrom ·))) = true := by kernel_rfl
theorem k24 : (Rows.fnMacdonaldRow.shortTexts.isNone) = true := by kernel_rfl
theorem k29 : ((Rows.fnMacdonaldRow.kinds == (if Rows.fnMacdonaldRow.domain.isEmpty then [] else Try.f3.params.toList.map fun t => match Try.prog.underlying t with | some (.int k) => some k | _ => none))) = true := by kernel_rfl
theorem k30 : ((Rows.fnMacdonaldRow.pinned == Rows.fnMacdonaldRow.pinnedBy)) = true := by kernel_rfl
theorem k31 : ((Rows.fnMacdonaldRow.veiled == (Try.f3.params.toList ++ Rows.fnMacdonaldSpec.plain.varTypes Try.prog ++ Try.f3.resultTypes.toList).any (Try.prog.veiledRec ·))) = true := by kernel_rfl
theorem k32 : (Rows.fnMacdonaldRow.veiledFits Try.prog Try.f3.params.toList (Try.f3.params.toList ++ Rows.fnMacdonaldSpec.plain.varTypes Try.prog ++ Try.f3.resultTypes.toList)) = true := by kernel_rfl
theorem k23 : (Rows.fnMacdonaldRow.plainKeys == Try.prog.plainKeys) = true := by rw [pf_plain]; kernel_rfl
theorem k27 : (Rows.fnMacdonaldRow.lifted == Try.prog.liftsFinal) = true := by rw [pf_liftsFinal]; kernel_rfl
theorem k28 : (Try.prog.make == some Rows.fnMacdonaldRow.make) = true := by rw [pf_make]; kernel_rfl
set_option maxRecDepth 100000 in
theorem closed : joinedFacts Try.prog 3 Try.f3 Rows.fnMacdonaldSpec Rows.fnMacdonaldRow = true := by
  unfold joinedFacts
  exact band (band (band (band (band (band (band (band (band (band (band (band (band (band (band (band (band (band (band (band (band (band (band (band (band (band (band (band (band (band (band k01 pf_laidOut) pf_mapsRowed) k04) k05) k06) pf_stops) k08) pf_stopKnobs) k10) k11) k12) k13) k14) k15) k16) k17) k18) k19) k20) k21) k22) k23) k24) pf_stopsHeard) pf_mayEnter) k27) k28) k29) k30) k31) k32

theorem over : Rows.fnMacdonaldRow.holds Try.pinned (OpenSpec.ofChange Rows.fnMacdonaldSpec) :=
  OpenClaim.holds_of_wide 3 Try.f3 rfl rfl rfl rfl rfl rfl rfl ⟨rfl, rfl, rfl, rfl, rfl⟩ rfl rfl rfl rfl rfl (by kernel_rfl) Try.func3 closed
    (of_decide_eq_true (by kernel_rfl)) (by unfold Func.isWrapper; first | (rw [if_pos (by decide +kernel)]; kernel_rfl) | (rw [if_neg (by decide +kernel)]; exact ⟨rfl, rfl⟩))
    (fun os started H enc _ => lifted os started H enc)

/-- ████ THE STATEMENT ████ -/
theorem proved : Rows.FnMacdonaldSaid := over
#print axioms proved
end Go.Proofs.Ytdpjcjnednmoeaa.fnMacdonald

