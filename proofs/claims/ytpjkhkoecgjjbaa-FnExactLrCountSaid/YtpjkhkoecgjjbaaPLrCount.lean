/-
  Statement FnExactLrCount: for every input the law returns true and its arguments read as before. No condition. The frame was written by the kit's proof-skeleton program and turned by a program of ours.
-/
import Derived.Test.YtpjkhkoecgjjbaaLLrCount
import Derived.Test.YtpjkhkoecgjjbaaBuL3
import Derived.Test.YtpjkhkoecgjjbaaFacts
namespace Go.Proofs.Ytpjkhkoecgjjbaa.fnExactLrCount
open Go.ChangeShapes Go.WideShapes Go.ChangeAt Go.RowKit
open Go.ChangeMaps (open_string shut_string)

/-! ### THE ROW's STEP: WRITTEN OUT: LEAVE IT -/
set_option maxRecDepth 100000 in
theorem lifted (os : Os) (started : os.Started) (H : Type) (enc : TypeId × Value → H) :
    ReturnsInHanded {} Try.checked os 4 .any (Rows.fnExactLrCountSpec.pre6 enc Try.prog Try.f4 Rows.fnExactLrCountRow.domain false) (Rows.fnExactLrCountSpec.post enc Try.prog Try.f4 false true false false) := by
  refine returnsInHanded_of_change (C := Try.checked) own started (by kernel_rfl) Try.func4
    (ChangeSpec.witness6 (enc := enc) (C := Try.checked) false ⟨#[], #[.slice none 0 0, .slice none 0 0, .slice none 0 0], []⟩ 8 (by kernel_rfl) (by kernel_rfl) (by kernel_rfl) (by kernel_rfl)) ?_
  intro W base args ds gs before hval0 hW hcnd _
  have hval : ∀ (j : Nat) t v, Try.f4.params[j]? = some t → args[j]? = some v → Value.okWide Try.prog W .any base t v := hval0
  have hW' := hW
  obtain ⟨p, q, hA0, hV, rfl, hfz, hnd⟩ := hW
  have hA : DataW.TrodAll enc Try.prog W 0 (fun _ => true) true Try.f4.params.toList args.toList ds p := hA0
  rw [Try.params4] at hA hval
  obtain ⟨v0, vs0, d0, ds0, p0, q0, hargs, rfl, rfl, h0, r0⟩ := trodAll_cons hA
  obtain ⟨v1, vs1, d1, ds1, p1, q1, rfl, rfl, rfl, h1, r1⟩ := trodAll_cons r0
  obtain ⟨v2, vs2, d2, ds2, p2, q2, rfl, rfl, rfl, h2, r2⟩ := trodAll_cons r1
  obtain ⟨rfl, rfl, rfl⟩ := trodAll_nil r2
  obtain rfl : args = #[v0, v1, v2] := by cases args; simp_all
  obtain ⟨rfl, rfl⟩ := trodVars_none hV
  obtain ⟨a0, len0, cap0, rfl⟩ := okWide_slice Try.underlying22 (hval 0 22 v0 rfl rfl)
  have k0 := h0
  have lt0 : ∀ x ∈ p0, x.block < W.heap.size := by obtain ⟨m, hm⟩ := k0; exact DataW.trod_lt m _ _ _ hm
  obtain ⟨z0, w0⟩ : ∃ zs, IsRow .i64 W a0 len0 cap0 zs := by
    obtain ⟨fuel, hf⟩ := h0
    rcases open_ints Try.underlying22 Try.underlying3 (by kernel_rfl) hf with ⟨hcs, _⟩ | ⟨x, l, c, zs, hcs, _, hl, hm, hz, _, hcell, hwz⟩
    · simp [Value.cells] at hcs
      obtain ⟨rfl, rfl, rfl⟩ := hcs
      exact ⟨[], .inl ⟨rfl, rfl, rfl, rfl⟩⟩
    · simp [Value.cells] at hcs
      obtain ⟨rfl, rfl, rfl⟩ := hcs
      exact ⟨zs, .inr ⟨_, rfl, hl, hm, by simpa using hz, hcell, hwz⟩⟩
  obtain ⟨a1, len1, cap1, rfl⟩ := okWide_slice Try.underlying22 (hval 1 22 v1 rfl rfl)
  have k1 := h1
  have lt1 : ∀ x ∈ p1, x.block < W.heap.size := by obtain ⟨m, hm⟩ := k1; exact DataW.trod_lt m _ _ _ hm
  obtain ⟨z1, w1⟩ : ∃ zs, IsRow .i64 W a1 len1 cap1 zs := by
    obtain ⟨fuel, hf⟩ := h1
    rcases open_ints Try.underlying22 Try.underlying3 (by kernel_rfl) hf with ⟨hcs, _⟩ | ⟨x, l, c, zs, hcs, _, hl, hm, hz, _, hcell, hwz⟩
    · simp [Value.cells] at hcs
      obtain ⟨rfl, rfl, rfl⟩ := hcs
      exact ⟨[], .inl ⟨rfl, rfl, rfl, rfl⟩⟩
    · simp [Value.cells] at hcs
      obtain ⟨rfl, rfl, rfl⟩ := hcs
      exact ⟨zs, .inr ⟨_, rfl, hl, hm, by simpa using hz, hcell, hwz⟩⟩
  obtain ⟨a2, len2, cap2, rfl⟩ := okWide_slice Try.underlying22 (hval 2 22 v2 rfl rfl)
  have k2 := h2
  have lt2 : ∀ x ∈ p2, x.block < W.heap.size := by obtain ⟨m, hm⟩ := k2; exact DataW.trod_lt m _ _ _ hm
  obtain ⟨z2, w2⟩ : ∃ zs, IsRow .i64 W a2 len2 cap2 zs := by
    obtain ⟨fuel, hf⟩ := h2
    rcases open_ints Try.underlying22 Try.underlying3 (by kernel_rfl) hf with ⟨hcs, _⟩ | ⟨x, l, c, zs, hcs, _, hl, hm, hz, _, hcell, hwz⟩
    · simp [Value.cells] at hcs
      obtain ⟨rfl, rfl, rfl⟩ := hcs
      exact ⟨[], .inl ⟨rfl, rfl, rfl, rfl⟩⟩
    · simp [Value.cells] at hcs
      obtain ⟨rfl, rfl, rfl⟩ := hcs
      exact ⟨zs, .inr ⟨_, rfl, hl, hm, by simpa using hz, hcell, hwz⟩⟩
  clear hA0 hval0
  obtain ⟨hr0, hn0, hb0, hz0⟩ := w0.ri
  obtain ⟨hr1, hn1, hb1, hz1⟩ := w1.ri
  obtain ⟨hr2, hn2, hb2, hz2⟩ := w2.ri
  refine (lawLrCount_walk W a0 len0 cap0 _ hr0 hn0 hb0 hz0 a1 len1 cap1 _ hr1 hn1 hb1 hz1 a2 len2 cap2 _ hr2 hn2 hb2 hz2).mono fun e W' ⟨he, bel⟩ => ?_
  subst he
  exact ⟨_, rfl, _, _, _, [], _, [], hW', trodAll_mk1 (shut_bool Try.underlying4 _), (trodAll_cons_mk (Below.trod pf_laidOut (by kernel_rfl) (of_decide_eq_true (by kernel_rfl)) k0 bel lt0) (trodAll_cons_mk (Below.trod pf_laidOut (by kernel_rfl) (of_decide_eq_true (by kernel_rfl)) k1 bel lt1) (trodAll_cons_mk (Below.trod pf_laidOut (by kernel_rfl) (of_decide_eq_true (by kernel_rfl)) k2 bel lt2) trodAll_mk0))), rfl, bel.frame _, fun h => by cases h⟩

theorem k01 : (Rows.fnExactLrCountRow.wf (OpenSpec.ofChange Rows.fnExactLrCountSpec)) = true := by kernel_rfl
theorem k04 : (Try.f4.params.all (Try.prog.readableRec ·)) = true := by kernel_rfl
theorem k05 : (namedTie Try.prog Rows.fnExactLrCountRow.named Rows.fnExactLrCountSpec.vars) = true := by kernel_rfl
theorem k06 : ((Rows.fnExactLrCountRow.stops == [])) = true := by kernel_rfl
theorem k08 : ((Rows.fnExactLrCountRow.knobs == [])) = true := by kernel_rfl
theorem k10 : ((Rows.fnExactLrCountRow.inPlace == Try.prog.inPlace 4)) = true := by kernel_rfl
theorem k11 : ((Rows.fnExactLrCountRow.unfollowed == Try.prog.unfollowed 4)) = true := by kernel_rfl
theorem k12 : ((Rows.fnExactLrCountRow.recurses == Try.prog.recurses 4)) = true := by kernel_rfl
theorem k13 : ((Rows.fnExactLrCountRow.named == Try.prog.varsNamed 4)) = true := by kernel_rfl
theorem k14 : ((Rows.fnExactLrCountRow.maps == (Try.f4.params.toList ++ Rows.fnExactLrCountSpec.plain.varTypes Try.prog).any (Try.prog.mapsRec ·))) = true := by kernel_rfl
theorem k15 : ((Rows.fnExactLrCountRow.ifaces == (Try.f4.params.toList ++ Rows.fnExactLrCountSpec.plain.varTypes Try.prog).any (Try.prog.ifacesRec ·))) = true := by kernel_rfl
theorem k16 : ((Rows.fnExactLrCountRow.mapsOut == Try.prog.mapsAmong Try.f4.resultTypes.toList)) = true := by kernel_rfl
theorem k17 : ((Rows.fnExactLrCountRow.loops == (Try.f4.params.toList ++ Rows.fnExactLrCountSpec.plain.varTypes Try.prog).any (Try.prog.loopsFrom ·))) = true := by kernel_rfl
theorem k18 : ((Rows.fnExactLrCountRow.wideKeys == (Try.f4.params.toList ++ Rows.fnExactLrCountSpec.plain.varTypes Try.prog ++ Try.f4.resultTypes.toList).any (Try.prog.wideKeysFrom ·))) = true := by kernel_rfl
theorem k19 : (Rows.fnExactLrCountSpec.vars.all (Try.prog.varReadable ·)) = true := by kernel_rfl
theorem k20 : (Try.f4.resultTypes.all (fun t => Try.prog.readableRec t && decide (t < Try.prog.types.size))) = true := by kernel_rfl
theorem k21 : ((Rows.fnExactLrCountRow.ifacesOut == Try.f4.resultTypes.toList.any (Try.prog.ifacesRec ·))) = true := by kernel_rfl
theorem k22 : ((Rows.fnExactLrCountRow.loopsOut == Try.f4.resultTypes.toList.any (Try.prog.loopsFrom ·))) = true := by kernel_rfl
theorem k24 : (Rows.fnExactLrCountRow.shortTexts.isNone) = true := by kernel_rfl
theorem k29 : ((Rows.fnExactLrCountRow.kinds == (if Rows.fnExactLrCountRow.domain.isEmpty then [] else Try.f4.params.toList.map fun t => match Try.prog.underlying t with | some (.int k) => some k | _ => none))) = true := by kernel_rfl
theorem k30 : ((Rows.fnExactLrCountRow.pinned == Rows.fnExactLrCountRow.pinnedBy)) = true := by kernel_rfl
theorem k31 : ((Rows.fnExactLrCountRow.veiled == (Try.f4.params.toList ++ Rows.fnExactLrCountSpec.plain.varTypes Try.prog ++ Try.f4.resultTypes.toList).any (Try.prog.veiledRec ·))) = true := by kernel_rfl
theorem k32 : (Rows.fnExactLrCountRow.veiledFits Try.prog Try.f4.params.toList (Try.f4.params.toList ++ Rows.fnExactLrCountSpec.plain.varTypes Try.prog ++ Try.f4.resultTypes.toList)) = true := by kernel_rfl
theorem k23 : (Rows.fnExactLrCountRow.plainKeys == Try.prog.plainKeys) = true := by rw [pf_plain]; kernel_rfl
theorem k27 : (Rows.fnExactLrCountRow.lifted == Try.prog.liftsFinal) = true := by rw [pf_liftsFinal]; kernel_rfl
theorem k28 : (Try.prog.make == some Rows.fnExactLrCountRow.make) = true := by rw [pf_make]; kernel_rfl
set_option maxRecDepth 100000 in
theorem closed : joinedFacts Try.prog 4 Try.f4 Rows.fnExactLrCountSpec Rows.fnExactLrCountRow = true := by
  unfold joinedFacts
  exact band (band (band (band (band (band (band (band (band (band (band (band (band (band (band (band (band (band (band (band (band (band (band (band (band (band (band (band (band (band (band k01 pf_laidOut) pf_mapsRowed) k04) k05) k06) pf_stops) k08) pf_stopKnobs) k10) k11) k12) k13) k14) k15) k16) k17) k18) k19) k20) k21) k22) k23) k24) pf_stopsHeard) pf_mayEnter) k27) k28) k29) k30) k31) k32

theorem over : Rows.fnExactLrCountRow.holds Try.pinned (OpenSpec.ofChange Rows.fnExactLrCountSpec) :=
  OpenClaim.holds_of_wide 4 Try.f4 rfl rfl rfl rfl rfl rfl rfl ⟨rfl, rfl, rfl, rfl, rfl⟩ rfl rfl rfl rfl rfl (by kernel_rfl) Try.func4 closed
    (of_decide_eq_true (by kernel_rfl)) (by unfold Func.isWrapper; first | (rw [if_pos (by decide +kernel)]; kernel_rfl) | (rw [if_neg (by decide +kernel)]; exact ⟨rfl, rfl⟩))
    (fun os started H enc _ => lifted os started H enc)

/-- ████ THE STATEMENT ████ -/
theorem proved : Rows.FnExactLrCountSaid := over
#print axioms proved
end Go.Proofs.Ytpjkhkoecgjjbaa.fnExactLrCount

