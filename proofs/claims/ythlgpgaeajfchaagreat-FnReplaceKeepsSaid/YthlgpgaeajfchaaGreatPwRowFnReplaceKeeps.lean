/-
 The statement of FnReplaceKeeps, proved: the row round the walk of LawReplKeeps.
-/
import Derived.Test.YthlgpgaeajfchaaGreatPwIndexOf
import Derived.ChangeOld
import Derived.Carry

namespace Go.Proofs.YthlgpgaeajfchaaGreat.fnReplaceKeeps
open Go.ChangeShapes Go.WideShapes Go.ChangeAt Go.RowKit
open Go.ChangeMaps (open_string shut_string)
set_option linter.unusedVariables false

theorem own : ownKnob Tryz.prog.godebug = none := by kernel_rfl
theorem laidOut : laidOutB Tryz.prog = true := by kernel_rfl

set_option maxRecDepth 100000 in
theorem lifted (os : Os) (started : os.Started) (H : Type) (enc : TypeId × Value → H) :
  ReturnsInHanded {} Tryz.checked os 8 .any (Rows.fnReplaceKeepsSpec.pre6 enc Tryz.prog Tryz.f8 Rows.fnReplaceKeepsRow.domain false) (Rows.fnReplaceKeepsSpec.post enc Tryz.prog Tryz.f8 false true false false) := by
 refine returnsInHanded_of_change (C := Tryz.checked) own started (by kernel_rfl) Tryz.func8
  (ChangeSpec.witness6 (enc := enc) (C := Tryz.checked) false ⟨#[], #[.slice none 0 0], []⟩ 8 (by kernel_rfl) (by kernel_rfl) (by kernel_rfl) (by kernel_rfl)) ?_
 intro W base args ds gs before hval0 hW hcnd _
 have hval : ∀ (j : Nat) t v, Tryz.f8.params[j]? = some t → args[j]? = some v → Value.okWide Tryz.prog W .any base t v := hval0
 have hW' := hW
 obtain ⟨p, q, hA0, hV, rfl, hfz, hnd⟩ := hW
 have hA : DataW.TrodAll enc Tryz.prog W 0 (fun _ => true) true Tryz.f8.params.toList args.toList ds p := hA0
 rw [Tryz.params8] at hA hval
 obtain ⟨v0, vs0, d0, ds0, p0, q0, hargs, rfl, rfl, h0, r0⟩ := trodAll_cons hA
 obtain ⟨rfl, rfl, rfl⟩ := trodAll_nil r0
 obtain rfl : args = #[v0] := by cases args; simp_all
 obtain ⟨rfl, rfl⟩ := trodVars_none hV
 have k0 := h0
 have lt0 : ∀ x ∈ p0, x.block < W.heap.size := by obtain ⟨m, hm⟩ := k0; exact DataW.trod_lt m _ _ _ hm
 obtain ⟨a0, len0, cap0, rfl⟩ := okWide_slice Tryz.underlying22 (hval 0 22 v0 rfl rfl)
 obtain ⟨z0, w0⟩ := reads_bytes Tryz.underlying22 Tryz.underlying5 (by kernel_rfl) h0 lt0
 have c0 := reads_bytes_le Tryz.underlying22 Tryz.underlying5 (by kernel_rfl) h0
 clear hA0 hval0
 refine (lawFnReplaceKeeps a0 len0 cap0 z0 W w0 c0).mono fun e W' ⟨he, bel⟩ => ?_
 subst he
 exact ⟨_, rfl, _, _, _, [], _, [], hW', trodAll_mk1 (shut_bool Tryz.underlying4 _), (trodAll_cons_mk (Below.trod laidOut (by kernel_rfl) (of_decide_eq_true (by kernel_rfl)) k0 bel lt0) trodAll_mk0), rfl, bel.frame _, fun h => by cases h⟩

theorem band {a b : Bool} (h1 : a = true) (h2 : b = true) : (a && b) = true := by rw [h1, h2]; rfl

theorem part1 : (Rows.fnReplaceKeepsRow.wf (OpenSpec.ofChange Rows.fnReplaceKeepsSpec)) = true := by kernel_rfl

theorem part2 : (laidOutB Tryz.pinned.checked.prog) = true := by kernel_rfl

theorem part3 : (mapsRowed Tryz.pinned.checked.prog) = true := by kernel_rfl

theorem part4 : (Tryz.f8.params.all (Tryz.pinned.checked.prog.readableRec ·)) = true := by kernel_rfl

theorem part5 : (namedTie Tryz.pinned.checked.prog Rows.fnReplaceKeepsRow.named Rows.fnReplaceKeepsSpec.vars) = true := by kernel_rfl

theorem part6 : ((Rows.fnReplaceKeepsRow.stops == [])) = true := by kernel_rfl

theorem part7 : ((Tryz.pinned.checked.prog.stops == [])) = true := by kernel_rfl

theorem part8 : ((Rows.fnReplaceKeepsRow.knobs == [])) = true := by kernel_rfl

theorem part9 : ((Tryz.pinned.checked.prog.stopKnobs == [])) = true := by kernel_rfl

theorem part10 : ((Rows.fnReplaceKeepsRow.inPlace == Tryz.pinned.checked.prog.inPlace 8)) = true := by kernel_rfl

theorem part11 : ((Rows.fnReplaceKeepsRow.unfollowed == Tryz.pinned.checked.prog.unfollowed 8)) = true := by kernel_rfl

theorem part12 : ((Rows.fnReplaceKeepsRow.recurses == Tryz.pinned.checked.prog.recurses 8)) = true := by kernel_rfl

theorem part13 : ((Rows.fnReplaceKeepsRow.named == Tryz.pinned.checked.prog.varsNamed 8)) = true := by kernel_rfl

theorem part14 : ((Rows.fnReplaceKeepsRow.maps == (Tryz.f8.params.toList ++ Rows.fnReplaceKeepsSpec.plain.varTypes Tryz.pinned.checked.prog).any (Tryz.pinned.checked.prog.mapsRec ·))) = true := by kernel_rfl

theorem part15 : ((Rows.fnReplaceKeepsRow.ifaces == (Tryz.f8.params.toList ++ Rows.fnReplaceKeepsSpec.plain.varTypes Tryz.pinned.checked.prog).any (Tryz.pinned.checked.prog.ifacesRec ·))) = true := by kernel_rfl

theorem part16 : ((Rows.fnReplaceKeepsRow.mapsOut == Tryz.pinned.checked.prog.mapsAmong Tryz.f8.resultTypes.toList)) = true := by kernel_rfl

theorem part17 : ((Rows.fnReplaceKeepsRow.loops == (Tryz.f8.params.toList ++ Rows.fnReplaceKeepsSpec.plain.varTypes Tryz.pinned.checked.prog).any (Tryz.pinned.checked.prog.loopsFrom ·))) = true := by kernel_rfl

theorem part18 : ((Rows.fnReplaceKeepsRow.wideKeys == (Tryz.f8.params.toList ++ Rows.fnReplaceKeepsSpec.plain.varTypes Tryz.pinned.checked.prog ++ Tryz.f8.resultTypes.toList).any (Tryz.pinned.checked.prog.wideKeysFrom ·))) = true := by kernel_rfl

theorem part19 : (Rows.fnReplaceKeepsSpec.vars.all (Tryz.pinned.checked.prog.varReadable ·)) = true := by kernel_rfl

theorem part20 : (Tryz.f8.resultTypes.all (fun t => Tryz.pinned.checked.prog.readableRec t && decide (t < Tryz.pinned.checked.prog.types.size))) = true := by kernel_rfl

theorem part21 : ((Rows.fnReplaceKeepsRow.ifacesOut == Tryz.f8.resultTypes.toList.any (Tryz.pinned.checked.prog.ifacesRec ·))) = true := by kernel_rfl

theorem part22 : ((Rows.fnReplaceKeepsRow.loopsOut == Tryz.f8.resultTypes.toList.any (Tryz.pinned.checked.prog.loopsFrom ·))) = true := by kernel_rfl

theorem part23 : ((Rows.fnReplaceKeepsRow.plainKeys == Tryz.pinned.checked.prog.plainKeys)) = true := by kernel_rfl

theorem part24 : (Rows.fnReplaceKeepsRow.shortTexts.isNone) = true := by kernel_rfl

theorem part25 : (Tryz.pinned.checked.prog.stopsHeard) = true := by kernel_rfl

theorem part26 : (Tryz.pinned.checked.prog.mayEnter) = true := by kernel_rfl

theorem part27 : ((Rows.fnReplaceKeepsRow.lifted == Tryz.pinned.checked.prog.liftsFinal)) = true := by kernel_rfl

theorem part28 : ((Tryz.pinned.checked.prog.make == some Rows.fnReplaceKeepsRow.make)) = true := by kernel_rfl

theorem part29 : ((Rows.fnReplaceKeepsRow.kinds == (if Rows.fnReplaceKeepsRow.domain.isEmpty then [] else Tryz.f8.params.toList.map fun t => match Tryz.pinned.checked.prog.underlying t with | some (.int k) => some k | _ => none))) = true := by kernel_rfl

theorem part30 : ((Rows.fnReplaceKeepsRow.pinned == Rows.fnReplaceKeepsRow.pinnedBy)) = true := by kernel_rfl

theorem part31 : ((Rows.fnReplaceKeepsRow.veiled == (Tryz.f8.params.toList ++ Rows.fnReplaceKeepsSpec.plain.varTypes Tryz.pinned.checked.prog ++ Tryz.f8.resultTypes.toList).any (Tryz.pinned.checked.prog.veiledRec ·))) = true := by kernel_rfl

theorem part32 : (Rows.fnReplaceKeepsRow.veiledFits Tryz.pinned.checked.prog Tryz.f8.params.toList (Tryz.f8.params.toList ++ Rows.fnReplaceKeepsSpec.plain.varTypes Tryz.pinned.checked.prog ++ Tryz.f8.resultTypes.toList)) = true := by kernel_rfl

set_option maxRecDepth 100000 in
theorem closed : joinedFacts Tryz.pinned.checked.prog 8 Tryz.f8 Rows.fnReplaceKeepsSpec Rows.fnReplaceKeepsRow = true := by
 unfold joinedFacts
 exact (band (band (band (band (band (band (band (band (band (band (band (band (band (band (band (band (band (band (band (band (band (band (band (band (band (band (band (band (band (band (band part1 part2) part3) part4) part5) part6) part7) part8) part9) part10) part11) part12) part13) part14) part15) part16) part17) part18) part19) part20) part21) part22) part23) part24) part25) part26) part27) part28) part29) part30) part31) part32)

theorem fact1 : Tryz.pinned.checked.prog.funcNamed Rows.fnReplaceKeepsRow.func = some 8 := by kernel_rfl

theorem fact3 : Tryz.f8.isInstance Tryz.pinned.checked.prog Rows.fnReplaceKeepsRow.origin Rows.fnReplaceKeepsRow.targs := of_decide_eq_true (by kernel_rfl)

theorem fact4 : Tryz.f8.isWrapper Tryz.pinned.checked.prog Rows.fnReplaceKeepsRow.wrapper Rows.fnReplaceKeepsRow.mainSum := by unfold Func.isWrapper; first | (rw [if_pos (by decide +kernel)]; kernel_rfl) | (rw [if_neg (by decide +kernel)]; exact ⟨rfl, rfl⟩)

theorem over : Rows.fnReplaceKeepsRow.holds Tryz.pinned (OpenSpec.ofChange Rows.fnReplaceKeepsSpec) :=
 OpenClaim.holds_of_wide 8 Tryz.f8 rfl rfl rfl rfl rfl rfl rfl ⟨rfl, rfl, rfl, rfl, rfl⟩ rfl rfl rfl rfl rfl fact1 Tryz.func8 closed
  fact3 fact4 (fun os started H enc _ => lifted os started H enc)

theorem proved : Rows.FnReplaceKeepsSaid := over
#print axioms proved

end Go.Proofs.YthlgpgaeajfchaaGreat.fnReplaceKeeps

