/-
 The statement of FnWholeEdit, proved: the row round the walk of LawWhole.
-/
import Derived.Test.YthlgpgaeajfchaaGreatPwLawWhole
import Derived.ChangeOld
import Derived.Carry

namespace Go.Proofs.YthlgpgaeajfchaaGreat.fnWholeEdit
open Go.ChangeShapes Go.WideShapes Go.ChangeAt Go.RowKit
open Go.ChangeMaps (open_string shut_string)
set_option linter.unusedVariables false

theorem own : ownKnob Tryz.prog.godebug = none := by kernel_rfl
theorem laidOut : laidOutB Tryz.prog = true := by kernel_rfl

set_option maxRecDepth 100000 in
theorem lifted (os : Os) (started : os.Started) (H : Type) (enc : TypeId × Value → H) :
  ReturnsInHanded {} Tryz.checked os 12 .any (Rows.fnWholeEditSpec.pre6 enc Tryz.prog Tryz.f12 Rows.fnWholeEditRow.domain false) (Rows.fnWholeEditSpec.post enc Tryz.prog Tryz.f12 false true false false) := by
 refine returnsInHanded_of_change (C := Tryz.checked) own started (by kernel_rfl) Tryz.func12
  (ChangeSpec.witness6 (enc := enc) (C := Tryz.checked) false ⟨#[], #[.slice none 0 0], []⟩ 8 (by kernel_rfl) (by kernel_rfl) (by kernel_rfl) (by kernel_rfl)) ?_
 intro W base args ds gs before hval0 hW hcnd _
 have hval : ∀ (j : Nat) t v, Tryz.f12.params[j]? = some t → args[j]? = some v → Value.okWide Tryz.prog W .any base t v := hval0
 have hW' := hW
 obtain ⟨p, q, hA0, hV, rfl, hfz, hnd⟩ := hW
 have hA : DataW.TrodAll enc Tryz.prog W 0 (fun _ => true) true Tryz.f12.params.toList args.toList ds p := hA0
 rw [Tryz.params12] at hA hval
 obtain ⟨v0, vs0, d0, ds0, p0, q0, hargs, rfl, rfl, h0, r0⟩ := trodAll_cons hA
 obtain ⟨rfl, rfl, rfl⟩ := trodAll_nil r0
 obtain rfl : args = #[v0] := by cases args; simp_all
 obtain ⟨rfl, rfl⟩ := trodVars_none hV
 have k0 := h0
 have lt0 : ∀ x ∈ p0, x.block < W.heap.size := by obtain ⟨m, hm⟩ := k0; exact DataW.trod_lt m _ _ _ hm
 obtain ⟨a0, len0, cap0, rfl⟩ := okWide_slice Tryz.underlying22 (hval 0 22 v0 rfl rfl)
 obtain ⟨z0, w0⟩ := reads_bytes Tryz.underlying22 Tryz.underlying5 (by kernel_rfl) h0 lt0
 have c0 := reads_bytes_le Tryz.underlying22 Tryz.underlying5 (by kernel_rfl) h0
 clear hA0 hval0
 refine (lawFnWholeEdit a0 len0 cap0 z0 W w0 c0).mono fun e W' ⟨he, bel⟩ => ?_
 subst he
 exact ⟨_, rfl, _, _, _, [], _, [], hW', trodAll_mk1 (shut_bool Tryz.underlying4 _), (trodAll_cons_mk (Below.trod laidOut (by kernel_rfl) (of_decide_eq_true (by kernel_rfl)) k0 bel lt0) trodAll_mk0), rfl, bel.frame _, fun h => by cases h⟩

theorem band {a b : Bool} (h1 : a = true) (h2 : b = true) : (a && b) = true := by rw [h1, h2]; rfl

theorem part1 : (Rows.fnWholeEditRow.wf (OpenSpec.ofChange Rows.fnWholeEditSpec)) = true := by kernel_rfl

theorem part2 : (laidOutB Tryz.pinned.checked.prog) = true := by kernel_rfl

theorem part3 : (mapsRowed Tryz.pinned.checked.prog) = true := by kernel_rfl

theorem part4 : (Tryz.f12.params.all (Tryz.pinned.checked.prog.readableRec ·)) = true := by kernel_rfl

theorem part5 : (namedTie Tryz.pinned.checked.prog Rows.fnWholeEditRow.named Rows.fnWholeEditSpec.vars) = true := by kernel_rfl

theorem part6 : ((Rows.fnWholeEditRow.stops == [])) = true := by kernel_rfl

theorem part7 : ((Tryz.pinned.checked.prog.stops == [])) = true := by kernel_rfl

theorem part8 : ((Rows.fnWholeEditRow.knobs == [])) = true := by kernel_rfl

theorem part9 : ((Tryz.pinned.checked.prog.stopKnobs == [])) = true := by kernel_rfl

theorem part10 : ((Rows.fnWholeEditRow.inPlace == Tryz.pinned.checked.prog.inPlace 12)) = true := by kernel_rfl

theorem part11 : ((Rows.fnWholeEditRow.unfollowed == Tryz.pinned.checked.prog.unfollowed 12)) = true := by kernel_rfl

theorem part12 : ((Rows.fnWholeEditRow.recurses == Tryz.pinned.checked.prog.recurses 12)) = true := by kernel_rfl

theorem part13 : ((Rows.fnWholeEditRow.named == Tryz.pinned.checked.prog.varsNamed 12)) = true := by kernel_rfl

theorem part14 : ((Rows.fnWholeEditRow.maps == (Tryz.f12.params.toList ++ Rows.fnWholeEditSpec.plain.varTypes Tryz.pinned.checked.prog).any (Tryz.pinned.checked.prog.mapsRec ·))) = true := by kernel_rfl

theorem part15 : ((Rows.fnWholeEditRow.ifaces == (Tryz.f12.params.toList ++ Rows.fnWholeEditSpec.plain.varTypes Tryz.pinned.checked.prog).any (Tryz.pinned.checked.prog.ifacesRec ·))) = true := by kernel_rfl

theorem part16 : ((Rows.fnWholeEditRow.mapsOut == Tryz.pinned.checked.prog.mapsAmong Tryz.f12.resultTypes.toList)) = true := by kernel_rfl

theorem part17 : ((Rows.fnWholeEditRow.loops == (Tryz.f12.params.toList ++ Rows.fnWholeEditSpec.plain.varTypes Tryz.pinned.checked.prog).any (Tryz.pinned.checked.prog.loopsFrom ·))) = true := by kernel_rfl

theorem part18 : ((Rows.fnWholeEditRow.wideKeys == (Tryz.f12.params.toList ++ Rows.fnWholeEditSpec.plain.varTypes Tryz.pinned.checked.prog ++ Tryz.f12.resultTypes.toList).any (Tryz.pinned.checked.prog.wideKeysFrom ·))) = true := by kernel_rfl

theorem part19 : (Rows.fnWholeEditSpec.vars.all (Tryz.pinned.checked.prog.varReadable ·)) = true := by kernel_rfl

theorem part20 : (Tryz.f12.resultTypes.all (fun t => Tryz.pinned.checked.prog.readableRec t && decide (t < Tryz.pinned.checked.prog.types.size))) = true := by kernel_rfl

theorem part21 : ((Rows.fnWholeEditRow.ifacesOut == Tryz.f12.resultTypes.toList.any (Tryz.pinned.checked.prog.ifacesRec ·))) = true := by kernel_rfl

theorem part22 : ((Rows.fnWholeEditRow.loopsOut == Tryz.f12.resultTypes.toList.any (Tryz.pinned.checked.prog.loopsFrom ·))) = true := by kernel_rfl

theorem part23 : ((Rows.fnWholeEditRow.plainKeys == Tryz.pinned.checked.prog.plainKeys)) = true := by kernel_rfl

theorem part24 : (Rows.fnWholeEditRow.shortTexts.isNone) = true := by kernel_rfl

theorem part25 : (Tryz.pinned.checked.prog.stopsHeard) = true := by kernel_rfl

theorem part26 : (Tryz.pinned.checked.prog.mayEnter) = true := by kernel_rfl

theorem part27 : ((Rows.fnWholeEditRow.lifted == Tryz.pinned.checked.prog.liftsFinal)) = true := by kernel_rfl

theorem part28 : ((Tryz.pinned.checked.prog.make == some Rows.fnWholeEditRow.make)) = true := by kernel_rfl

theorem part29 : ((Rows.fnWholeEditRow.kinds == (if Rows.fnWholeEditRow.domain.isEmpty then [] else Tryz.f12.params.toList.map fun t => match Tryz.pinned.checked.prog.underlying t with | some (.int k) => some k | _ => none))) = true := by kernel_rfl

theorem part30 : ((Rows.fnWholeEditRow.pinned == Rows.fnWholeEditRow.pinnedBy)) = true := by kernel_rfl

theorem part31 : ((Rows.fnWholeEditRow.veiled == (Tryz.f12.params.toList ++ Rows.fnWholeEditSpec.plain.varTypes Tryz.pinned.checked.prog ++ Tryz.f12.resultTypes.toList).any (Tryz.pinned.checked.prog.veiledRec ·))) = true := by kernel_rfl

theorem part32 : (Rows.fnWholeEditRow.veiledFits Tryz.pinned.checked.prog Tryz.f12.params.toList (Tryz.f12.params.toList ++ Rows.fnWholeEditSpec.plain.varTypes Tryz.pinned.checked.prog ++ Tryz.f12.resultTypes.toList)) = true := by kernel_rfl

set_option maxRecDepth 100000 in
theorem closed : joinedFacts Tryz.pinned.checked.prog 12 Tryz.f12 Rows.fnWholeEditSpec Rows.fnWholeEditRow = true := by
 unfold joinedFacts
 exact (band (band (band (band (band (band (band (band (band (band (band (band (band (band (band (band (band (band (band (band (band (band (band (band (band (band (band (band (band (band (band part1 part2) part3) part4) part5) part6) part7) part8) part9) part10) part11) part12) part13) part14) part15) part16) part17) part18) part19) part20) part21) part22) part23) part24) part25) part26) part27) part28) part29) part30) part31) part32)

theorem fact1 : Tryz.pinned.checked.prog.funcNamed Rows.fnWholeEditRow.func = some 12 := by kernel_rfl

theorem fact3 : Tryz.f12.isInstance Tryz.pinned.checked.prog Rows.fnWholeEditRow.origin Rows.fnWholeEditRow.targs := of_decide_eq_true (by kernel_rfl)

theorem fact4 : Tryz.f12.isWrapper Tryz.pinned.checked.prog Rows.fnWholeEditRow.wrapper Rows.fnWholeEditRow.mainSum := by unfold Func.isWrapper; first | (rw [if_pos (by decide +kernel)]; kernel_rfl) | (rw [if_neg (by decide +kernel)]; exact ⟨rfl, rfl⟩)

theorem over : Rows.fnWholeEditRow.holds Tryz.pinned (OpenSpec.ofChange Rows.fnWholeEditSpec) :=
 OpenClaim.holds_of_wide 12 Tryz.f12 rfl rfl rfl rfl rfl rfl rfl ⟨rfl, rfl, rfl, rfl, rfl⟩ rfl rfl rfl rfl rfl fact1 Tryz.func12 closed
  fact3 fact4 (fun os started H enc _ => lifted os started H enc)

theorem proved : Rows.FnWholeEditSaid := over
#print axioms proved

end Go.Proofs.YthlgpgaeajfchaaGreat.fnWholeEdit

