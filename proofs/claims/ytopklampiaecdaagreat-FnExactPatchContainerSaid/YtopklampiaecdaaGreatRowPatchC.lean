/-
  The statement of FnExactPatchContainer, proved: the row round the walk of LawPatchC.
-/
import Derived.Test.YtopklampiaecdaaGreatLawPatchC
import Derived.ChangeOld
import Derived.Carry
import Derived.Lib.SmallJoins
namespace Go.Proofs.YtopklampiaecdaaGreat.fnExactPatchContainer
open Go.ChangeShapes Go.WideShapes Go.ChangeAt Go.RowKit
open Go.ChangeMaps (open_string shut_string)
open Go.Joins
set_option linter.unusedVariables false

theorem own : ownKnob Tryz.prog.godebug = none := by kernel_rfl
theorem laidOut : laidOutB Tryz.prog = true := by kernel_rfl

set_option maxRecDepth 100000 in
theorem lifted (os : Os) (started : os.Started) (H : Type) (enc : TypeId × Value → H) :
    ReturnsInHanded {} Tryz.checked os 11 .any (Rows.fnExactPatchContainerSpec.pre6 enc Tryz.prog Tryz.f11 Rows.fnExactPatchContainerRow.domain false) (Rows.fnExactPatchContainerSpec.post enc Tryz.prog Tryz.f11 false true false false) := by
  refine returnsInHanded_of_change (C := Tryz.checked) own started (by kernel_rfl) Tryz.func11
    (ChangeSpec.witness6 (enc := enc) (C := Tryz.checked) false ⟨#[], #[.agg #[.int .i64 0, .int .i64 0, .int .i64 0], .string ByteArray.empty, .string ByteArray.empty, .agg #[.int .i64 0, .int .i64 0, .string ByteArray.empty], .int .i64 0], []⟩ 8 (by kernel_rfl) (by kernel_rfl) (by kernel_rfl) (by kernel_rfl)) ?_
  intro W base args ds gs before hval0 hW hcnd _
  have hval : ∀ (j : Nat) t v, Tryz.f11.params[j]? = some t → args[j]? = some v → Value.okWide Tryz.prog W .any base t v := hval0
  have hW' := hW
  obtain ⟨p, q, hA0, hV, rfl, hfz, hnd⟩ := hW
  have hA : DataW.TrodAll enc Tryz.prog W 0 (fun _ => true) true Tryz.f11.params.toList args.toList ds p := hA0
  rw [Tryz.params11] at hA hval
  obtain ⟨v0, vs0, d0, ds0, p0, q0, hargs, rfl, rfl, h0, r0⟩ := trodAll_cons hA
  obtain ⟨v1, vs1, d1, ds1, p1, q1, rfl, rfl, rfl, h1, r1⟩ := trodAll_cons r0
  obtain ⟨v2, vs2, d2, ds2, p2, q2, rfl, rfl, rfl, h2, r2⟩ := trodAll_cons r1
  obtain ⟨v3, vs3, d3, ds3, p3, q3, rfl, rfl, rfl, h3, r3⟩ := trodAll_cons r2
  obtain ⟨v4, vs4, d4, ds4, p4, q4, rfl, rfl, rfl, h4, r4⟩ := trodAll_cons r3
  obtain ⟨rfl, rfl, rfl⟩ := trodAll_nil r4
  obtain rfl : args = #[v0, v1, v2, v3, v4] := by cases args; simp_all
  obtain ⟨rfl, rfl⟩ := trodVars_none hV
  have k0 := h0
  have lt0 : ∀ x ∈ p0, x.block < W.heap.size := by obtain ⟨m, hm⟩ := k0; exact DataW.trod_lt m _ _ _ hm
  have k1 := h1
  have lt1 : ∀ x ∈ p1, x.block < W.heap.size := by obtain ⟨m, hm⟩ := k1; exact DataW.trod_lt m _ _ _ hm
  have k2 := h2
  have lt2 : ∀ x ∈ p2, x.block < W.heap.size := by obtain ⟨m, hm⟩ := k2; exact DataW.trod_lt m _ _ _ hm
  have k3 := h3
  have lt3 : ∀ x ∈ p3, x.block < W.heap.size := by obtain ⟨m, hm⟩ := k3; exact DataW.trod_lt m _ _ _ hm
  have k4 := h4
  have lt4 : ∀ x ∈ p4, x.block < W.heap.size := by obtain ⟨m, hm⟩ := k4; exact DataW.trod_lt m _ _ _ hm
  obtain ⟨x0_0, x0_1, x0_2, y0_0, y0_1, y0_2, m0, rfl, _, _, g0_0, g0_1, g0_2⟩ := open_agg3 Tryz.underlying23 (by kernel_rfl) (by kernel_rfl) (hval 0 23 v0 rfl rfl) h0
  obtain ⟨a0_0, e0_0, _, w0_0⟩ := DataW.trod_int Tryz.underlying3 g0_0
  simp only [List.cons.injEq, and_true] at e0_0; subst e0_0
  obtain ⟨a0_1, e0_1, _, w0_1⟩ := DataW.trod_int Tryz.underlying3 g0_1
  simp only [List.cons.injEq, and_true] at e0_1; subst e0_1
  obtain ⟨a0_2, e0_2, _, w0_2⟩ := DataW.trod_int Tryz.underlying3 g0_2
  simp only [List.cons.injEq, and_true] at e0_2; subst e0_2
  obtain ⟨a1, rfl, _, _, w1⟩ := open_string Tryz.underlying9 (hval 1 9 v1 rfl rfl) h1
  obtain ⟨a2, rfl, _, _, w2⟩ := open_string Tryz.underlying9 (hval 2 9 v2 rfl rfl) h2
  obtain ⟨x3_0, x3_1, x3_2, y3_0, y3_1, y3_2, m3, rfl, _, _, g3_0, g3_1, g3_2⟩ := open_agg3 Tryz.underlying40 (by kernel_rfl) (by kernel_rfl) (hval 3 40 v3 rfl rfl) h3
  obtain ⟨a3_0, e3_0, _, w3_0⟩ := DataW.trod_int Tryz.underlying3 g3_0
  simp only [List.cons.injEq, and_true] at e3_0; subst e3_0
  obtain ⟨a3_1, e3_1, _, w3_1⟩ := DataW.trod_int Tryz.underlying3 g3_1
  simp only [List.cons.injEq, and_true] at e3_1; subst e3_1
  obtain ⟨a3_2, e3_2, _, w3_2⟩ := DataW.trod_string Tryz.underlying9 g3_2
  simp only [List.cons.injEq, and_true] at e3_2; subst e3_2
  obtain ⟨a4, rfl, _, _, w4⟩ := open_int Tryz.underlying3 (hval 4 3 v4 rfl rfl) h4
  clear hA0 hval0
  refine (lawFnExactPatchContainer a0_0 w0_0 a0_1 w0_1 a0_2 w0_2 a1 w1 a2 w2 a3_0 w3_0 a3_1 w3_1 a3_2 w3_2 a4 w4 W).mono fun e W' ⟨he, bel⟩ => ?_
  subst he
  exact ⟨_, rfl, _, _, _, [], _, [], hW', trodAll_mk1 (shut_bool Tryz.underlying4 _), (trodAll_cons_mk (Below.trod laidOut (by kernel_rfl) (of_decide_eq_true (by kernel_rfl)) k0 bel lt0) (trodAll_cons_mk (Below.trod laidOut (by kernel_rfl) (of_decide_eq_true (by kernel_rfl)) k1 bel lt1) (trodAll_cons_mk (Below.trod laidOut (by kernel_rfl) (of_decide_eq_true (by kernel_rfl)) k2 bel lt2) (trodAll_cons_mk (Below.trod laidOut (by kernel_rfl) (of_decide_eq_true (by kernel_rfl)) k3 bel lt3) (trodAll_cons_mk (Below.trod laidOut (by kernel_rfl) (of_decide_eq_true (by kernel_rfl)) k4 bel lt4) trodAll_mk0))))), rfl, bel.frame _, fun h => by cases h⟩

theorem band {a b : Bool} (h1 : a = true) (h2 : b = true) : (a && b) = true := by rw [h1, h2]; rfl

theorem part1 : (Rows.fnExactPatchContainerRow.wf (OpenSpec.ofChange Rows.fnExactPatchContainerSpec)) = true := by kernel_rfl

theorem part2 : (laidOutB Tryz.pinned.checked.prog) = true := by kernel_rfl

theorem part3 : (mapsRowed Tryz.pinned.checked.prog) = true := by kernel_rfl

theorem part4 : (Tryz.f11.params.all (Tryz.pinned.checked.prog.readableRec ·)) = true := by kernel_rfl

theorem part5 : (namedTie Tryz.pinned.checked.prog Rows.fnExactPatchContainerRow.named Rows.fnExactPatchContainerSpec.vars) = true := by kernel_rfl

theorem part6 : ((Rows.fnExactPatchContainerRow.stops == [])) = true := by kernel_rfl

theorem part7 : ((Tryz.pinned.checked.prog.stops == [])) = true := by kernel_rfl

theorem part8 : ((Rows.fnExactPatchContainerRow.knobs == [])) = true := by kernel_rfl

theorem part9 : ((Tryz.pinned.checked.prog.stopKnobs == [])) = true := by kernel_rfl

theorem part10 : ((Rows.fnExactPatchContainerRow.inPlace == Tryz.pinned.checked.prog.inPlace 11)) = true := by kernel_rfl

theorem part11 : ((Rows.fnExactPatchContainerRow.unfollowed == Tryz.pinned.checked.prog.unfollowed 11)) = true := by kernel_rfl

theorem part12 : ((Rows.fnExactPatchContainerRow.recurses == Tryz.pinned.checked.prog.recurses 11)) = true := by kernel_rfl

theorem part13 : ((Rows.fnExactPatchContainerRow.named == Tryz.pinned.checked.prog.varsNamed 11)) = true := by kernel_rfl

theorem part14 : ((Rows.fnExactPatchContainerRow.maps == (Tryz.f11.params.toList ++ Rows.fnExactPatchContainerSpec.plain.varTypes Tryz.pinned.checked.prog).any (Tryz.pinned.checked.prog.mapsRec ·))) = true := by kernel_rfl

theorem part15 : ((Rows.fnExactPatchContainerRow.ifaces == (Tryz.f11.params.toList ++ Rows.fnExactPatchContainerSpec.plain.varTypes Tryz.pinned.checked.prog).any (Tryz.pinned.checked.prog.ifacesRec ·))) = true := by kernel_rfl

theorem part16 : ((Rows.fnExactPatchContainerRow.mapsOut == Tryz.pinned.checked.prog.mapsAmong Tryz.f11.resultTypes.toList)) = true := by kernel_rfl

theorem part17 : ((Rows.fnExactPatchContainerRow.loops == (Tryz.f11.params.toList ++ Rows.fnExactPatchContainerSpec.plain.varTypes Tryz.pinned.checked.prog).any (Tryz.pinned.checked.prog.loopsFrom ·))) = true := by kernel_rfl

theorem part18 : ((Rows.fnExactPatchContainerRow.wideKeys == (Tryz.f11.params.toList ++ Rows.fnExactPatchContainerSpec.plain.varTypes Tryz.pinned.checked.prog ++ Tryz.f11.resultTypes.toList).any (Tryz.pinned.checked.prog.wideKeysFrom ·))) = true := by kernel_rfl

theorem part19 : (Rows.fnExactPatchContainerSpec.vars.all (Tryz.pinned.checked.prog.varReadable ·)) = true := by kernel_rfl

theorem part20 : (Tryz.f11.resultTypes.all (fun t => Tryz.pinned.checked.prog.readableRec t && decide (t < Tryz.pinned.checked.prog.types.size))) = true := by kernel_rfl

theorem part21 : ((Rows.fnExactPatchContainerRow.ifacesOut == Tryz.f11.resultTypes.toList.any (Tryz.pinned.checked.prog.ifacesRec ·))) = true := by kernel_rfl

theorem part22 : ((Rows.fnExactPatchContainerRow.loopsOut == Tryz.f11.resultTypes.toList.any (Tryz.pinned.checked.prog.loopsFrom ·))) = true := by kernel_rfl

theorem part23 : ((Rows.fnExactPatchContainerRow.plainKeys == Tryz.pinned.checked.prog.plainKeys)) = true := by kernel_rfl

theorem part24 : (Rows.fnExactPatchContainerRow.shortTexts.isNone) = true := by kernel_rfl

theorem part25 : (Tryz.pinned.checked.prog.stopsHeard) = true := by kernel_rfl

theorem part26 : (Tryz.pinned.checked.prog.mayEnter) = true := by kernel_rfl

theorem part27 : ((Rows.fnExactPatchContainerRow.lifted == Tryz.pinned.checked.prog.liftsFinal)) = true := by kernel_rfl

theorem part28 : ((Tryz.pinned.checked.prog.make == some Rows.fnExactPatchContainerRow.make)) = true := by kernel_rfl

theorem part29 : ((Rows.fnExactPatchContainerRow.kinds == (if Rows.fnExactPatchContainerRow.domain.isEmpty then [] else Tryz.f11.params.toList.map fun t => match Tryz.pinned.checked.prog.underlying t with | some (.int k) => some k | _ => none))) = true := by kernel_rfl

theorem part30 : ((Rows.fnExactPatchContainerRow.pinned == Rows.fnExactPatchContainerRow.pinnedBy)) = true := by kernel_rfl

theorem part31 : ((Rows.fnExactPatchContainerRow.veiled == (Tryz.f11.params.toList ++ Rows.fnExactPatchContainerSpec.plain.varTypes Tryz.pinned.checked.prog ++ Tryz.f11.resultTypes.toList).any (Tryz.pinned.checked.prog.veiledRec ·))) = true := by kernel_rfl

theorem part32 : (Rows.fnExactPatchContainerRow.veiledFits Tryz.pinned.checked.prog Tryz.f11.params.toList (Tryz.f11.params.toList ++ Rows.fnExactPatchContainerSpec.plain.varTypes Tryz.pinned.checked.prog ++ Tryz.f11.resultTypes.toList)) = true := by kernel_rfl

set_option maxRecDepth 100000 in
theorem closed : joinedFacts Tryz.pinned.checked.prog 11 Tryz.f11 Rows.fnExactPatchContainerSpec Rows.fnExactPatchContainerRow = true := by
  unfold joinedFacts
  exact (band (band (band (band (band (band (band (band (band (band (band (band (band (band (band (band (band (band (band (band (band (band (band (band (band (band (band (band (band (band (band part1 part2) part3) part4) part5) part6) part7) part8) part9) part10) part11) part12) part13) part14) part15) part16) part17) part18) part19) part20) part21) part22) part23) part24) part25) part26) part27) part28) part29) part30) part31) part32)

theorem fact1 : Tryz.pinned.checked.prog.funcNamed Rows.fnExactPatchContainerRow.func = some 11 := by kernel_rfl

theorem fact3 : Tryz.f11.isInstance Tryz.pinned.checked.prog Rows.fnExactPatchContainerRow.origin Rows.fnExactPatchContainerRow.targs := of_decide_eq_true (by kernel_rfl)

theorem fact4 : Tryz.f11.isWrapper Tryz.pinned.checked.prog Rows.fnExactPatchContainerRow.wrapper Rows.fnExactPatchContainerRow.mainSum := by unfold Func.isWrapper; first | (rw [if_pos (by decide +kernel)]; kernel_rfl) | (rw [if_neg (by decide +kernel)]; exact ⟨rfl, rfl⟩)

theorem over : Rows.fnExactPatchContainerRow.holds Tryz.pinned (OpenSpec.ofChange Rows.fnExactPatchContainerSpec) :=
  OpenClaim.holds_of_wide 11 Tryz.f11 rfl rfl rfl rfl rfl rfl rfl ⟨rfl, rfl, rfl, rfl, rfl⟩ rfl rfl rfl rfl rfl fact1 Tryz.func11 closed
    fact3 fact4 (fun os started H enc _ => lifted os started H enc)

theorem proved : Rows.FnExactPatchContainerSaid := over
#print axioms proved
end Go.Proofs.YtopklampiaecdaaGreat.fnExactPatchContainer
