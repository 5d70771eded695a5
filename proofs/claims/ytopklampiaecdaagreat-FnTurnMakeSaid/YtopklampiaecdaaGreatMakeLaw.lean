/-
  MakeContainer of both, for all arguments of a moderate size.
-/
import Derived.Test.YtopklampiaecdaaGreatPropP
import Derived.Test.YtopklampiaecdaaGreatImplData
import Derived.Test.YtopklampiaecdaaGreatSpecData
import Derived.Test.YtopklampiaecdaaGreatTreeMem
namespace Go.Proofs.YtopklampiaecdaaGreat
open Go.RowKit
set_option linter.unusedVariables false
set_option linter.unusedSimpArgs false
set_option maxRecDepth 100000

set_option maxHeartbeats 2000000 in
theorem implMakeC (o l m size : Int) (d U : ByteArray) (w : World) (hd : d.size ≤ 1048576) (hU : U.size ≤ 4000) :
    Calls Tryz.prog 37 #[.agg #[.int .i64 o, .int .i64 l, .int .i64 m], .string d, .string U, .int .i64 size] w fun e w' => e = .returned (optV (makeC o l m d.data.toList U.data.toList size)) ∧ Below w.heap.size w w' := by
  by_cases hf : dfits o l m d.data.toList
  · have H := implMakeAny o l m size d U.data.toList w hd hf (by simpa using hU)
    unfold makeC
    rw [if_pos hf]
    exact H
  · have hA : makeC o l m d.data.toList U.data.toList size = none := by unfold makeC; rw [if_neg hf]
    rw [hA]
    have HS := Lib.hid (fun W => implStartWithNo o l m d W hd hf)
    have hW0 := Lib.hid ((Below.refl w.heap.size w).alloc (Nat.le_refl _) (.cells #[.int .i64 o, .int .i64 l, .int .i64 m] 26))
    clear hA hf
    go_enter Tryz.func37, Tryz.ntmps37
    go_wp2_with fail
    refine (HS.out _).mono ?_
    rintro e w1 ⟨rfl, hb1⟩
    have hW1 := Lib.hid ((hW0.out.trans (hb1.mono hW0.out.size)).alloc (hW0.out.trans (hb1.mono hW0.out.size)).size (.cells #[.int .i64 0, .int .i64 0, .int .i64 0, .slice none 0 0, .int .i64 0, .int .i64 0] 64))
    clear hb1 hW0
    go_wp2_with fail
    go_ret2
    exact ⟨rfl, hW1.out⟩

theorem specMakeC (o l m size : Int) (d U : ByteArray) (w : World) (hd : d.size ≤ 1048576) (hU : U.size ≤ 4000) :
    Calls Tryz.prog 38 #[.agg #[.int .i64 o, .int .i64 l, .int .i64 m], .string d, .string U, .int .i64 size] w fun e w' => e = .returned (optV (makeC o l m d.data.toList U.data.toList size)) ∧ Below w.heap.size w w' := by
  by_cases hf : dfits o l m d.data.toList
  · have H := specMakeAny o l m size d U.data.toList w hd hf (by simpa using hU)
    unfold makeC
    rw [if_pos hf]
    exact H
  · have hA : makeC o l m d.data.toList U.data.toList size = none := by unfold makeC; rw [if_neg hf]
    rw [hA]
    exact specMakeContainerNo o l m size d U w hd (by omega) (fun hh => hf hh.1)

end Go.Proofs.YtopklampiaecdaaGreat
