/-
 MakeContainer of both, for all arguments of a moderate size.
-/
import Derived.Test.YthlgpgaeajfchaaGreatQImplMk
import Derived.Test.YthlgpgaeajfchaaGreatQPropR
import Derived.Test.YthlgpgaeajfchaaGreatQImplData
import Derived.Test.YthlgpgaeajfchaaGreatQSpecData
import Derived.Test.YthlgpgaeajfchaaGreatQTreeMem

namespace Go.Proofs.YthlgpgaeajfchaaGreat
open Go.RowKit
set_option linter.unusedVariables false
set_option linter.unusedSimpArgs false
set_option maxRecDepth 100000

set_option maxHeartbeats 2000000 in
theorem implMakeC (o l m size : Int) (d U : ByteArray) (w : World) (hd : d.size ≤ 1048576) (hU : U.size ≤ 4000) :
  Calls Tryz.prog 17 #[.agg #[.int .i64 o, .int .i64 l, .int .i64 m], .string d, .string U, .int .i64 size] w fun e w' => e = .returned (optV (makeC o l m d.data.toList U.data.toList size)) ∧ Below w.heap.size w w' := by
 by_cases hf : dfits o l m d.data.toList
 ·have H := implMakeAny o l m size d U.data.toList w hd hf (by simpa using hU)
  unfold makeC
  rw [if_pos hf]
  exact H
 ·have hA : makeC o l m d.data.toList U.data.toList size = none := by unfold makeC; rw [if_neg hf]
  rw [hA]
  have HS := Lib.hid (fun W => implStartWithNo o l m d W hd hf)
  have hW0 := Lib.hid ((Below.refl w.heap.size w).alloc (Nat.le_refl _) (.cells #[.int .i64 o, .int .i64 l, .int .i64 m] 24))
  clear hA hf
  go_enter Tryz.func17, Tryz.ntmps17
  go_wp2_with fail
  refine (HS.out _).mono ?_
  rintro e w1 ⟨rfl, hb1⟩
  have hW1 := Lib.hid ((hW0.out.trans (hb1.mono hW0.out.size)).alloc (hW0.out.trans (hb1.mono hW0.out.size)).size (.cells #[.int .i64 0, .int .i64 0, .int .i64 0, .slice none 0 0, .int .i64 0, .int .i64 0] 74))
  clear hb1 hW0
  go_wp2_with fail
  go_ret2
  exact ⟨rfl, hW1.out⟩

end Go.Proofs.YthlgpgaeajfchaaGreat
