/-
  The contract of the reference's ParseBlock: it returns the same as the program's.
  The contract of the reference's NextBlock: it returns the same as the program's.
  The contract of the reference's l5Blocks: it returns the same blocks as the program's ContainerBlocks.
-/
import Derived.Test.YthlgpgaeajfchaaGreatDoorContPlain
import Derived.Test.YthlgpgaeajfchaaGreatDoorCont

namespace Go.Proofs.YthlgpgaeajfchaaGreatDoor
open Go.RowKit
set_option linter.unusedVariables false
attribute [local go_sem ↓] Go.wp_at_zero Go.wp_at_succ

end Go.Proofs.YthlgpgaeajfchaaGreatDoor

namespace Go.Proofs.YthlgpgaeajfchaaGreatDoor
open Go.RowKit
set_option linter.unusedVariables false

end Go.Proofs.YthlgpgaeajfchaaGreatDoor

namespace Go.Proofs.YthlgpgaeajfchaaGreatDoor
open Go.RowKit
set_option linter.unusedVariables false

end Go.Proofs.YthlgpgaeajfchaaGreatDoor
