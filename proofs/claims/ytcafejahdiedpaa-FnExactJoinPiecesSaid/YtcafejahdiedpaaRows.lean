/-
  No cell of these rows narrows 'for every input' (looked for: loops, veiled, ifaces, maps, wideKeys, modest, calm, conditions, laid).
  DERIVED. THE GIVEN ROWS OF THIS SEAT. 9 by the template 'for every input the law returns true; each argument reads behind the call as it read before'; 0 by the template 'total and deterministic' (their statements: YtcafejahdiedpaaTotals.lean).
  GIVEN WITH THE SEED: the statements are not yours to turn. If you find one false, say at which input.
  Laid BY PROGRAM, IN A SANDBOX (cutbox-rows.mjs): the forced cells as the released guide's own fill.sh prints them over the translation 39e7d9e06ed5b88d… (all of the seat's roots in one cut). By AI agents, Wed Nov 11 2026. No macro, syntax, notation, axiom, sorry.
-/
import Derived.Test.YtcafejahdiedpaaChecked
import GoSem.Claim
import GoSem.ClaimJoined
import GoSem.ClaimMapViews
import Derived.JoinedTies
import Derived.KernelRfl
namespace Go.Proofs.Ytcafejahdiedpaa
/- THE CELL 'sum', in the pinned program and in every row, IS THE sha256 OF THE DUMP (.gsa) THAT YtcafejahdiedpaaProg.lean LOADS. Nothing in Lean hashes anything: it is a label: what it is worth is what the hold of that sum in a sandbox is worth. -/
noncomputable def Try.pinned : Pinned := { name := "ytcafejahdiedpaa", sum := "39e7d9e06ed5b88d3b8db9a6760316145d749bab208859953c24d5ddef4b65e9", checked := Try.checked }
namespace Rows
def none {H : Type} : Left H := { results := [], args := [] }

/-- 'laws.FnExactTakeBlocks': WHATEVER THE INPUT: true; the input reads as it did. -/
def fnExactTakeBlocksSpec : ChangeSpec := { name := "fnExactTakeBlocks", fn := fun _ => fun
  | [d1, d2, d3] => { results := [.lit (.bool true)], args := [d1, d2, d3] }
  | _ => none }
def fnExactTakeBlocksRow : OpenClaim := { program := "ytcafejahdiedpaa", sum := "39e7d9e06ed5b88d3b8db9a6760316145d749bab208859953c24d5ddef4b65e9", func := "loop.example/soughtstreams/laws.FnExactTakeBlocks", spec := "fnExactTakeBlocks", inPlace := ["internal/abi.NoEscape"], apart := false }
def FnExactTakeBlocksSaid : Prop := fnExactTakeBlocksRow.holds Try.pinned (OpenSpec.ofChange fnExactTakeBlocksSpec)

/-- ITS FALSE NEIGHBOUR: 'it returns false'. Refute it at one input. -/
def fnExactTakeBlocksWrong : ChangeSpec := { name := "fnExactTakeBlocks", fn := fun _ => fun
  | [d1, d2, d3] => { results := [.lit (.bool false)], args := [d1, d2, d3] }
  | _ => none }
def FnExactTakeBlocksWrongFalsely : Prop := fnExactTakeBlocksRow.holds Try.pinned (OpenSpec.ofChange fnExactTakeBlocksWrong)

/-- 'laws.FnExactFindBlocks': WHATEVER THE INPUT: true; the input reads as it did. -/
def fnExactFindBlocksSpec : ChangeSpec := { name := "fnExactFindBlocks", fn := fun _ => fun
  | [d] => { results := [.lit (.bool true)], args := [d] }
  | _ => none }
def fnExactFindBlocksRow : OpenClaim := { program := "ytcafejahdiedpaa", sum := "39e7d9e06ed5b88d3b8db9a6760316145d749bab208859953c24d5ddef4b65e9", func := "loop.example/soughtstreams/laws.FnExactFindBlocks", spec := "fnExactFindBlocks", apart := false }
def FnExactFindBlocksSaid : Prop := fnExactFindBlocksRow.holds Try.pinned (OpenSpec.ofChange fnExactFindBlocksSpec)

/-- ITS FALSE NEIGHBOUR: 'it returns false'. Refute it at one input. -/
def fnExactFindBlocksWrong : ChangeSpec := { name := "fnExactFindBlocks", fn := fun _ => fun
  | [d] => { results := [.lit (.bool false)], args := [d] }
  | _ => none }
def FnExactFindBlocksWrongFalsely : Prop := fnExactFindBlocksRow.holds Try.pinned (OpenSpec.ofChange fnExactFindBlocksWrong)

/-- 'laws.FnExactShuffleBlocks': WHATEVER THE INPUT: true; the input reads as it did. -/
def fnExactShuffleBlocksSpec : ChangeSpec := { name := "fnExactShuffleBlocks", fn := fun _ => fun
  | [d1, d2] => { results := [.lit (.bool true)], args := [d1, d2] }
  | _ => none }
def fnExactShuffleBlocksRow : OpenClaim := { program := "ytcafejahdiedpaa", sum := "39e7d9e06ed5b88d3b8db9a6760316145d749bab208859953c24d5ddef4b65e9", func := "loop.example/soughtstreams/laws.FnExactShuffleBlocks", spec := "fnExactShuffleBlocks", inPlace := ["internal/abi.NoEscape"], apart := false }
def FnExactShuffleBlocksSaid : Prop := fnExactShuffleBlocksRow.holds Try.pinned (OpenSpec.ofChange fnExactShuffleBlocksSpec)

/-- ITS FALSE NEIGHBOUR: 'it returns false'. Refute it at one input. -/
def fnExactShuffleBlocksWrong : ChangeSpec := { name := "fnExactShuffleBlocks", fn := fun _ => fun
  | [d1, d2] => { results := [.lit (.bool false)], args := [d1, d2] }
  | _ => none }
def FnExactShuffleBlocksWrongFalsely : Prop := fnExactShuffleBlocksRow.holds Try.pinned (OpenSpec.ofChange fnExactShuffleBlocksWrong)

/-- 'laws.FnExactJoinContainers': WHATEVER THE INPUT: true; the input reads as it did. -/
def fnExactJoinContainersSpec : ChangeSpec := { name := "fnExactJoinContainers", fn := fun _ => fun
  | [d1, d2] => { results := [.lit (.bool true)], args := [d1, d2] }
  | _ => none }
def fnExactJoinContainersRow : OpenClaim := { program := "ytcafejahdiedpaa", sum := "39e7d9e06ed5b88d3b8db9a6760316145d749bab208859953c24d5ddef4b65e9", func := "loop.example/soughtstreams/laws.FnExactJoinContainers", spec := "fnExactJoinContainers", inPlace := ["internal/abi.NoEscape"], apart := false }
def FnExactJoinContainersSaid : Prop := fnExactJoinContainersRow.holds Try.pinned (OpenSpec.ofChange fnExactJoinContainersSpec)

/-- ITS FALSE NEIGHBOUR: 'it returns false'. Refute it at one input. -/
def fnExactJoinContainersWrong : ChangeSpec := { name := "fnExactJoinContainers", fn := fun _ => fun
  | [d1, d2] => { results := [.lit (.bool false)], args := [d1, d2] }
  | _ => none }
def FnExactJoinContainersWrongFalsely : Prop := fnExactJoinContainersRow.holds Try.pinned (OpenSpec.ofChange fnExactJoinContainersWrong)

/-- 'laws.FnExactSurvivors': WHATEVER THE INPUT: true; the input reads as it did. -/
def fnExactSurvivorsSpec : ChangeSpec := { name := "fnExactSurvivors", fn := fun _ => fun
  | [d1, d2] => { results := [.lit (.bool true)], args := [d1, d2] }
  | _ => none }
def fnExactSurvivorsRow : OpenClaim := { program := "ytcafejahdiedpaa", sum := "39e7d9e06ed5b88d3b8db9a6760316145d749bab208859953c24d5ddef4b65e9", func := "loop.example/soughtstreams/laws.FnExactSurvivors", spec := "fnExactSurvivors", apart := false }
def FnExactSurvivorsSaid : Prop := fnExactSurvivorsRow.holds Try.pinned (OpenSpec.ofChange fnExactSurvivorsSpec)

/-- ITS FALSE NEIGHBOUR: 'it returns false'. Refute it at one input. -/
def fnExactSurvivorsWrong : ChangeSpec := { name := "fnExactSurvivors", fn := fun _ => fun
  | [d1, d2] => { results := [.lit (.bool false)], args := [d1, d2] }
  | _ => none }
def FnExactSurvivorsWrongFalsely : Prop := fnExactSurvivorsRow.holds Try.pinned (OpenSpec.ofChange fnExactSurvivorsWrong)

/-- 'laws.FnExactParityOf': WHATEVER THE INPUT: true; the input reads as it did. -/
def fnExactParityOfSpec : ChangeSpec := { name := "fnExactParityOf", fn := fun _ => fun
  | [d1, d2] => { results := [.lit (.bool true)], args := [d1, d2] }
  | _ => none }
def fnExactParityOfRow : OpenClaim := { program := "ytcafejahdiedpaa", sum := "39e7d9e06ed5b88d3b8db9a6760316145d749bab208859953c24d5ddef4b65e9", func := "loop.example/soughtstreams/laws.FnExactParityOf", spec := "fnExactParityOf", apart := false }
def FnExactParityOfSaid : Prop := fnExactParityOfRow.holds Try.pinned (OpenSpec.ofChange fnExactParityOfSpec)

/-- ITS FALSE NEIGHBOUR: 'it returns false'. Refute it at one input. -/
def fnExactParityOfWrong : ChangeSpec := { name := "fnExactParityOf", fn := fun _ => fun
  | [d1, d2] => { results := [.lit (.bool false)], args := [d1, d2] }
  | _ => none }
def FnExactParityOfWrongFalsely : Prop := fnExactParityOfRow.holds Try.pinned (OpenSpec.ofChange fnExactParityOfWrong)

/-- 'laws.FnExactJoinPieces': WHATEVER THE INPUT: true; the input reads as it did. -/
def fnExactJoinPiecesSpec : ChangeSpec := { name := "fnExactJoinPieces", fn := fun _ => fun
  | [d1, d2, d3, d4] => { results := [.lit (.bool true)], args := [d1, d2, d3, d4] }
  | _ => none }
def fnExactJoinPiecesRow : OpenClaim := { program := "ytcafejahdiedpaa", sum := "39e7d9e06ed5b88d3b8db9a6760316145d749bab208859953c24d5ddef4b65e9", func := "loop.example/soughtstreams/laws.FnExactJoinPieces", spec := "fnExactJoinPieces", inPlace := ["internal/abi.NoEscape", "internal/bytealg.MakeNoZero"], apart := false }
def FnExactJoinPiecesSaid : Prop := fnExactJoinPiecesRow.holds Try.pinned (OpenSpec.ofChange fnExactJoinPiecesSpec)

/-- ITS FALSE NEIGHBOUR: 'it returns false'. Refute it at one input. -/
def fnExactJoinPiecesWrong : ChangeSpec := { name := "fnExactJoinPieces", fn := fun _ => fun
  | [d1, d2, d3, d4] => { results := [.lit (.bool false)], args := [d1, d2, d3, d4] }
  | _ => none }
def FnExactJoinPiecesWrongFalsely : Prop := fnExactJoinPiecesRow.holds Try.pinned (OpenSpec.ofChange fnExactJoinPiecesWrong)

/-- 'laws.FnJoin': WHATEVER THE INPUT: true; the input reads as it did. -/
def fnJoinSpec : ChangeSpec := { name := "fnJoin", fn := fun _ => fun
  | [d] => { results := [.lit (.bool true)], args := [d] }
  | _ => none }
def fnJoinRow : OpenClaim := { program := "ytcafejahdiedpaa", sum := "39e7d9e06ed5b88d3b8db9a6760316145d749bab208859953c24d5ddef4b65e9", func := "loop.example/soughtstreams/laws.FnJoin", spec := "fnJoin", inPlace := ["internal/abi.NoEscape"], apart := false }
def FnJoinSaid : Prop := fnJoinRow.holds Try.pinned (OpenSpec.ofChange fnJoinSpec)

/-- ITS FALSE NEIGHBOUR: 'it returns false'. Refute it at one input. -/
def fnJoinWrong : ChangeSpec := { name := "fnJoin", fn := fun _ => fun
  | [d] => { results := [.lit (.bool false)], args := [d] }
  | _ => none }
def FnJoinWrongFalsely : Prop := fnJoinRow.holds Try.pinned (OpenSpec.ofChange fnJoinWrong)

/-- 'laws.FnTake': WHATEVER THE INPUT: true; the input reads as it did. -/
def fnTakeSpec : ChangeSpec := { name := "fnTake", fn := fun _ => fun
  | [d] => { results := [.lit (.bool true)], args := [d] }
  | _ => none }
def fnTakeRow : OpenClaim := { program := "ytcafejahdiedpaa", sum := "39e7d9e06ed5b88d3b8db9a6760316145d749bab208859953c24d5ddef4b65e9", func := "loop.example/soughtstreams/laws.FnTake", spec := "fnTake", inPlace := ["internal/abi.NoEscape"], apart := false }
def FnTakeSaid : Prop := fnTakeRow.holds Try.pinned (OpenSpec.ofChange fnTakeSpec)

/-- ITS FALSE NEIGHBOUR: 'it returns false'. Refute it at one input. -/
def fnTakeWrong : ChangeSpec := { name := "fnTake", fn := fun _ => fun
  | [d] => { results := [.lit (.bool false)], args := [d] }
  | _ => none }
def FnTakeWrongFalsely : Prop := fnTakeRow.holds Try.pinned (OpenSpec.ofChange fnTakeWrong)

/- THE SECOND FORM. 'bulk': how many values and letters a reading holds, each counted each time it is reached (what is shared counts as often as it is met; a slice's spare places count too). A statement '..UptoSaid' is the law's where the arguments, and the package variables that the reading takes, are together of bulk at most 1048576: NARROWER than '..Said'. Prove '..Said' where nothing that the law and all that it calls make is longer than what came in: it says more and counts as full. Else prove '..UptoSaid'. A law counts once. -/
mutual
def uptoBulk {H : Type} : DataW H → Nat
  | .lit (.string bytes) => bytes.length + 1
  | .lit _ => 1
  | .nil => 1
  | .ptr d => uptoBulk d + 1
  | .slice elems spare => uptoBulkAll elems + uptoBulkAll spare + 1
  | .agg parts => uptoBulkAll parts + 1
  | .iface _ d => uptoBulk d + 1
  | .map entries => uptoBulkEntries entries + 1
  | .held _ => 1
def uptoBulkAll {H : Type} : List (DataW H) → Nat
  | [] => 0
  | d :: r => uptoBulk d + uptoBulkAll r
def uptoBulkEntries {H : Type} : List (Lit × DataW H) → Nat
  | [] => 0
  | x :: r => uptoBulkEntry x + uptoBulkEntries r
def uptoBulkEntry {H : Type} : Lit × DataW H → Nat
  | (.string bytes, d) => bytes.length + uptoBulk d + 1
  | (_, d) => uptoBulk d + 1
 end
def uptoSmall : (H : Type) → List (DataW H) → Bool := fun _ ds => decide (uptoBulkAll ds ≤ 1048576)
def OpenSpec.upto (s : _root_.Go.ChangeSpec) : _root_.Go.OpenSpec := { _root_.Go.OpenSpec.ofChange s with cond := some uptoSmall }

/-- 'laws.FnExactTakeBlocks', WHERE WHAT IT READS IS OF BULK AT MOST 1048576: true; the input reads as it did. -/
def fnExactTakeBlocksUptoRow : OpenClaim := { program := "ytcafejahdiedpaa", sum := "39e7d9e06ed5b88d3b8db9a6760316145d749bab208859953c24d5ddef4b65e9", func := "loop.example/soughtstreams/laws.FnExactTakeBlocks", spec := "fnExactTakeBlocks", inPlace := ["internal/abi.NoEscape"], apart := false, narrowed := true }
def FnExactTakeBlocksUptoSaid : Prop := fnExactTakeBlocksUptoRow.holds Try.pinned (OpenSpec.upto fnExactTakeBlocksSpec)

/-- 'laws.FnExactFindBlocks', WHERE WHAT IT READS IS OF BULK AT MOST 1048576: true; the input reads as it did. -/
def fnExactFindBlocksUptoRow : OpenClaim := { program := "ytcafejahdiedpaa", sum := "39e7d9e06ed5b88d3b8db9a6760316145d749bab208859953c24d5ddef4b65e9", func := "loop.example/soughtstreams/laws.FnExactFindBlocks", spec := "fnExactFindBlocks", apart := false, narrowed := true }
def FnExactFindBlocksUptoSaid : Prop := fnExactFindBlocksUptoRow.holds Try.pinned (OpenSpec.upto fnExactFindBlocksSpec)

/-- 'laws.FnExactShuffleBlocks', WHERE WHAT IT READS IS OF BULK AT MOST 1048576: true; the input reads as it did. -/
def fnExactShuffleBlocksUptoRow : OpenClaim := { program := "ytcafejahdiedpaa", sum := "39e7d9e06ed5b88d3b8db9a6760316145d749bab208859953c24d5ddef4b65e9", func := "loop.example/soughtstreams/laws.FnExactShuffleBlocks", spec := "fnExactShuffleBlocks", inPlace := ["internal/abi.NoEscape"], apart := false, narrowed := true }
def FnExactShuffleBlocksUptoSaid : Prop := fnExactShuffleBlocksUptoRow.holds Try.pinned (OpenSpec.upto fnExactShuffleBlocksSpec)

/-- 'laws.FnExactJoinContainers', WHERE WHAT IT READS IS OF BULK AT MOST 1048576: true; the input reads as it did. -/
def fnExactJoinContainersUptoRow : OpenClaim := { program := "ytcafejahdiedpaa", sum := "39e7d9e06ed5b88d3b8db9a6760316145d749bab208859953c24d5ddef4b65e9", func := "loop.example/soughtstreams/laws.FnExactJoinContainers", spec := "fnExactJoinContainers", inPlace := ["internal/abi.NoEscape"], apart := false, narrowed := true }
def FnExactJoinContainersUptoSaid : Prop := fnExactJoinContainersUptoRow.holds Try.pinned (OpenSpec.upto fnExactJoinContainersSpec)

/-- 'laws.FnExactSurvivors', WHERE WHAT IT READS IS OF BULK AT MOST 1048576: true; the input reads as it did. -/
def fnExactSurvivorsUptoRow : OpenClaim := { program := "ytcafejahdiedpaa", sum := "39e7d9e06ed5b88d3b8db9a6760316145d749bab208859953c24d5ddef4b65e9", func := "loop.example/soughtstreams/laws.FnExactSurvivors", spec := "fnExactSurvivors", apart := false, narrowed := true }
def FnExactSurvivorsUptoSaid : Prop := fnExactSurvivorsUptoRow.holds Try.pinned (OpenSpec.upto fnExactSurvivorsSpec)

/-- 'laws.FnExactParityOf', WHERE WHAT IT READS IS OF BULK AT MOST 1048576: true; the input reads as it did. -/
def fnExactParityOfUptoRow : OpenClaim := { program := "ytcafejahdiedpaa", sum := "39e7d9e06ed5b88d3b8db9a6760316145d749bab208859953c24d5ddef4b65e9", func := "loop.example/soughtstreams/laws.FnExactParityOf", spec := "fnExactParityOf", apart := false, narrowed := true }
def FnExactParityOfUptoSaid : Prop := fnExactParityOfUptoRow.holds Try.pinned (OpenSpec.upto fnExactParityOfSpec)

/-- 'laws.FnExactJoinPieces', WHERE WHAT IT READS IS OF BULK AT MOST 1048576: true; the input reads as it did. -/
def fnExactJoinPiecesUptoRow : OpenClaim := { program := "ytcafejahdiedpaa", sum := "39e7d9e06ed5b88d3b8db9a6760316145d749bab208859953c24d5ddef4b65e9", func := "loop.example/soughtstreams/laws.FnExactJoinPieces", spec := "fnExactJoinPieces", inPlace := ["internal/abi.NoEscape", "internal/bytealg.MakeNoZero"], apart := false, narrowed := true }
def FnExactJoinPiecesUptoSaid : Prop := fnExactJoinPiecesUptoRow.holds Try.pinned (OpenSpec.upto fnExactJoinPiecesSpec)

/-- 'laws.FnJoin', WHERE WHAT IT READS IS OF BULK AT MOST 1048576: true; the input reads as it did. -/
def fnJoinUptoRow : OpenClaim := { program := "ytcafejahdiedpaa", sum := "39e7d9e06ed5b88d3b8db9a6760316145d749bab208859953c24d5ddef4b65e9", func := "loop.example/soughtstreams/laws.FnJoin", spec := "fnJoin", inPlace := ["internal/abi.NoEscape"], apart := false, narrowed := true }
def FnJoinUptoSaid : Prop := fnJoinUptoRow.holds Try.pinned (OpenSpec.upto fnJoinSpec)

/-- 'laws.FnTake', WHERE WHAT IT READS IS OF BULK AT MOST 1048576: true; the input reads as it did. -/
def fnTakeUptoRow : OpenClaim := { program := "ytcafejahdiedpaa", sum := "39e7d9e06ed5b88d3b8db9a6760316145d749bab208859953c24d5ddef4b65e9", func := "loop.example/soughtstreams/laws.FnTake", spec := "fnTake", inPlace := ["internal/abi.NoEscape"], apart := false, narrowed := true }
def FnTakeUptoSaid : Prop := fnTakeUptoRow.holds Try.pinned (OpenSpec.upto fnTakeSpec)

end Rows
end Go.Proofs.Ytcafejahdiedpaa
