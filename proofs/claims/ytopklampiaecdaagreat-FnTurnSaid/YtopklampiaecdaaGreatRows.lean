/-
  No cell of these rows narrows 'for every input' (looked for: loops, veiled, ifaces, maps, wideKeys, modest, calm, conditions, laid).
  DERIVED. THE GIVEN ROWS OF THIS SEAT. 12 by the template 'for every input the law returns true; each argument reads behind the call as it read before'; 0 by the template 'total and deterministic' (their statements: YtopklampiaecdaaGreatTotals.lean).
  GIVEN WITH THE SEED: the statements are not yours to turn. If you find one false, say at which input.
  Laid BY PROGRAM, IN A SANDBOX (cutbox-rows.mjs): the forced cells as the released guide's own fill.sh prints them over the translation c9403f3b60c1e82b… (all of the seat's roots in one cut). By AI agents, Wed Nov 11 2026. No macro, syntax, notation, axiom, sorry.
-/
import Derived.Test.YtopklampiaecdaaGreatChecked
import GoSem.Claim
import GoSem.ClaimJoined
import GoSem.ClaimMapViews
import Derived.JoinedTies
import Derived.KernelRfl
namespace Go.Proofs.YtopklampiaecdaaGreat
/- THE CELL 'sum', in the pinned program and in every row, IS THE sha256 OF THE DUMP (.gsa) THAT YtopklampiaecdaaGreatProg.lean LOADS. Nothing in Lean hashes anything: it is a label: what it is worth is what the hold of that sum in a sandbox is worth. -/
noncomputable def Tryz.pinned : Pinned := { name := "ytopklampiaecdaagreat", sum := "c9403f3b60c1e82b23eeb1324e62e8fa316ff22bb80e995ddd278de6bca48a29", checked := Tryz.checked }
namespace Rows
def none {H : Type} : Left H := { results := [], args := [] }

/-- 'laws.FnExactAppendData': WHATEVER THE INPUT: true; the input reads as it did. -/
def fnExactAppendDataSpec : ChangeSpec := { name := "fnExactAppendData", fn := fun _ => fun
  | [d1, d2, d3, d4, d5] => { results := [.lit (.bool true)], args := [d1, d2, d3, d4, d5] }
  | _ => none }
def fnExactAppendDataRow : OpenClaim := { program := "ytopklampiaecdaagreat", sum := "c9403f3b60c1e82b23eeb1324e62e8fa316ff22bb80e995ddd278de6bca48a29", func := "loop.example/soughtstreams/laws.FnExactAppendData", spec := "fnExactAppendData", inPlace := ["internal/abi.NoEscape"], recurses := true, apart := false }
def FnExactAppendDataSaid : Prop := fnExactAppendDataRow.holds Tryz.pinned (OpenSpec.ofChange fnExactAppendDataSpec)

/-- ITS FALSE NEIGHBOUR: 'it returns false'. Refute it at one input. -/
def fnExactAppendDataWrong : ChangeSpec := { name := "fnExactAppendData", fn := fun _ => fun
  | [d1, d2, d3, d4, d5] => { results := [.lit (.bool false)], args := [d1, d2, d3, d4, d5] }
  | _ => none }
def FnExactAppendDataWrongFalsely : Prop := fnExactAppendDataRow.holds Tryz.pinned (OpenSpec.ofChange fnExactAppendDataWrong)

/-- 'laws.FnExactTurnContainer': WHATEVER THE INPUT: true; the input reads as it did. -/
def fnExactTurnContainerSpec : ChangeSpec := { name := "fnExactTurnContainer", fn := fun _ => fun
  | [d1, d2, d3] => { results := [.lit (.bool true)], args := [d1, d2, d3] }
  | _ => none }
def fnExactTurnContainerRow : OpenClaim := { program := "ytopklampiaecdaagreat", sum := "c9403f3b60c1e82b23eeb1324e62e8fa316ff22bb80e995ddd278de6bca48a29", func := "loop.example/soughtstreams/laws.FnExactTurnContainer", spec := "fnExactTurnContainer", inPlace := ["internal/abi.NoEscape"], recurses := true, apart := false }
def FnExactTurnContainerSaid : Prop := fnExactTurnContainerRow.holds Tryz.pinned (OpenSpec.ofChange fnExactTurnContainerSpec)

/-- ITS FALSE NEIGHBOUR: 'it returns false'. Refute it at one input. -/
def fnExactTurnContainerWrong : ChangeSpec := { name := "fnExactTurnContainer", fn := fun _ => fun
  | [d1, d2, d3] => { results := [.lit (.bool false)], args := [d1, d2, d3] }
  | _ => none }
def FnExactTurnContainerWrongFalsely : Prop := fnExactTurnContainerRow.holds Tryz.pinned (OpenSpec.ofChange fnExactTurnContainerWrong)

/-- 'laws.FnExactResizeBlocks': WHATEVER THE INPUT: true; the input reads as it did. -/
def fnExactResizeBlocksSpec : ChangeSpec := { name := "fnExactResizeBlocks", fn := fun _ => fun
  | [d1, d2, d3, d4] => { results := [.lit (.bool true)], args := [d1, d2, d3, d4] }
  | _ => none }
def fnExactResizeBlocksRow : OpenClaim := { program := "ytopklampiaecdaagreat", sum := "c9403f3b60c1e82b23eeb1324e62e8fa316ff22bb80e995ddd278de6bca48a29", func := "loop.example/soughtstreams/laws.FnExactResizeBlocks", spec := "fnExactResizeBlocks", inPlace := ["internal/abi.NoEscape"], recurses := true, apart := false }
def FnExactResizeBlocksSaid : Prop := fnExactResizeBlocksRow.holds Tryz.pinned (OpenSpec.ofChange fnExactResizeBlocksSpec)

/-- ITS FALSE NEIGHBOUR: 'it returns false'. Refute it at one input. -/
def fnExactResizeBlocksWrong : ChangeSpec := { name := "fnExactResizeBlocks", fn := fun _ => fun
  | [d1, d2, d3, d4] => { results := [.lit (.bool false)], args := [d1, d2, d3, d4] }
  | _ => none }
def FnExactResizeBlocksWrongFalsely : Prop := fnExactResizeBlocksRow.holds Tryz.pinned (OpenSpec.ofChange fnExactResizeBlocksWrong)

/-- 'laws.FnExactMergeBlocks': WHATEVER THE INPUT: true; the input reads as it did. -/
def fnExactMergeBlocksSpec : ChangeSpec := { name := "fnExactMergeBlocks", fn := fun _ => fun
  | [d1, d2, d3, d4] => { results := [.lit (.bool true)], args := [d1, d2, d3, d4] }
  | _ => none }
def fnExactMergeBlocksRow : OpenClaim := { program := "ytopklampiaecdaagreat", sum := "c9403f3b60c1e82b23eeb1324e62e8fa316ff22bb80e995ddd278de6bca48a29", func := "loop.example/soughtstreams/laws.FnExactMergeBlocks", spec := "fnExactMergeBlocks", inPlace := ["internal/abi.NoEscape"], recurses := true, apart := false }
def FnExactMergeBlocksSaid : Prop := fnExactMergeBlocksRow.holds Tryz.pinned (OpenSpec.ofChange fnExactMergeBlocksSpec)

/-- ITS FALSE NEIGHBOUR: 'it returns false'. Refute it at one input. -/
def fnExactMergeBlocksWrong : ChangeSpec := { name := "fnExactMergeBlocks", fn := fun _ => fun
  | [d1, d2, d3, d4] => { results := [.lit (.bool false)], args := [d1, d2, d3, d4] }
  | _ => none }
def FnExactMergeBlocksWrongFalsely : Prop := fnExactMergeBlocksRow.holds Tryz.pinned (OpenSpec.ofChange fnExactMergeBlocksWrong)

/-- 'laws.FnExactCutContainer': WHATEVER THE INPUT: true; the input reads as it did. -/
def fnExactCutContainerSpec : ChangeSpec := { name := "fnExactCutContainer", fn := fun _ => fun
  | [d1, d2, d3, d4, d5] => { results := [.lit (.bool true)], args := [d1, d2, d3, d4, d5] }
  | _ => none }
def fnExactCutContainerRow : OpenClaim := { program := "ytopklampiaecdaagreat", sum := "c9403f3b60c1e82b23eeb1324e62e8fa316ff22bb80e995ddd278de6bca48a29", func := "loop.example/soughtstreams/laws.FnExactCutContainer", spec := "fnExactCutContainer", inPlace := ["internal/abi.NoEscape"], recurses := true, apart := false }
def FnExactCutContainerSaid : Prop := fnExactCutContainerRow.holds Tryz.pinned (OpenSpec.ofChange fnExactCutContainerSpec)

/-- ITS FALSE NEIGHBOUR: 'it returns false'. Refute it at one input. -/
def fnExactCutContainerWrong : ChangeSpec := { name := "fnExactCutContainer", fn := fun _ => fun
  | [d1, d2, d3, d4, d5] => { results := [.lit (.bool false)], args := [d1, d2, d3, d4, d5] }
  | _ => none }
def FnExactCutContainerWrongFalsely : Prop := fnExactCutContainerRow.holds Tryz.pinned (OpenSpec.ofChange fnExactCutContainerWrong)

/-- 'laws.FnExactReplaceRange': WHATEVER THE INPUT: true; the input reads as it did. -/
def fnExactReplaceRangeSpec : ChangeSpec := { name := "fnExactReplaceRange", fn := fun _ => fun
  | [d1, d2, d3, d4, d5, d6, d7] => { results := [.lit (.bool true)], args := [d1, d2, d3, d4, d5, d6, d7] }
  | _ => none }
def fnExactReplaceRangeRow : OpenClaim := { program := "ytopklampiaecdaagreat", sum := "c9403f3b60c1e82b23eeb1324e62e8fa316ff22bb80e995ddd278de6bca48a29", func := "loop.example/soughtstreams/laws.FnExactReplaceRange", spec := "fnExactReplaceRange", inPlace := ["internal/abi.NoEscape"], recurses := true, apart := false }
def FnExactReplaceRangeSaid : Prop := fnExactReplaceRangeRow.holds Tryz.pinned (OpenSpec.ofChange fnExactReplaceRangeSpec)

/-- ITS FALSE NEIGHBOUR: 'it returns false'. Refute it at one input. -/
def fnExactReplaceRangeWrong : ChangeSpec := { name := "fnExactReplaceRange", fn := fun _ => fun
  | [d1, d2, d3, d4, d5, d6, d7] => { results := [.lit (.bool false)], args := [d1, d2, d3, d4, d5, d6, d7] }
  | _ => none }
def FnExactReplaceRangeWrongFalsely : Prop := fnExactReplaceRangeRow.holds Tryz.pinned (OpenSpec.ofChange fnExactReplaceRangeWrong)

/-- 'laws.FnExactDeleteRange': WHATEVER THE INPUT: true; the input reads as it did. -/
def fnExactDeleteRangeSpec : ChangeSpec := { name := "fnExactDeleteRange", fn := fun _ => fun
  | [d1, d2, d3, d4, d5] => { results := [.lit (.bool true)], args := [d1, d2, d3, d4, d5] }
  | _ => none }
def fnExactDeleteRangeRow : OpenClaim := { program := "ytopklampiaecdaagreat", sum := "c9403f3b60c1e82b23eeb1324e62e8fa316ff22bb80e995ddd278de6bca48a29", func := "loop.example/soughtstreams/laws.FnExactDeleteRange", spec := "fnExactDeleteRange", inPlace := ["internal/abi.NoEscape"], recurses := true, apart := false }
def FnExactDeleteRangeSaid : Prop := fnExactDeleteRangeRow.holds Tryz.pinned (OpenSpec.ofChange fnExactDeleteRangeSpec)

/-- ITS FALSE NEIGHBOUR: 'it returns false'. Refute it at one input. -/
def fnExactDeleteRangeWrong : ChangeSpec := { name := "fnExactDeleteRange", fn := fun _ => fun
  | [d1, d2, d3, d4, d5] => { results := [.lit (.bool false)], args := [d1, d2, d3, d4, d5] }
  | _ => none }
def FnExactDeleteRangeWrongFalsely : Prop := fnExactDeleteRangeRow.holds Tryz.pinned (OpenSpec.ofChange fnExactDeleteRangeWrong)

/-- 'laws.FnExactInsertData': WHATEVER THE INPUT: true; the input reads as it did. -/
def fnExactInsertDataSpec : ChangeSpec := { name := "fnExactInsertData", fn := fun _ => fun
  | [d1, d2, d3, d4, d5, d6] => { results := [.lit (.bool true)], args := [d1, d2, d3, d4, d5, d6] }
  | _ => none }
def fnExactInsertDataRow : OpenClaim := { program := "ytopklampiaecdaagreat", sum := "c9403f3b60c1e82b23eeb1324e62e8fa316ff22bb80e995ddd278de6bca48a29", func := "loop.example/soughtstreams/laws.FnExactInsertData", spec := "fnExactInsertData", inPlace := ["internal/abi.NoEscape"], recurses := true, apart := false }
def FnExactInsertDataSaid : Prop := fnExactInsertDataRow.holds Tryz.pinned (OpenSpec.ofChange fnExactInsertDataSpec)

/-- ITS FALSE NEIGHBOUR: 'it returns false'. Refute it at one input. -/
def fnExactInsertDataWrong : ChangeSpec := { name := "fnExactInsertData", fn := fun _ => fun
  | [d1, d2, d3, d4, d5, d6] => { results := [.lit (.bool false)], args := [d1, d2, d3, d4, d5, d6] }
  | _ => none }
def FnExactInsertDataWrongFalsely : Prop := fnExactInsertDataRow.holds Tryz.pinned (OpenSpec.ofChange fnExactInsertDataWrong)

/-- 'laws.FnExactPatchContainer': WHATEVER THE INPUT: true; the input reads as it did. -/
def fnExactPatchContainerSpec : ChangeSpec := { name := "fnExactPatchContainer", fn := fun _ => fun
  | [d1, d2, d3, d4, d5] => { results := [.lit (.bool true)], args := [d1, d2, d3, d4, d5] }
  | _ => none }
def fnExactPatchContainerRow : OpenClaim := { program := "ytopklampiaecdaagreat", sum := "c9403f3b60c1e82b23eeb1324e62e8fa316ff22bb80e995ddd278de6bca48a29", func := "loop.example/soughtstreams/laws.FnExactPatchContainer", spec := "fnExactPatchContainer", inPlace := ["internal/abi.NoEscape"], recurses := true, apart := false }
def FnExactPatchContainerSaid : Prop := fnExactPatchContainerRow.holds Tryz.pinned (OpenSpec.ofChange fnExactPatchContainerSpec)

/-- ITS FALSE NEIGHBOUR: 'it returns false'. Refute it at one input. -/
def fnExactPatchContainerWrong : ChangeSpec := { name := "fnExactPatchContainer", fn := fun _ => fun
  | [d1, d2, d3, d4, d5] => { results := [.lit (.bool false)], args := [d1, d2, d3, d4, d5] }
  | _ => none }
def FnExactPatchContainerWrongFalsely : Prop := fnExactPatchContainerRow.holds Tryz.pinned (OpenSpec.ofChange fnExactPatchContainerWrong)

/-- 'laws.FnTurnMake': WHATEVER THE INPUT: true; the input reads as it did. -/
def fnTurnMakeSpec : ChangeSpec := { name := "fnTurnMake", fn := fun _ => fun
  | [d] => { results := [.lit (.bool true)], args := [d] }
  | _ => none }
def fnTurnMakeRow : OpenClaim := { program := "ytopklampiaecdaagreat", sum := "c9403f3b60c1e82b23eeb1324e62e8fa316ff22bb80e995ddd278de6bca48a29", func := "loop.example/soughtstreams/laws.FnTurnMake", spec := "fnTurnMake", inPlace := ["internal/abi.NoEscape"], recurses := true, apart := false }
def FnTurnMakeSaid : Prop := fnTurnMakeRow.holds Tryz.pinned (OpenSpec.ofChange fnTurnMakeSpec)

/-- ITS FALSE NEIGHBOUR: 'it returns false'. Refute it at one input. -/
def fnTurnMakeWrong : ChangeSpec := { name := "fnTurnMake", fn := fun _ => fun
  | [d] => { results := [.lit (.bool false)], args := [d] }
  | _ => none }
def FnTurnMakeWrongFalsely : Prop := fnTurnMakeRow.holds Tryz.pinned (OpenSpec.ofChange fnTurnMakeWrong)

/-- 'laws.FnAppend': WHATEVER THE INPUT: true; the input reads as it did. -/
def fnAppendSpec : ChangeSpec := { name := "fnAppend", fn := fun _ => fun
  | [d] => { results := [.lit (.bool true)], args := [d] }
  | _ => none }
def fnAppendRow : OpenClaim := { program := "ytopklampiaecdaagreat", sum := "c9403f3b60c1e82b23eeb1324e62e8fa316ff22bb80e995ddd278de6bca48a29", func := "loop.example/soughtstreams/laws.FnAppend", spec := "fnAppend", inPlace := ["internal/abi.NoEscape"], recurses := true, apart := false }
def FnAppendSaid : Prop := fnAppendRow.holds Tryz.pinned (OpenSpec.ofChange fnAppendSpec)

/-- ITS FALSE NEIGHBOUR: 'it returns false'. Refute it at one input. -/
def fnAppendWrong : ChangeSpec := { name := "fnAppend", fn := fun _ => fun
  | [d] => { results := [.lit (.bool false)], args := [d] }
  | _ => none }
def FnAppendWrongFalsely : Prop := fnAppendRow.holds Tryz.pinned (OpenSpec.ofChange fnAppendWrong)

/-- 'laws.FnTurn': WHATEVER THE INPUT: true; the input reads as it did. -/
def fnTurnSpec : ChangeSpec := { name := "fnTurn", fn := fun _ => fun
  | [d] => { results := [.lit (.bool true)], args := [d] }
  | _ => none }
def fnTurnRow : OpenClaim := { program := "ytopklampiaecdaagreat", sum := "c9403f3b60c1e82b23eeb1324e62e8fa316ff22bb80e995ddd278de6bca48a29", func := "loop.example/soughtstreams/laws.FnTurn", spec := "fnTurn", inPlace := ["internal/abi.NoEscape"], recurses := true, apart := false }
def FnTurnSaid : Prop := fnTurnRow.holds Tryz.pinned (OpenSpec.ofChange fnTurnSpec)

/-- ITS FALSE NEIGHBOUR: 'it returns false'. Refute it at one input. -/
def fnTurnWrong : ChangeSpec := { name := "fnTurn", fn := fun _ => fun
  | [d] => { results := [.lit (.bool false)], args := [d] }
  | _ => none }
def FnTurnWrongFalsely : Prop := fnTurnRow.holds Tryz.pinned (OpenSpec.ofChange fnTurnWrong)

/- THE SECOND FORM. 'bulk': how many values and letters a reading holds, each counted each time it is reached (what is shared counts as often as it is met; a slice's spare places count too). A statement '..UptoSaid' is the law's where the arguments, and the package variables that the reading takes, are together of bulk at most 1048576: NARROWER than '..Said'. Prove '..Said' where nothing that the law and all that it calls make is longer than what came in: it says more and counts as full. Else prove '..UptoSaid'. A law counts once. -/
mutual
def uptoBulk {H : Type} : DataW H → Nat
  | .lit (.string bytes) => bytes.length + 1
  | .lit _ => 1
  | .nil => 1
  | .ptr d => uptoBulk d + 1
  | .slice elems spare => uptoBulkAll elems + uptoBulkAll spare + 1
  | .agg parts => uptoBulkAll parts + 1
  | .iface _ d => uptoBulk d + 1
  | .map entries => uptoBulkEntries entries + 1
  | .held _ => 1
def uptoBulkAll {H : Type} : List (DataW H) → Nat
  | [] => 0
  | d :: r => uptoBulk d + uptoBulkAll r
def uptoBulkEntries {H : Type} : List (Lit × DataW H) → Nat
  | [] => 0
  | x :: r => uptoBulkEntry x + uptoBulkEntries r
def uptoBulkEntry {H : Type} : Lit × DataW H → Nat
  | (.string bytes, d) => bytes.length + uptoBulk d + 1
  | (_, d) => uptoBulk d + 1
 end
def uptoSmall : (H : Type) → List (DataW H) → Bool := fun _ ds => decide (uptoBulkAll ds ≤ 1048576)
def OpenSpec.upto (s : _root_.Go.ChangeSpec) : _root_.Go.OpenSpec := { _root_.Go.OpenSpec.ofChange s with cond := some uptoSmall }

/-- 'laws.FnExactAppendData', WHERE WHAT IT READS IS OF BULK AT MOST 1048576: true; the input reads as it did. -/
def fnExactAppendDataUptoRow : OpenClaim := { program := "ytopklampiaecdaagreat", sum := "c9403f3b60c1e82b23eeb1324e62e8fa316ff22bb80e995ddd278de6bca48a29", func := "loop.example/soughtstreams/laws.FnExactAppendData", spec := "fnExactAppendData", inPlace := ["internal/abi.NoEscape"], recurses := true, apart := false, narrowed := true }
def FnExactAppendDataUptoSaid : Prop := fnExactAppendDataUptoRow.holds Tryz.pinned (OpenSpec.upto fnExactAppendDataSpec)

/-- 'laws.FnExactTurnContainer', WHERE WHAT IT READS IS OF BULK AT MOST 1048576: true; the input reads as it did. -/
def fnExactTurnContainerUptoRow : OpenClaim := { program := "ytopklampiaecdaagreat", sum := "c9403f3b60c1e82b23eeb1324e62e8fa316ff22bb80e995ddd278de6bca48a29", func := "loop.example/soughtstreams/laws.FnExactTurnContainer", spec := "fnExactTurnContainer", inPlace := ["internal/abi.NoEscape"], recurses := true, apart := false, narrowed := true }
def FnExactTurnContainerUptoSaid : Prop := fnExactTurnContainerUptoRow.holds Tryz.pinned (OpenSpec.upto fnExactTurnContainerSpec)

/-- 'laws.FnExactResizeBlocks', WHERE WHAT IT READS IS OF BULK AT MOST 1048576: true; the input reads as it did. -/
def fnExactResizeBlocksUptoRow : OpenClaim := { program := "ytopklampiaecdaagreat", sum := "c9403f3b60c1e82b23eeb1324e62e8fa316ff22bb80e995ddd278de6bca48a29", func := "loop.example/soughtstreams/laws.FnExactResizeBlocks", spec := "fnExactResizeBlocks", inPlace := ["internal/abi.NoEscape"], recurses := true, apart := false, narrowed := true }
def FnExactResizeBlocksUptoSaid : Prop := fnExactResizeBlocksUptoRow.holds Tryz.pinned (OpenSpec.upto fnExactResizeBlocksSpec)

/-- 'laws.FnExactMergeBlocks', WHERE WHAT IT READS IS OF BULK AT MOST 1048576: true; the input reads as it did. -/
def fnExactMergeBlocksUptoRow : OpenClaim := { program := "ytopklampiaecdaagreat", sum := "c9403f3b60c1e82b23eeb1324e62e8fa316ff22bb80e995ddd278de6bca48a29", func := "loop.example/soughtstreams/laws.FnExactMergeBlocks", spec := "fnExactMergeBlocks", inPlace := ["internal/abi.NoEscape"], recurses := true, apart := false, narrowed := true }
def FnExactMergeBlocksUptoSaid : Prop := fnExactMergeBlocksUptoRow.holds Tryz.pinned (OpenSpec.upto fnExactMergeBlocksSpec)

/-- 'laws.FnExactCutContainer', WHERE WHAT IT READS IS OF BULK AT MOST 1048576: true; the input reads as it did. -/
def fnExactCutContainerUptoRow : OpenClaim := { program := "ytopklampiaecdaagreat", sum := "c9403f3b60c1e82b23eeb1324e62e8fa316ff22bb80e995ddd278de6bca48a29", func := "loop.example/soughtstreams/laws.FnExactCutContainer", spec := "fnExactCutContainer", inPlace := ["internal/abi.NoEscape"], recurses := true, apart := false, narrowed := true }
def FnExactCutContainerUptoSaid : Prop := fnExactCutContainerUptoRow.holds Tryz.pinned (OpenSpec.upto fnExactCutContainerSpec)

/-- 'laws.FnExactReplaceRange', WHERE WHAT IT READS IS OF BULK AT MOST 1048576: true; the input reads as it did. -/
def fnExactReplaceRangeUptoRow : OpenClaim := { program := "ytopklampiaecdaagreat", sum := "c9403f3b60c1e82b23eeb1324e62e8fa316ff22bb80e995ddd278de6bca48a29", func := "loop.example/soughtstreams/laws.FnExactReplaceRange", spec := "fnExactReplaceRange", inPlace := ["internal/abi.NoEscape"], recurses := true, apart := false, narrowed := true }
def FnExactReplaceRangeUptoSaid : Prop := fnExactReplaceRangeUptoRow.holds Tryz.pinned (OpenSpec.upto fnExactReplaceRangeSpec)

/-- 'laws.FnExactDeleteRange', WHERE WHAT IT READS IS OF BULK AT MOST 1048576: true; the input reads as it did. -/
def fnExactDeleteRangeUptoRow : OpenClaim := { program := "ytopklampiaecdaagreat", sum := "c9403f3b60c1e82b23eeb1324e62e8fa316ff22bb80e995ddd278de6bca48a29", func := "loop.example/soughtstreams/laws.FnExactDeleteRange", spec := "fnExactDeleteRange", inPlace := ["internal/abi.NoEscape"], recurses := true, apart := false, narrowed := true }
def FnExactDeleteRangeUptoSaid : Prop := fnExactDeleteRangeUptoRow.holds Tryz.pinned (OpenSpec.upto fnExactDeleteRangeSpec)

/-- 'laws.FnExactInsertData', WHERE WHAT IT READS IS OF BULK AT MOST 1048576: true; the input reads as it did. -/
def fnExactInsertDataUptoRow : OpenClaim := { program := "ytopklampiaecdaagreat", sum := "c9403f3b60c1e82b23eeb1324e62e8fa316ff22bb80e995ddd278de6bca48a29", func := "loop.example/soughtstreams/laws.FnExactInsertData", spec := "fnExactInsertData", inPlace := ["internal/abi.NoEscape"], recurses := true, apart := false, narrowed := true }
def FnExactInsertDataUptoSaid : Prop := fnExactInsertDataUptoRow.holds Tryz.pinned (OpenSpec.upto fnExactInsertDataSpec)

/-- 'laws.FnExactPatchContainer', WHERE WHAT IT READS IS OF BULK AT MOST 1048576: true; the input reads as it did. -/
def fnExactPatchContainerUptoRow : OpenClaim := { program := "ytopklampiaecdaagreat", sum := "c9403f3b60c1e82b23eeb1324e62e8fa316ff22bb80e995ddd278de6bca48a29", func := "loop.example/soughtstreams/laws.FnExactPatchContainer", spec := "fnExactPatchContainer", inPlace := ["internal/abi.NoEscape"], recurses := true, apart := false, narrowed := true }
def FnExactPatchContainerUptoSaid : Prop := fnExactPatchContainerUptoRow.holds Tryz.pinned (OpenSpec.upto fnExactPatchContainerSpec)

/-- 'laws.FnTurnMake', WHERE WHAT IT READS IS OF BULK AT MOST 1048576: true; the input reads as it did. -/
def fnTurnMakeUptoRow : OpenClaim := { program := "ytopklampiaecdaagreat", sum := "c9403f3b60c1e82b23eeb1324e62e8fa316ff22bb80e995ddd278de6bca48a29", func := "loop.example/soughtstreams/laws.FnTurnMake", spec := "fnTurnMake", inPlace := ["internal/abi.NoEscape"], recurses := true, apart := false, narrowed := true }
def FnTurnMakeUptoSaid : Prop := fnTurnMakeUptoRow.holds Tryz.pinned (OpenSpec.upto fnTurnMakeSpec)

/-- 'laws.FnAppend', WHERE WHAT IT READS IS OF BULK AT MOST 1048576: true; the input reads as it did. -/
def fnAppendUptoRow : OpenClaim := { program := "ytopklampiaecdaagreat", sum := "c9403f3b60c1e82b23eeb1324e62e8fa316ff22bb80e995ddd278de6bca48a29", func := "loop.example/soughtstreams/laws.FnAppend", spec := "fnAppend", inPlace := ["internal/abi.NoEscape"], recurses := true, apart := false, narrowed := true }
def FnAppendUptoSaid : Prop := fnAppendUptoRow.holds Tryz.pinned (OpenSpec.upto fnAppendSpec)

/-- 'laws.FnTurn', WHERE WHAT IT READS IS OF BULK AT MOST 1048576: true; the input reads as it did. -/
def fnTurnUptoRow : OpenClaim := { program := "ytopklampiaecdaagreat", sum := "c9403f3b60c1e82b23eeb1324e62e8fa316ff22bb80e995ddd278de6bca48a29", func := "loop.example/soughtstreams/laws.FnTurn", spec := "fnTurn", inPlace := ["internal/abi.NoEscape"], recurses := true, apart := false, narrowed := true }
def FnTurnUptoSaid : Prop := fnTurnUptoRow.holds Tryz.pinned (OpenSpec.upto fnTurnSpec)

end Rows
end Go.Proofs.YtopklampiaecdaaGreat
