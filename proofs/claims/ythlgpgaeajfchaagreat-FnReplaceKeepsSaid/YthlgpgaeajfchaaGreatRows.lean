/-
  No cell of these rows narrows 'for every input' (looked for: loops, veiled, ifaces, maps, wideKeys, modest, calm, conditions, laid).
  DERIVED. THE GIVEN ROWS OF THIS SEAT. 10 by the template 'for every input the law returns true; each argument reads behind the call as it read before'; 0 by the template 'total and deterministic' (their statements: YthlgpgaeajfchaaGreatTotals.lean).
  GIVEN WITH THE SEED: the statements are not yours to turn. If you find one false, say at which input.
  Laid BY PROGRAM, IN A SANDBOX (cutbox-rows.mjs): the forced cells as the released guide's own fill.sh prints them over the translation d05f80b4126485d1… (all of the seat's roots in one cut). By AI agents, Wed Nov 11 2026. No macro, syntax, notation, axiom, sorry.
-/
import Derived.Test.YthlgpgaeajfchaaGreatChecked
import GoSem.Claim
import GoSem.ClaimJoined
import GoSem.ClaimMapViews
import Derived.JoinedTies
import Derived.KernelRfl
namespace Go.Proofs.YthlgpgaeajfchaaGreat
/- THE CELL 'sum', in the pinned program and in every row, IS THE sha256 OF THE DUMP (.gsa) THAT YthlgpgaeajfchaaGreatProg.lean LOADS. Nothing in Lean hashes anything: it is a label: what it is worth is what the hold of that sum in a sandbox is worth. -/
noncomputable def Tryz.pinned : Pinned := { name := "ythlgpgaeajfchaagreat", sum := "d05f80b4126485d1497697b4e85940d8fd4594ea2fbe1021bcdbb50ceab8dcfd", checked := Tryz.checked }
namespace Rows
def none {H : Type} : Left H := { results := [], args := [] }

/-- 'laws.FnResize': WHATEVER THE INPUT: true; the input reads as it did. -/
def fnResizeSpec : ChangeSpec := { name := "fnResize", fn := fun _ => fun
  | [d] => { results := [.lit (.bool true)], args := [d] }
  | _ => none }
def fnResizeRow : OpenClaim := { program := "ythlgpgaeajfchaagreat", sum := "d05f80b4126485d1497697b4e85940d8fd4594ea2fbe1021bcdbb50ceab8dcfd", func := "loop.example/soughtstreams/laws.FnResize", spec := "fnResize", inPlace := ["internal/abi.NoEscape"], recurses := true, apart := false }
def FnResizeSaid : Prop := fnResizeRow.holds Tryz.pinned (OpenSpec.ofChange fnResizeSpec)

/-- ITS FALSE NEIGHBOUR: 'it returns false'. Refute it at one input. -/
def fnResizeWrong : ChangeSpec := { name := "fnResize", fn := fun _ => fun
  | [d] => { results := [.lit (.bool false)], args := [d] }
  | _ => none }
def FnResizeWrongFalsely : Prop := fnResizeRow.holds Tryz.pinned (OpenSpec.ofChange fnResizeWrong)

/-- 'laws.FnMerge': WHATEVER THE INPUT: true; the input reads as it did. -/
def fnMergeSpec : ChangeSpec := { name := "fnMerge", fn := fun _ => fun
  | [d] => { results := [.lit (.bool true)], args := [d] }
  | _ => none }
def fnMergeRow : OpenClaim := { program := "ythlgpgaeajfchaagreat", sum := "d05f80b4126485d1497697b4e85940d8fd4594ea2fbe1021bcdbb50ceab8dcfd", func := "loop.example/soughtstreams/laws.FnMerge", spec := "fnMerge", inPlace := ["internal/abi.NoEscape"], recurses := true, apart := false }
def FnMergeSaid : Prop := fnMergeRow.holds Tryz.pinned (OpenSpec.ofChange fnMergeSpec)

/-- ITS FALSE NEIGHBOUR: 'it returns false'. Refute it at one input. -/
def fnMergeWrong : ChangeSpec := { name := "fnMerge", fn := fun _ => fun
  | [d] => { results := [.lit (.bool false)], args := [d] }
  | _ => none }
def FnMergeWrongFalsely : Prop := fnMergeRow.holds Tryz.pinned (OpenSpec.ofChange fnMergeWrong)

/-- 'laws.FnCutKeeps': WHATEVER THE INPUT: true; the input reads as it did. -/
def fnCutKeepsSpec : ChangeSpec := { name := "fnCutKeeps", fn := fun _ => fun
  | [d] => { results := [.lit (.bool true)], args := [d] }
  | _ => none }
def fnCutKeepsRow : OpenClaim := { program := "ythlgpgaeajfchaagreat", sum := "d05f80b4126485d1497697b4e85940d8fd4594ea2fbe1021bcdbb50ceab8dcfd", func := "loop.example/soughtstreams/laws.FnCutKeeps", spec := "fnCutKeeps", inPlace := ["internal/abi.NoEscape"], recurses := true, apart := false }
def FnCutKeepsSaid : Prop := fnCutKeepsRow.holds Tryz.pinned (OpenSpec.ofChange fnCutKeepsSpec)

/-- ITS FALSE NEIGHBOUR: 'it returns false'. Refute it at one input. -/
def fnCutKeepsWrong : ChangeSpec := { name := "fnCutKeeps", fn := fun _ => fun
  | [d] => { results := [.lit (.bool false)], args := [d] }
  | _ => none }
def FnCutKeepsWrongFalsely : Prop := fnCutKeepsRow.holds Tryz.pinned (OpenSpec.ofChange fnCutKeepsWrong)

/-- 'laws.FnCut': WHATEVER THE INPUT: true; the input reads as it did. -/
def fnCutSpec : ChangeSpec := { name := "fnCut", fn := fun _ => fun
  | [d] => { results := [.lit (.bool true)], args := [d] }
  | _ => none }
def fnCutRow : OpenClaim := { program := "ythlgpgaeajfchaagreat", sum := "d05f80b4126485d1497697b4e85940d8fd4594ea2fbe1021bcdbb50ceab8dcfd", func := "loop.example/soughtstreams/laws.FnCut", spec := "fnCut", inPlace := ["internal/abi.NoEscape"], recurses := true, apart := false }
def FnCutSaid : Prop := fnCutRow.holds Tryz.pinned (OpenSpec.ofChange fnCutSpec)

/-- ITS FALSE NEIGHBOUR: 'it returns false'. Refute it at one input. -/
def fnCutWrong : ChangeSpec := { name := "fnCut", fn := fun _ => fun
  | [d] => { results := [.lit (.bool false)], args := [d] }
  | _ => none }
def FnCutWrongFalsely : Prop := fnCutRow.holds Tryz.pinned (OpenSpec.ofChange fnCutWrong)

/-- 'laws.FnReplace': WHATEVER THE INPUT: true; the input reads as it did. -/
def fnReplaceSpec : ChangeSpec := { name := "fnReplace", fn := fun _ => fun
  | [d] => { results := [.lit (.bool true)], args := [d] }
  | _ => none }
def fnReplaceRow : OpenClaim := { program := "ythlgpgaeajfchaagreat", sum := "d05f80b4126485d1497697b4e85940d8fd4594ea2fbe1021bcdbb50ceab8dcfd", func := "loop.example/soughtstreams/laws.FnReplace", spec := "fnReplace", inPlace := ["internal/abi.NoEscape"], recurses := true, apart := false }
def FnReplaceSaid : Prop := fnReplaceRow.holds Tryz.pinned (OpenSpec.ofChange fnReplaceSpec)

/-- ITS FALSE NEIGHBOUR: 'it returns false'. Refute it at one input. -/
def fnReplaceWrong : ChangeSpec := { name := "fnReplace", fn := fun _ => fun
  | [d] => { results := [.lit (.bool false)], args := [d] }
  | _ => none }
def FnReplaceWrongFalsely : Prop := fnReplaceRow.holds Tryz.pinned (OpenSpec.ofChange fnReplaceWrong)

/-- 'laws.FnReplaceKeeps': WHATEVER THE INPUT: true; the input reads as it did. -/
def fnReplaceKeepsSpec : ChangeSpec := { name := "fnReplaceKeeps", fn := fun _ => fun
  | [d] => { results := [.lit (.bool true)], args := [d] }
  | _ => none }
def fnReplaceKeepsRow : OpenClaim := { program := "ythlgpgaeajfchaagreat", sum := "d05f80b4126485d1497697b4e85940d8fd4594ea2fbe1021bcdbb50ceab8dcfd", func := "loop.example/soughtstreams/laws.FnReplaceKeeps", spec := "fnReplaceKeeps", inPlace := ["internal/abi.NoEscape"], recurses := true, apart := false }
def FnReplaceKeepsSaid : Prop := fnReplaceKeepsRow.holds Tryz.pinned (OpenSpec.ofChange fnReplaceKeepsSpec)

/-- ITS FALSE NEIGHBOUR: 'it returns false'. Refute it at one input. -/
def fnReplaceKeepsWrong : ChangeSpec := { name := "fnReplaceKeeps", fn := fun _ => fun
  | [d] => { results := [.lit (.bool false)], args := [d] }
  | _ => none }
def FnReplaceKeepsWrongFalsely : Prop := fnReplaceKeepsRow.holds Tryz.pinned (OpenSpec.ofChange fnReplaceKeepsWrong)

/-- 'laws.FnDelete': WHATEVER THE INPUT: true; the input reads as it did. -/
def fnDeleteSpec : ChangeSpec := { name := "fnDelete", fn := fun _ => fun
  | [d] => { results := [.lit (.bool true)], args := [d] }
  | _ => none }
def fnDeleteRow : OpenClaim := { program := "ythlgpgaeajfchaagreat", sum := "d05f80b4126485d1497697b4e85940d8fd4594ea2fbe1021bcdbb50ceab8dcfd", func := "loop.example/soughtstreams/laws.FnDelete", spec := "fnDelete", inPlace := ["internal/abi.NoEscape"], recurses := true, apart := false }
def FnDeleteSaid : Prop := fnDeleteRow.holds Tryz.pinned (OpenSpec.ofChange fnDeleteSpec)

/-- ITS FALSE NEIGHBOUR: 'it returns false'. Refute it at one input. -/
def fnDeleteWrong : ChangeSpec := { name := "fnDelete", fn := fun _ => fun
  | [d] => { results := [.lit (.bool false)], args := [d] }
  | _ => none }
def FnDeleteWrongFalsely : Prop := fnDeleteRow.holds Tryz.pinned (OpenSpec.ofChange fnDeleteWrong)

/-- 'laws.FnReplaceParts': WHATEVER THE INPUT: true; the input reads as it did. -/
def fnReplacePartsSpec : ChangeSpec := { name := "fnReplaceParts", fn := fun _ => fun
  | [d] => { results := [.lit (.bool true)], args := [d] }
  | _ => none }
def fnReplacePartsRow : OpenClaim := { program := "ythlgpgaeajfchaagreat", sum := "d05f80b4126485d1497697b4e85940d8fd4594ea2fbe1021bcdbb50ceab8dcfd", func := "loop.example/soughtstreams/laws.FnReplaceParts", spec := "fnReplaceParts", inPlace := ["internal/abi.NoEscape"], recurses := true, apart := false }
def FnReplacePartsSaid : Prop := fnReplacePartsRow.holds Tryz.pinned (OpenSpec.ofChange fnReplacePartsSpec)

/-- ITS FALSE NEIGHBOUR: 'it returns false'. Refute it at one input. -/
def fnReplacePartsWrong : ChangeSpec := { name := "fnReplaceParts", fn := fun _ => fun
  | [d] => { results := [.lit (.bool false)], args := [d] }
  | _ => none }
def FnReplacePartsWrongFalsely : Prop := fnReplacePartsRow.holds Tryz.pinned (OpenSpec.ofChange fnReplacePartsWrong)

/-- 'laws.FnInsertDelete': WHATEVER THE INPUT: true; the input reads as it did. -/
def fnInsertDeleteSpec : ChangeSpec := { name := "fnInsertDelete", fn := fun _ => fun
  | [d] => { results := [.lit (.bool true)], args := [d] }
  | _ => none }
def fnInsertDeleteRow : OpenClaim := { program := "ythlgpgaeajfchaagreat", sum := "d05f80b4126485d1497697b4e85940d8fd4594ea2fbe1021bcdbb50ceab8dcfd", func := "loop.example/soughtstreams/laws.FnInsertDelete", spec := "fnInsertDelete", inPlace := ["internal/abi.NoEscape"], recurses := true, apart := false }
def FnInsertDeleteSaid : Prop := fnInsertDeleteRow.holds Tryz.pinned (OpenSpec.ofChange fnInsertDeleteSpec)

/-- ITS FALSE NEIGHBOUR: 'it returns false'. Refute it at one input. -/
def fnInsertDeleteWrong : ChangeSpec := { name := "fnInsertDelete", fn := fun _ => fun
  | [d] => { results := [.lit (.bool false)], args := [d] }
  | _ => none }
def FnInsertDeleteWrongFalsely : Prop := fnInsertDeleteRow.holds Tryz.pinned (OpenSpec.ofChange fnInsertDeleteWrong)

/-- 'laws.FnWholeEdit': WHATEVER THE INPUT: true; the input reads as it did. -/
def fnWholeEditSpec : ChangeSpec := { name := "fnWholeEdit", fn := fun _ => fun
  | [d] => { results := [.lit (.bool true)], args := [d] }
  | _ => none }
def fnWholeEditRow : OpenClaim := { program := "ythlgpgaeajfchaagreat", sum := "d05f80b4126485d1497697b4e85940d8fd4594ea2fbe1021bcdbb50ceab8dcfd", func := "loop.example/soughtstreams/laws.FnWholeEdit", spec := "fnWholeEdit", inPlace := ["internal/abi.NoEscape"], recurses := true, apart := false }
def FnWholeEditSaid : Prop := fnWholeEditRow.holds Tryz.pinned (OpenSpec.ofChange fnWholeEditSpec)

/-- ITS FALSE NEIGHBOUR: 'it returns false'. Refute it at one input. -/
def fnWholeEditWrong : ChangeSpec := { name := "fnWholeEdit", fn := fun _ => fun
  | [d] => { results := [.lit (.bool false)], args := [d] }
  | _ => none }
def FnWholeEditWrongFalsely : Prop := fnWholeEditRow.holds Tryz.pinned (OpenSpec.ofChange fnWholeEditWrong)

/- THE SECOND FORM. 'bulk': how many values and letters a reading holds, each counted each time it is reached (what is shared counts as often as it is met; a slice's spare places count too). A statement '..UptoSaid' is the law's where the arguments, and the package variables that the reading takes, are together of bulk at most 1048576: NARROWER than '..Said'. Prove '..Said' where nothing that the law and all that it calls make is longer than what came in: it says more and counts as full. Else prove '..UptoSaid'. A law counts once. -/
mutual
def uptoBulk {H : Type} : DataW H → Nat
  | .lit (.string bytes) => bytes.length + 1
  | .lit _ => 1
  | .nil => 1
  | .ptr d => uptoBulk d + 1
  | .slice elems spare => uptoBulkAll elems + uptoBulkAll spare + 1
  | .agg parts => uptoBulkAll parts + 1
  | .iface _ d => uptoBulk d + 1
  | .map entries => uptoBulkEntries entries + 1
  | .held _ => 1
def uptoBulkAll {H : Type} : List (DataW H) → Nat
  | [] => 0
  | d :: r => uptoBulk d + uptoBulkAll r
def uptoBulkEntries {H : Type} : List (Lit × DataW H) → Nat
  | [] => 0
  | x :: r => uptoBulkEntry x + uptoBulkEntries r
def uptoBulkEntry {H : Type} : Lit × DataW H → Nat
  | (.string bytes, d) => bytes.length + uptoBulk d + 1
  | (_, d) => uptoBulk d + 1
 end
def uptoSmall : (H : Type) → List (DataW H) → Bool := fun _ ds => decide (uptoBulkAll ds ≤ 1048576)
def OpenSpec.upto (s : _root_.Go.ChangeSpec) : _root_.Go.OpenSpec := { _root_.Go.OpenSpec.ofChange s with cond := some uptoSmall }

/-- 'laws.FnResize', WHERE WHAT IT READS IS OF BULK AT MOST 1048576: true; the input reads as it did. -/
def fnResizeUptoRow : OpenClaim := { program := "ythlgpgaeajfchaagreat", sum := "d05f80b4126485d1497697b4e85940d8fd4594ea2fbe1021bcdbb50ceab8dcfd", func := "loop.example/soughtstreams/laws.FnResize", spec := "fnResize", inPlace := ["internal/abi.NoEscape"], recurses := true, apart := false, narrowed := true }
def FnResizeUptoSaid : Prop := fnResizeUptoRow.holds Tryz.pinned (OpenSpec.upto fnResizeSpec)

/-- 'laws.FnMerge', WHERE WHAT IT READS IS OF BULK AT MOST 1048576: true; the input reads as it did. -/
def fnMergeUptoRow : OpenClaim := { program := "ythlgpgaeajfchaagreat", sum := "d05f80b4126485d1497697b4e85940d8fd4594ea2fbe1021bcdbb50ceab8dcfd", func := "loop.example/soughtstreams/laws.FnMerge", spec := "fnMerge", inPlace := ["internal/abi.NoEscape"], recurses := true, apart := false, narrowed := true }
def FnMergeUptoSaid : Prop := fnMergeUptoRow.holds Tryz.pinned (OpenSpec.upto fnMergeSpec)

/-- 'laws.FnCutKeeps', WHERE WHAT IT READS IS OF BULK AT MOST 1048576: true; the input reads as it did. -/
def fnCutKeepsUptoRow : OpenClaim := { program := "ythlgpgaeajfchaagreat", sum := "d05f80b4126485d1497697b4e85940d8fd4594ea2fbe1021bcdbb50ceab8dcfd", func := "loop.example/soughtstreams/laws.FnCutKeeps", spec := "fnCutKeeps", inPlace := ["internal/abi.NoEscape"], recurses := true, apart := false, narrowed := true }
def FnCutKeepsUptoSaid : Prop := fnCutKeepsUptoRow.holds Tryz.pinned (OpenSpec.upto fnCutKeepsSpec)

/-- 'laws.FnCut', WHERE WHAT IT READS IS OF BULK AT MOST 1048576: true; the input reads as it did. -/
def fnCutUptoRow : OpenClaim := { program := "ythlgpgaeajfchaagreat", sum := "d05f80b4126485d1497697b4e85940d8fd4594ea2fbe1021bcdbb50ceab8dcfd", func := "loop.example/soughtstreams/laws.FnCut", spec := "fnCut", inPlace := ["internal/abi.NoEscape"], recurses := true, apart := false, narrowed := true }
def FnCutUptoSaid : Prop := fnCutUptoRow.holds Tryz.pinned (OpenSpec.upto fnCutSpec)

/-- 'laws.FnReplace', WHERE WHAT IT READS IS OF BULK AT MOST 1048576: true; the input reads as it did. -/
def fnReplaceUptoRow : OpenClaim := { program := "ythlgpgaeajfchaagreat", sum := "d05f80b4126485d1497697b4e85940d8fd4594ea2fbe1021bcdbb50ceab8dcfd", func := "loop.example/soughtstreams/laws.FnReplace", spec := "fnReplace", inPlace := ["internal/abi.NoEscape"], recurses := true, apart := false, narrowed := true }
def FnReplaceUptoSaid : Prop := fnReplaceUptoRow.holds Tryz.pinned (OpenSpec.upto fnReplaceSpec)

/-- 'laws.FnReplaceKeeps', WHERE WHAT IT READS IS OF BULK AT MOST 1048576: true; the input reads as it did. -/
def fnReplaceKeepsUptoRow : OpenClaim := { program := "ythlgpgaeajfchaagreat", sum := "d05f80b4126485d1497697b4e85940d8fd4594ea2fbe1021bcdbb50ceab8dcfd", func := "loop.example/soughtstreams/laws.FnReplaceKeeps", spec := "fnReplaceKeeps", inPlace := ["internal/abi.NoEscape"], recurses := true, apart := false, narrowed := true }
def FnReplaceKeepsUptoSaid : Prop := fnReplaceKeepsUptoRow.holds Tryz.pinned (OpenSpec.upto fnReplaceKeepsSpec)

/-- 'laws.FnDelete', WHERE WHAT IT READS IS OF BULK AT MOST 1048576: true; the input reads as it did. -/
def fnDeleteUptoRow : OpenClaim := { program := "ythlgpgaeajfchaagreat", sum := "d05f80b4126485d1497697b4e85940d8fd4594ea2fbe1021bcdbb50ceab8dcfd", func := "loop.example/soughtstreams/laws.FnDelete", spec := "fnDelete", inPlace := ["internal/abi.NoEscape"], recurses := true, apart := false, narrowed := true }
def FnDeleteUptoSaid : Prop := fnDeleteUptoRow.holds Tryz.pinned (OpenSpec.upto fnDeleteSpec)

/-- 'laws.FnReplaceParts', WHERE WHAT IT READS IS OF BULK AT MOST 1048576: true; the input reads as it did. -/
def fnReplacePartsUptoRow : OpenClaim := { program := "ythlgpgaeajfchaagreat", sum := "d05f80b4126485d1497697b4e85940d8fd4594ea2fbe1021bcdbb50ceab8dcfd", func := "loop.example/soughtstreams/laws.FnReplaceParts", spec := "fnReplaceParts", inPlace := ["internal/abi.NoEscape"], recurses := true, apart := false, narrowed := true }
def FnReplacePartsUptoSaid : Prop := fnReplacePartsUptoRow.holds Tryz.pinned (OpenSpec.upto fnReplacePartsSpec)

/-- 'laws.FnInsertDelete', WHERE WHAT IT READS IS OF BULK AT MOST 1048576: true; the input reads as it did. -/
def fnInsertDeleteUptoRow : OpenClaim := { program := "ythlgpgaeajfchaagreat", sum := "d05f80b4126485d1497697b4e85940d8fd4594ea2fbe1021bcdbb50ceab8dcfd", func := "loop.example/soughtstreams/laws.FnInsertDelete", spec := "fnInsertDelete", inPlace := ["internal/abi.NoEscape"], recurses := true, apart := false, narrowed := true }
def FnInsertDeleteUptoSaid : Prop := fnInsertDeleteUptoRow.holds Tryz.pinned (OpenSpec.upto fnInsertDeleteSpec)

/-- 'laws.FnWholeEdit', WHERE WHAT IT READS IS OF BULK AT MOST 1048576: true; the input reads as it did. -/
def fnWholeEditUptoRow : OpenClaim := { program := "ythlgpgaeajfchaagreat", sum := "d05f80b4126485d1497697b4e85940d8fd4594ea2fbe1021bcdbb50ceab8dcfd", func := "loop.example/soughtstreams/laws.FnWholeEdit", spec := "fnWholeEdit", inPlace := ["internal/abi.NoEscape"], recurses := true, apart := false, narrowed := true }
def FnWholeEditUptoSaid : Prop := fnWholeEditUptoRow.holds Tryz.pinned (OpenSpec.upto fnWholeEditSpec)

end Rows
end Go.Proofs.YthlgpgaeajfchaaGreat
