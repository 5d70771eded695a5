/-
  No cell of these rows narrows 'for every input' (looked for: loops, veiled, ifaces, maps, wideKeys, modest, calm, conditions, laid).
  DERIVED. THE GIVEN ROWS OF THIS SEAT. 12 by the template 'for every input the law returns true; each argument reads behind the call as it read before'; 0 by the template 'total and deterministic' (their statements: YtjbicmlilgimlaaTotals.lean).
  GIVEN WITH THE SEED: the statements are not yours to turn. If you find one false, say at which input.
  Laid BY PROGRAM, IN A SANDBOX (cutbox-rows.mjs): the forced cells as the released guide's own fill.sh prints them over the translation 54c1e0631d262b6d… (all of the seat's roots in one cut). By AI agents, Wed Nov 11 2026. No macro, syntax, notation, axiom, sorry.
-/
import Derived.Test.YtjbicmlilgimlaaChecked
import GoSem.Claim
import GoSem.ClaimJoined
import GoSem.ClaimMapViews
import Derived.JoinedTies
import Derived.KernelRfl
namespace Go.Proofs.Ytjbicmlilgimlaa
/- THE CELL 'sum', in the pinned program and in every row, IS THE sha256 OF THE DUMP (.gsa) THAT YtjbicmlilgimlaaProg.lean LOADS. Nothing in Lean hashes anything: it is a label: what it is worth is what the hold of that sum in a sandbox is worth. -/
noncomputable def Try.pinned : Pinned := { name := "ytjbicmlilgimlaa", sum := "54c1e0631d262b6d7bc0df593c4928d61f117eff6a21af8cf03649f2fd24b605", checked := Try.checked }
namespace Rows
def none {H : Type} : Left H := { results := [], args := [] }

/-- 'laws.FnExactInvertPatch': WHATEVER THE INPUT: true; the input reads as it did. -/
def fnExactInvertPatchSpec : ChangeSpec := { name := "fnExactInvertPatch", fn := fun _ => fun
  | [d1, d2] => { results := [.lit (.bool true)], args := [d1, d2] }
  | _ => none }
def fnExactInvertPatchRow : OpenClaim := { program := "ytjbicmlilgimlaa", sum := "54c1e0631d262b6d7bc0df593c4928d61f117eff6a21af8cf03649f2fd24b605", func := "loop.example/soughtstreams/laws.FnExactInvertPatch", spec := "fnExactInvertPatch", apart := false }
def FnExactInvertPatchSaid : Prop := fnExactInvertPatchRow.holds Try.pinned (OpenSpec.ofChange fnExactInvertPatchSpec)

/-- ITS FALSE NEIGHBOUR: 'it returns false'. Refute it at one input. -/
def fnExactInvertPatchWrong : ChangeSpec := { name := "fnExactInvertPatch", fn := fun _ => fun
  | [d1, d2] => { results := [.lit (.bool false)], args := [d1, d2] }
  | _ => none }
def FnExactInvertPatchWrongFalsely : Prop := fnExactInvertPatchRow.holds Try.pinned (OpenSpec.ofChange fnExactInvertPatchWrong)

/-- 'laws.FnExactXorTexts': WHATEVER THE INPUT: true; the input reads as it did. -/
def fnExactXorTextsSpec : ChangeSpec := { name := "fnExactXorTexts", fn := fun _ => fun
  | [d] => { results := [.lit (.bool true)], args := [d] }
  | _ => none }
def fnExactXorTextsRow : OpenClaim := { program := "ytjbicmlilgimlaa", sum := "54c1e0631d262b6d7bc0df593c4928d61f117eff6a21af8cf03649f2fd24b605", func := "loop.example/soughtstreams/laws.FnExactXorTexts", spec := "fnExactXorTexts", apart := false }
def FnExactXorTextsSaid : Prop := fnExactXorTextsRow.holds Try.pinned (OpenSpec.ofChange fnExactXorTextsSpec)

/-- ITS FALSE NEIGHBOUR: 'it returns false'. Refute it at one input. -/
def fnExactXorTextsWrong : ChangeSpec := { name := "fnExactXorTexts", fn := fun _ => fun
  | [d] => { results := [.lit (.bool false)], args := [d] }
  | _ => none }
def FnExactXorTextsWrongFalsely : Prop := fnExactXorTextsRow.holds Try.pinned (OpenSpec.ofChange fnExactXorTextsWrong)

/-- 'laws.FnExactPatchOf': WHATEVER THE INPUT: true; the input reads as it did. -/
def fnExactPatchOfSpec : ChangeSpec := { name := "fnExactPatchOf", fn := fun _ => fun
  | [d1, d2] => { results := [.lit (.bool true)], args := [d1, d2] }
  | _ => none }
def fnExactPatchOfRow : OpenClaim := { program := "ytjbicmlilgimlaa", sum := "54c1e0631d262b6d7bc0df593c4928d61f117eff6a21af8cf03649f2fd24b605", func := "loop.example/soughtstreams/laws.FnExactPatchOf", spec := "fnExactPatchOf", apart := false }
def FnExactPatchOfSaid : Prop := fnExactPatchOfRow.holds Try.pinned (OpenSpec.ofChange fnExactPatchOfSpec)

/-- ITS FALSE NEIGHBOUR: 'it returns false'. Refute it at one input. -/
def fnExactPatchOfWrong : ChangeSpec := { name := "fnExactPatchOf", fn := fun _ => fun
  | [d1, d2] => { results := [.lit (.bool false)], args := [d1, d2] }
  | _ => none }
def FnExactPatchOfWrongFalsely : Prop := fnExactPatchOfRow.holds Try.pinned (OpenSpec.ofChange fnExactPatchOfWrong)

/-- 'laws.FnExactRebuildText': WHATEVER THE INPUT: true; the input reads as it did. -/
def fnExactRebuildTextSpec : ChangeSpec := { name := "fnExactRebuildText", fn := fun _ => fun
  | [d1, d2] => { results := [.lit (.bool true)], args := [d1, d2] }
  | _ => none }
def fnExactRebuildTextRow : OpenClaim := { program := "ytjbicmlilgimlaa", sum := "54c1e0631d262b6d7bc0df593c4928d61f117eff6a21af8cf03649f2fd24b605", func := "loop.example/soughtstreams/laws.FnExactRebuildText", spec := "fnExactRebuildText", apart := false }
def FnExactRebuildTextSaid : Prop := fnExactRebuildTextRow.holds Try.pinned (OpenSpec.ofChange fnExactRebuildTextSpec)

/-- ITS FALSE NEIGHBOUR: 'it returns false'. Refute it at one input. -/
def fnExactRebuildTextWrong : ChangeSpec := { name := "fnExactRebuildText", fn := fun _ => fun
  | [d1, d2] => { results := [.lit (.bool false)], args := [d1, d2] }
  | _ => none }
def FnExactRebuildTextWrongFalsely : Prop := fnExactRebuildTextRow.holds Try.pinned (OpenSpec.ofChange fnExactRebuildTextWrong)

/-- 'laws.FnExactNextBlock': WHATEVER THE INPUT: true; the input reads as it did. -/
def fnExactNextBlockSpec : ChangeSpec := { name := "fnExactNextBlock", fn := fun _ => fun
  | [d1, d2] => { results := [.lit (.bool true)], args := [d1, d2] }
  | _ => none }
def fnExactNextBlockRow : OpenClaim := { program := "ytjbicmlilgimlaa", sum := "54c1e0631d262b6d7bc0df593c4928d61f117eff6a21af8cf03649f2fd24b605", func := "loop.example/soughtstreams/laws.FnExactNextBlock", spec := "fnExactNextBlock", apart := false }
def FnExactNextBlockSaid : Prop := fnExactNextBlockRow.holds Try.pinned (OpenSpec.ofChange fnExactNextBlockSpec)

/-- ITS FALSE NEIGHBOUR: 'it returns false'. Refute it at one input. -/
def fnExactNextBlockWrong : ChangeSpec := { name := "fnExactNextBlock", fn := fun _ => fun
  | [d1, d2] => { results := [.lit (.bool false)], args := [d1, d2] }
  | _ => none }
def FnExactNextBlockWrongFalsely : Prop := fnExactNextBlockRow.holds Try.pinned (OpenSpec.ofChange fnExactNextBlockWrong)

/-- 'laws.FnExactCheckContainer': WHATEVER THE INPUT: true; the input reads as it did. -/
def fnExactCheckContainerSpec : ChangeSpec := { name := "fnExactCheckContainer", fn := fun _ => fun
  | [d] => { results := [.lit (.bool true)], args := [d] }
  | _ => none }
def fnExactCheckContainerRow : OpenClaim := { program := "ytjbicmlilgimlaa", sum := "54c1e0631d262b6d7bc0df593c4928d61f117eff6a21af8cf03649f2fd24b605", func := "loop.example/soughtstreams/laws.FnExactCheckContainer", spec := "fnExactCheckContainer", apart := false }
def FnExactCheckContainerSaid : Prop := fnExactCheckContainerRow.holds Try.pinned (OpenSpec.ofChange fnExactCheckContainerSpec)

/-- ITS FALSE NEIGHBOUR: 'it returns false'. Refute it at one input. -/
def fnExactCheckContainerWrong : ChangeSpec := { name := "fnExactCheckContainer", fn := fun _ => fun
  | [d] => { results := [.lit (.bool false)], args := [d] }
  | _ => none }
def FnExactCheckContainerWrongFalsely : Prop := fnExactCheckContainerRow.holds Try.pinned (OpenSpec.ofChange fnExactCheckContainerWrong)

/-- 'laws.FnExactLostNumbers': WHATEVER THE INPUT: true; the input reads as it did. -/
def fnExactLostNumbersSpec : ChangeSpec := { name := "fnExactLostNumbers", fn := fun _ => fun
  | [d1, d2] => { results := [.lit (.bool true)], args := [d1, d2] }
  | _ => none }
def fnExactLostNumbersRow : OpenClaim := { program := "ytjbicmlilgimlaa", sum := "54c1e0631d262b6d7bc0df593c4928d61f117eff6a21af8cf03649f2fd24b605", func := "loop.example/soughtstreams/laws.FnExactLostNumbers", spec := "fnExactLostNumbers", apart := false }
def FnExactLostNumbersSaid : Prop := fnExactLostNumbersRow.holds Try.pinned (OpenSpec.ofChange fnExactLostNumbersSpec)

/-- ITS FALSE NEIGHBOUR: 'it returns false'. Refute it at one input. -/
def fnExactLostNumbersWrong : ChangeSpec := { name := "fnExactLostNumbers", fn := fun _ => fun
  | [d1, d2] => { results := [.lit (.bool false)], args := [d1, d2] }
  | _ => none }
def FnExactLostNumbersWrongFalsely : Prop := fnExactLostNumbersRow.holds Try.pinned (OpenSpec.ofChange fnExactLostNumbersWrong)

/-- 'laws.FnExactSameBlocks': WHATEVER THE INPUT: true; the input reads as it did. -/
def fnExactSameBlocksSpec : ChangeSpec := { name := "fnExactSameBlocks", fn := fun _ => fun
  | [d1, d2] => { results := [.lit (.bool true)], args := [d1, d2] }
  | _ => none }
def fnExactSameBlocksRow : OpenClaim := { program := "ytjbicmlilgimlaa", sum := "54c1e0631d262b6d7bc0df593c4928d61f117eff6a21af8cf03649f2fd24b605", func := "loop.example/soughtstreams/laws.FnExactSameBlocks", spec := "fnExactSameBlocks", apart := false }
def FnExactSameBlocksSaid : Prop := fnExactSameBlocksRow.holds Try.pinned (OpenSpec.ofChange fnExactSameBlocksSpec)

/-- ITS FALSE NEIGHBOUR: 'it returns false'. Refute it at one input. -/
def fnExactSameBlocksWrong : ChangeSpec := { name := "fnExactSameBlocks", fn := fun _ => fun
  | [d1, d2] => { results := [.lit (.bool false)], args := [d1, d2] }
  | _ => none }
def FnExactSameBlocksWrongFalsely : Prop := fnExactSameBlocksRow.holds Try.pinned (OpenSpec.ofChange fnExactSameBlocksWrong)

/-- 'laws.FnExactFormatParity': WHATEVER THE INPUT: true; the input reads as it did. -/
def fnExactFormatParitySpec : ChangeSpec := { name := "fnExactFormatParity", fn := fun _ => fun
  | [d] => { results := [.lit (.bool true)], args := [d] }
  | _ => none }
def fnExactFormatParityRow : OpenClaim := { program := "ytjbicmlilgimlaa", sum := "54c1e0631d262b6d7bc0df593c4928d61f117eff6a21af8cf03649f2fd24b605", func := "loop.example/soughtstreams/laws.FnExactFormatParity", spec := "fnExactFormatParity", inPlace := ["internal/abi.NoEscape", "internal/bytealg.MakeNoZero"], apart := false }
def FnExactFormatParitySaid : Prop := fnExactFormatParityRow.holds Try.pinned (OpenSpec.ofChange fnExactFormatParitySpec)

/-- ITS FALSE NEIGHBOUR: 'it returns false'. Refute it at one input. -/
def fnExactFormatParityWrong : ChangeSpec := { name := "fnExactFormatParity", fn := fun _ => fun
  | [d] => { results := [.lit (.bool false)], args := [d] }
  | _ => none }
def FnExactFormatParityWrongFalsely : Prop := fnExactFormatParityRow.holds Try.pinned (OpenSpec.ofChange fnExactFormatParityWrong)

/-- 'laws.FnXor': WHATEVER THE INPUT: true; the input reads as it did. -/
def fnXorSpec : ChangeSpec := { name := "fnXor", fn := fun _ => fun
  | [d] => { results := [.lit (.bool true)], args := [d] }
  | _ => none }
def fnXorRow : OpenClaim := { program := "ytjbicmlilgimlaa", sum := "54c1e0631d262b6d7bc0df593c4928d61f117eff6a21af8cf03649f2fd24b605", func := "loop.example/soughtstreams/laws.FnXor", spec := "fnXor", apart := false }
def FnXorSaid : Prop := fnXorRow.holds Try.pinned (OpenSpec.ofChange fnXorSpec)

/-- ITS FALSE NEIGHBOUR: 'it returns false'. Refute it at one input. -/
def fnXorWrong : ChangeSpec := { name := "fnXor", fn := fun _ => fun
  | [d] => { results := [.lit (.bool false)], args := [d] }
  | _ => none }
def FnXorWrongFalsely : Prop := fnXorRow.holds Try.pinned (OpenSpec.ofChange fnXorWrong)

/-- 'laws.FnRebuildRule': WHATEVER THE INPUT: true; the input reads as it did. -/
def fnRebuildRuleSpec : ChangeSpec := { name := "fnRebuildRule", fn := fun _ => fun
  | [d] => { results := [.lit (.bool true)], args := [d] }
  | _ => none }
def fnRebuildRuleRow : OpenClaim := { program := "ytjbicmlilgimlaa", sum := "54c1e0631d262b6d7bc0df593c4928d61f117eff6a21af8cf03649f2fd24b605", func := "loop.example/soughtstreams/laws.FnRebuildRule", spec := "fnRebuildRule", apart := false }
def FnRebuildRuleSaid : Prop := fnRebuildRuleRow.holds Try.pinned (OpenSpec.ofChange fnRebuildRuleSpec)

/-- ITS FALSE NEIGHBOUR: 'it returns false'. Refute it at one input. -/
def fnRebuildRuleWrong : ChangeSpec := { name := "fnRebuildRule", fn := fun _ => fun
  | [d] => { results := [.lit (.bool false)], args := [d] }
  | _ => none }
def FnRebuildRuleWrongFalsely : Prop := fnRebuildRuleRow.holds Try.pinned (OpenSpec.ofChange fnRebuildRuleWrong)

/-- 'laws.FnPatchLeast': WHATEVER THE INPUT: true; the input reads as it did. -/
def fnPatchLeastSpec : ChangeSpec := { name := "fnPatchLeast", fn := fun _ => fun
  | [d] => { results := [.lit (.bool true)], args := [d] }
  | _ => none }
def fnPatchLeastRow : OpenClaim := { program := "ytjbicmlilgimlaa", sum := "54c1e0631d262b6d7bc0df593c4928d61f117eff6a21af8cf03649f2fd24b605", func := "loop.example/soughtstreams/laws.FnPatchLeast", spec := "fnPatchLeast", apart := false }
def FnPatchLeastSaid : Prop := fnPatchLeastRow.holds Try.pinned (OpenSpec.ofChange fnPatchLeastSpec)

/-- ITS FALSE NEIGHBOUR: 'it returns false'. Refute it at one input. -/
def fnPatchLeastWrong : ChangeSpec := { name := "fnPatchLeast", fn := fun _ => fun
  | [d] => { results := [.lit (.bool false)], args := [d] }
  | _ => none }
def FnPatchLeastWrongFalsely : Prop := fnPatchLeastRow.holds Try.pinned (OpenSpec.ofChange fnPatchLeastWrong)

/- THE SECOND FORM. 'bulk': how many values and letters a reading holds, each counted each time it is reached (what is shared counts as often as it is met; a slice's spare places count too). A statement '..UptoSaid' is the law's where the arguments, and the package variables that the reading takes, are together of bulk at most 1048576: NARROWER than '..Said'. Prove '..Said' where nothing that the law and all that it calls make is longer than what came in: it says more and counts as full. Else prove '..UptoSaid'. A law counts once. -/
mutual
def uptoBulk {H : Type} : DataW H → Nat
  | .lit (.string bytes) => bytes.length + 1
  | .lit _ => 1
  | .nil => 1
  | .ptr d => uptoBulk d + 1
  | .slice elems spare => uptoBulkAll elems + uptoBulkAll spare + 1
  | .agg parts => uptoBulkAll parts + 1
  | .iface _ d => uptoBulk d + 1
  | .map entries => uptoBulkEntries entries + 1
  | .held _ => 1
def uptoBulkAll {H : Type} : List (DataW H) → Nat
  | [] => 0
  | d :: r => uptoBulk d + uptoBulkAll r
def uptoBulkEntries {H : Type} : List (Lit × DataW H) → Nat
  | [] => 0
  | x :: r => uptoBulkEntry x + uptoBulkEntries r
def uptoBulkEntry {H : Type} : Lit × DataW H → Nat
  | (.string bytes, d) => bytes.length + uptoBulk d + 1
  | (_, d) => uptoBulk d + 1
 end
def uptoSmall : (H : Type) → List (DataW H) → Bool := fun _ ds => decide (uptoBulkAll ds ≤ 1048576)
def OpenSpec.upto (s : _root_.Go.ChangeSpec) : _root_.Go.OpenSpec := { _root_.Go.OpenSpec.ofChange s with cond := some uptoSmall }

/-- 'laws.FnExactInvertPatch', WHERE WHAT IT READS IS OF BULK AT MOST 1048576: true; the input reads as it did. -/
def fnExactInvertPatchUptoRow : OpenClaim := { program := "ytjbicmlilgimlaa", sum := "54c1e0631d262b6d7bc0df593c4928d61f117eff6a21af8cf03649f2fd24b605", func := "loop.example/soughtstreams/laws.FnExactInvertPatch", spec := "fnExactInvertPatch", apart := false, narrowed := true }
def FnExactInvertPatchUptoSaid : Prop := fnExactInvertPatchUptoRow.holds Try.pinned (OpenSpec.upto fnExactInvertPatchSpec)

/-- 'laws.FnExactXorTexts', WHERE WHAT IT READS IS OF BULK AT MOST 1048576: true; the input reads as it did. -/
def fnExactXorTextsUptoRow : OpenClaim := { program := "ytjbicmlilgimlaa", sum := "54c1e0631d262b6d7bc0df593c4928d61f117eff6a21af8cf03649f2fd24b605", func := "loop.example/soughtstreams/laws.FnExactXorTexts", spec := "fnExactXorTexts", apart := false, narrowed := true }
def FnExactXorTextsUptoSaid : Prop := fnExactXorTextsUptoRow.holds Try.pinned (OpenSpec.upto fnExactXorTextsSpec)

/-- 'laws.FnExactPatchOf', WHERE WHAT IT READS IS OF BULK AT MOST 1048576: true; the input reads as it did. -/
def fnExactPatchOfUptoRow : OpenClaim := { program := "ytjbicmlilgimlaa", sum := "54c1e0631d262b6d7bc0df593c4928d61f117eff6a21af8cf03649f2fd24b605", func := "loop.example/soughtstreams/laws.FnExactPatchOf", spec := "fnExactPatchOf", apart := false, narrowed := true }
def FnExactPatchOfUptoSaid : Prop := fnExactPatchOfUptoRow.holds Try.pinned (OpenSpec.upto fnExactPatchOfSpec)

/-- 'laws.FnExactRebuildText', WHERE WHAT IT READS IS OF BULK AT MOST 1048576: true; the input reads as it did. -/
def fnExactRebuildTextUptoRow : OpenClaim := { program := "ytjbicmlilgimlaa", sum := "54c1e0631d262b6d7bc0df593c4928d61f117eff6a21af8cf03649f2fd24b605", func := "loop.example/soughtstreams/laws.FnExactRebuildText", spec := "fnExactRebuildText", apart := false, narrowed := true }
def FnExactRebuildTextUptoSaid : Prop := fnExactRebuildTextUptoRow.holds Try.pinned (OpenSpec.upto fnExactRebuildTextSpec)

/-- 'laws.FnExactNextBlock', WHERE WHAT IT READS IS OF BULK AT MOST 1048576: true; the input reads as it did. -/
def fnExactNextBlockUptoRow : OpenClaim := { program := "ytjbicmlilgimlaa", sum := "54c1e0631d262b6d7bc0df593c4928d61f117eff6a21af8cf03649f2fd24b605", func := "loop.example/soughtstreams/laws.FnExactNextBlock", spec := "fnExactNextBlock", apart := false, narrowed := true }
def FnExactNextBlockUptoSaid : Prop := fnExactNextBlockUptoRow.holds Try.pinned (OpenSpec.upto fnExactNextBlockSpec)

/-- 'laws.FnExactCheckContainer', WHERE WHAT IT READS IS OF BULK AT MOST 1048576: true; the input reads as it did. -/
def fnExactCheckContainerUptoRow : OpenClaim := { program := "ytjbicmlilgimlaa", sum := "54c1e0631d262b6d7bc0df593c4928d61f117eff6a21af8cf03649f2fd24b605", func := "loop.example/soughtstreams/laws.FnExactCheckContainer", spec := "fnExactCheckContainer", apart := false, narrowed := true }
def FnExactCheckContainerUptoSaid : Prop := fnExactCheckContainerUptoRow.holds Try.pinned (OpenSpec.upto fnExactCheckContainerSpec)

/-- 'laws.FnExactLostNumbers', WHERE WHAT IT READS IS OF BULK AT MOST 1048576: true; the input reads as it did. -/
def fnExactLostNumbersUptoRow : OpenClaim := { program := "ytjbicmlilgimlaa", sum := "54c1e0631d262b6d7bc0df593c4928d61f117eff6a21af8cf03649f2fd24b605", func := "loop.example/soughtstreams/laws.FnExactLostNumbers", spec := "fnExactLostNumbers", apart := false, narrowed := true }
def FnExactLostNumbersUptoSaid : Prop := fnExactLostNumbersUptoRow.holds Try.pinned (OpenSpec.upto fnExactLostNumbersSpec)

/-- 'laws.FnExactSameBlocks', WHERE WHAT IT READS IS OF BULK AT MOST 1048576: true; the input reads as it did. -/
def fnExactSameBlocksUptoRow : OpenClaim := { program := "ytjbicmlilgimlaa", sum := "54c1e0631d262b6d7bc0df593c4928d61f117eff6a21af8cf03649f2fd24b605", func := "loop.example/soughtstreams/laws.FnExactSameBlocks", spec := "fnExactSameBlocks", apart := false, narrowed := true }
def FnExactSameBlocksUptoSaid : Prop := fnExactSameBlocksUptoRow.holds Try.pinned (OpenSpec.upto fnExactSameBlocksSpec)

/-- 'laws.FnExactFormatParity', WHERE WHAT IT READS IS OF BULK AT MOST 1048576: true; the input reads as it did. -/
def fnExactFormatParityUptoRow : OpenClaim := { program := "ytjbicmlilgimlaa", sum := "54c1e0631d262b6d7bc0df593c4928d61f117eff6a21af8cf03649f2fd24b605", func := "loop.example/soughtstreams/laws.FnExactFormatParity", spec := "fnExactFormatParity", inPlace := ["internal/abi.NoEscape", "internal/bytealg.MakeNoZero"], apart := false, narrowed := true }
def FnExactFormatParityUptoSaid : Prop := fnExactFormatParityUptoRow.holds Try.pinned (OpenSpec.upto fnExactFormatParitySpec)

/-- 'laws.FnXor', WHERE WHAT IT READS IS OF BULK AT MOST 1048576: true; the input reads as it did. -/
def fnXorUptoRow : OpenClaim := { program := "ytjbicmlilgimlaa", sum := "54c1e0631d262b6d7bc0df593c4928d61f117eff6a21af8cf03649f2fd24b605", func := "loop.example/soughtstreams/laws.FnXor", spec := "fnXor", apart := false, narrowed := true }
def FnXorUptoSaid : Prop := fnXorUptoRow.holds Try.pinned (OpenSpec.upto fnXorSpec)

/-- 'laws.FnRebuildRule', WHERE WHAT IT READS IS OF BULK AT MOST 1048576: true; the input reads as it did. -/
def fnRebuildRuleUptoRow : OpenClaim := { program := "ytjbicmlilgimlaa", sum := "54c1e0631d262b6d7bc0df593c4928d61f117eff6a21af8cf03649f2fd24b605", func := "loop.example/soughtstreams/laws.FnRebuildRule", spec := "fnRebuildRule", apart := false, narrowed := true }
def FnRebuildRuleUptoSaid : Prop := fnRebuildRuleUptoRow.holds Try.pinned (OpenSpec.upto fnRebuildRuleSpec)

/-- 'laws.FnPatchLeast', WHERE WHAT IT READS IS OF BULK AT MOST 1048576: true; the input reads as it did. -/
def fnPatchLeastUptoRow : OpenClaim := { program := "ytjbicmlilgimlaa", sum := "54c1e0631d262b6d7bc0df593c4928d61f117eff6a21af8cf03649f2fd24b605", func := "loop.example/soughtstreams/laws.FnPatchLeast", spec := "fnPatchLeast", apart := false, narrowed := true }
def FnPatchLeastUptoSaid : Prop := fnPatchLeastUptoRow.holds Try.pinned (OpenSpec.upto fnPatchLeastSpec)

end Rows
end Go.Proofs.Ytjbicmlilgimlaa
