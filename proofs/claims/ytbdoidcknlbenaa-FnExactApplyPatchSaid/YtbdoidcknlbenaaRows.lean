/-
  No cell of these rows narrows 'for every input' (looked for: loops, veiled, ifaces, maps, wideKeys, modest, calm, conditions, laid).
  DERIVED. THE GIVEN ROWS OF THIS SEAT. 6 by the template 'for every input the law returns true; each argument reads behind the call as it read before'; 0 by the template 'total and deterministic' (their statements: YtbdoidcknlbenaaTotals.lean).
  GIVEN WITH THE SEED: the statements are not yours to turn. If you find one false, say at which input.
  Laid BY PROGRAM, IN A SANDBOX (cutbox-rows.mjs): the forced cells as the released guide's own fill.sh prints them over the translation 62207396447f1787… (all of the seat's roots in one cut). By AI agents, Wed Nov 11 2026. No macro, syntax, notation, axiom, sorry.
-/
import Derived.Test.YtbdoidcknlbenaaChecked
import GoSem.Claim
import GoSem.ClaimJoined
import GoSem.ClaimMapViews
import Derived.JoinedTies
import Derived.KernelRfl
namespace Go.Proofs.Ytbdoidcknlbenaa
/- THE CELL 'sum', in the pinned program and in every row, IS THE sha256 OF THE DUMP (.gsa) THAT YtbdoidcknlbenaaProg.lean LOADS. Nothing in Lean hashes anything: it is a label: what it is worth is what the hold of that sum in a sandbox is worth. -/
noncomputable def Try.pinned : Pinned := { name := "ytbdoidcknlbenaa", sum := "62207396447f1787ffdc5bd9383c5f371ee4f7f745c19f905a5ad3a8804672d8", checked := Try.checked }
namespace Rows
def none {H : Type} : Left H := { results := [], args := [] }

/-- 'laws.FnExactSharedEnd': WHATEVER THE INPUT: true; the input reads as it did. -/
def fnExactSharedEndSpec : ChangeSpec := { name := "fnExactSharedEnd", fn := fun _ => fun
  | [d1, d2] => { results := [.lit (.bool true)], args := [d1, d2] }
  | _ => none }
def fnExactSharedEndRow : OpenClaim := { program := "ytbdoidcknlbenaa", sum := "62207396447f1787ffdc5bd9383c5f371ee4f7f745c19f905a5ad3a8804672d8", func := "loop.example/soughtstreams/laws.FnExactSharedEnd", spec := "fnExactSharedEnd", apart := false }
def FnExactSharedEndSaid : Prop := fnExactSharedEndRow.holds Try.pinned (OpenSpec.ofChange fnExactSharedEndSpec)

/-- ITS FALSE NEIGHBOUR: 'it returns false'. Refute it at one input. -/
def fnExactSharedEndWrong : ChangeSpec := { name := "fnExactSharedEnd", fn := fun _ => fun
  | [d1, d2] => { results := [.lit (.bool false)], args := [d1, d2] }
  | _ => none }
def FnExactSharedEndWrongFalsely : Prop := fnExactSharedEndRow.holds Try.pinned (OpenSpec.ofChange fnExactSharedEndWrong)

/-- 'laws.FnExactSharedStart': WHATEVER THE INPUT: true; the input reads as it did. -/
def fnExactSharedStartSpec : ChangeSpec := { name := "fnExactSharedStart", fn := fun _ => fun
  | [d1, d2] => { results := [.lit (.bool true)], args := [d1, d2] }
  | _ => none }
def fnExactSharedStartRow : OpenClaim := { program := "ytbdoidcknlbenaa", sum := "62207396447f1787ffdc5bd9383c5f371ee4f7f745c19f905a5ad3a8804672d8", func := "loop.example/soughtstreams/laws.FnExactSharedStart", spec := "fnExactSharedStart", apart := false }
def FnExactSharedStartSaid : Prop := fnExactSharedStartRow.holds Try.pinned (OpenSpec.ofChange fnExactSharedStartSpec)

/-- ITS FALSE NEIGHBOUR: 'it returns false'. Refute it at one input. -/
def fnExactSharedStartWrong : ChangeSpec := { name := "fnExactSharedStart", fn := fun _ => fun
  | [d1, d2] => { results := [.lit (.bool false)], args := [d1, d2] }
  | _ => none }
def FnExactSharedStartWrongFalsely : Prop := fnExactSharedStartRow.holds Try.pinned (OpenSpec.ofChange fnExactSharedStartWrong)

/-- 'laws.FnExactChangeByte': WHATEVER THE INPUT: true; the input reads as it did. -/
def fnExactChangeByteSpec : ChangeSpec := { name := "fnExactChangeByte", fn := fun _ => fun
  | [d1, d2, d3] => { results := [.lit (.bool true)], args := [d1, d2, d3] }
  | _ => none }
def fnExactChangeByteRow : OpenClaim := { program := "ytbdoidcknlbenaa", sum := "62207396447f1787ffdc5bd9383c5f371ee4f7f745c19f905a5ad3a8804672d8", func := "loop.example/soughtstreams/laws.FnExactChangeByte", spec := "fnExactChangeByte", apart := false }
def FnExactChangeByteSaid : Prop := fnExactChangeByteRow.holds Try.pinned (OpenSpec.ofChange fnExactChangeByteSpec)

/-- ITS FALSE NEIGHBOUR: 'it returns false'. Refute it at one input. -/
def fnExactChangeByteWrong : ChangeSpec := { name := "fnExactChangeByte", fn := fun _ => fun
  | [d1, d2, d3] => { results := [.lit (.bool false)], args := [d1, d2, d3] }
  | _ => none }
def FnExactChangeByteWrongFalsely : Prop := fnExactChangeByteRow.holds Try.pinned (OpenSpec.ofChange fnExactChangeByteWrong)

/-- 'laws.FnExactDropBytes': WHATEVER THE INPUT: true; the input reads as it did. -/
def fnExactDropBytesSpec : ChangeSpec := { name := "fnExactDropBytes", fn := fun _ => fun
  | [d1, d2, d3] => { results := [.lit (.bool true)], args := [d1, d2, d3] }
  | _ => none }
def fnExactDropBytesRow : OpenClaim := { program := "ytbdoidcknlbenaa", sum := "62207396447f1787ffdc5bd9383c5f371ee4f7f745c19f905a5ad3a8804672d8", func := "loop.example/soughtstreams/laws.FnExactDropBytes", spec := "fnExactDropBytes", apart := false }
def FnExactDropBytesSaid : Prop := fnExactDropBytesRow.holds Try.pinned (OpenSpec.ofChange fnExactDropBytesSpec)

/-- ITS FALSE NEIGHBOUR: 'it returns false'. Refute it at one input. -/
def fnExactDropBytesWrong : ChangeSpec := { name := "fnExactDropBytes", fn := fun _ => fun
  | [d1, d2, d3] => { results := [.lit (.bool false)], args := [d1, d2, d3] }
  | _ => none }
def FnExactDropBytesWrongFalsely : Prop := fnExactDropBytesRow.holds Try.pinned (OpenSpec.ofChange fnExactDropBytesWrong)

/-- 'laws.FnExactRepeatBytes': WHATEVER THE INPUT: true; the input reads as it did. -/
def fnExactRepeatBytesSpec : ChangeSpec := { name := "fnExactRepeatBytes", fn := fun _ => fun
  | [d1, d2, d3] => { results := [.lit (.bool true)], args := [d1, d2, d3] }
  | _ => none }
def fnExactRepeatBytesRow : OpenClaim := { program := "ytbdoidcknlbenaa", sum := "62207396447f1787ffdc5bd9383c5f371ee4f7f745c19f905a5ad3a8804672d8", func := "loop.example/soughtstreams/laws.FnExactRepeatBytes", spec := "fnExactRepeatBytes", apart := false }
def FnExactRepeatBytesSaid : Prop := fnExactRepeatBytesRow.holds Try.pinned (OpenSpec.ofChange fnExactRepeatBytesSpec)

/-- ITS FALSE NEIGHBOUR: 'it returns false'. Refute it at one input. -/
def fnExactRepeatBytesWrong : ChangeSpec := { name := "fnExactRepeatBytes", fn := fun _ => fun
  | [d1, d2, d3] => { results := [.lit (.bool false)], args := [d1, d2, d3] }
  | _ => none }
def FnExactRepeatBytesWrongFalsely : Prop := fnExactRepeatBytesRow.holds Try.pinned (OpenSpec.ofChange fnExactRepeatBytesWrong)

/-- 'laws.FnExactApplyPatch': WHATEVER THE INPUT: true; the input reads as it did. -/
def fnExactApplyPatchSpec : ChangeSpec := { name := "fnExactApplyPatch", fn := fun _ => fun
  | [d1, d2] => { results := [.lit (.bool true)], args := [d1, d2] }
  | _ => none }
def fnExactApplyPatchRow : OpenClaim := { program := "ytbdoidcknlbenaa", sum := "62207396447f1787ffdc5bd9383c5f371ee4f7f745c19f905a5ad3a8804672d8", func := "loop.example/soughtstreams/laws.FnExactApplyPatch", spec := "fnExactApplyPatch", apart := false }
def FnExactApplyPatchSaid : Prop := fnExactApplyPatchRow.holds Try.pinned (OpenSpec.ofChange fnExactApplyPatchSpec)

/-- ITS FALSE NEIGHBOUR: 'it returns false'. Refute it at one input. -/
def fnExactApplyPatchWrong : ChangeSpec := { name := "fnExactApplyPatch", fn := fun _ => fun
  | [d1, d2] => { results := [.lit (.bool false)], args := [d1, d2] }
  | _ => none }
def FnExactApplyPatchWrongFalsely : Prop := fnExactApplyPatchRow.holds Try.pinned (OpenSpec.ofChange fnExactApplyPatchWrong)

/- THE SECOND FORM. 'bulk': how many values and letters a reading holds, each counted each time it is reached (what is shared counts as often as it is met; a slice's spare places count too). A statement '..UptoSaid' is the law's where the arguments, and the package variables that the reading takes, are together of bulk at most 1048576: NARROWER than '..Said'. Prove '..Said' where nothing that the law and all that it calls make is longer than what came in: it says more and counts as full. Else prove '..UptoSaid'. A law counts once. -/
mutual
def uptoBulk {H : Type} : DataW H → Nat
  | .lit (.string bytes) => bytes.length + 1
  | .lit _ => 1
  | .nil => 1
  | .ptr d => uptoBulk d + 1
  | .slice elems spare => uptoBulkAll elems + uptoBulkAll spare + 1
  | .agg parts => uptoBulkAll parts + 1
  | .iface _ d => uptoBulk d + 1
  | .map entries => uptoBulkEntries entries + 1
  | .held _ => 1
def uptoBulkAll {H : Type} : List (DataW H) → Nat
  | [] => 0
  | d :: r => uptoBulk d + uptoBulkAll r
def uptoBulkEntries {H : Type} : List (Lit × DataW H) → Nat
  | [] => 0
  | x :: r => uptoBulkEntry x + uptoBulkEntries r
def uptoBulkEntry {H : Type} : Lit × DataW H → Nat
  | (.string bytes, d) => bytes.length + uptoBulk d + 1
  | (_, d) => uptoBulk d + 1
 end
def uptoSmall : (H : Type) → List (DataW H) → Bool := fun _ ds => decide (uptoBulkAll ds ≤ 1048576)
def OpenSpec.upto (s : _root_.Go.ChangeSpec) : _root_.Go.OpenSpec := { _root_.Go.OpenSpec.ofChange s with cond := some uptoSmall }

/-- 'laws.FnExactSharedEnd', WHERE WHAT IT READS IS OF BULK AT MOST 1048576: true; the input reads as it did. -/
def fnExactSharedEndUptoRow : OpenClaim := { program := "ytbdoidcknlbenaa", sum := "62207396447f1787ffdc5bd9383c5f371ee4f7f745c19f905a5ad3a8804672d8", func := "loop.example/soughtstreams/laws.FnExactSharedEnd", spec := "fnExactSharedEnd", apart := false, narrowed := true }
def FnExactSharedEndUptoSaid : Prop := fnExactSharedEndUptoRow.holds Try.pinned (OpenSpec.upto fnExactSharedEndSpec)

/-- 'laws.FnExactSharedStart', WHERE WHAT IT READS IS OF BULK AT MOST 1048576: true; the input reads as it did. -/
def fnExactSharedStartUptoRow : OpenClaim := { program := "ytbdoidcknlbenaa", sum := "62207396447f1787ffdc5bd9383c5f371ee4f7f745c19f905a5ad3a8804672d8", func := "loop.example/soughtstreams/laws.FnExactSharedStart", spec := "fnExactSharedStart", apart := false, narrowed := true }
def FnExactSharedStartUptoSaid : Prop := fnExactSharedStartUptoRow.holds Try.pinned (OpenSpec.upto fnExactSharedStartSpec)

/-- 'laws.FnExactChangeByte', WHERE WHAT IT READS IS OF BULK AT MOST 1048576: true; the input reads as it did. -/
def fnExactChangeByteUptoRow : OpenClaim := { program := "ytbdoidcknlbenaa", sum := "62207396447f1787ffdc5bd9383c5f371ee4f7f745c19f905a5ad3a8804672d8", func := "loop.example/soughtstreams/laws.FnExactChangeByte", spec := "fnExactChangeByte", apart := false, narrowed := true }
def FnExactChangeByteUptoSaid : Prop := fnExactChangeByteUptoRow.holds Try.pinned (OpenSpec.upto fnExactChangeByteSpec)

/-- 'laws.FnExactDropBytes', WHERE WHAT IT READS IS OF BULK AT MOST 1048576: true; the input reads as it did. -/
def fnExactDropBytesUptoRow : OpenClaim := { program := "ytbdoidcknlbenaa", sum := "62207396447f1787ffdc5bd9383c5f371ee4f7f745c19f905a5ad3a8804672d8", func := "loop.example/soughtstreams/laws.FnExactDropBytes", spec := "fnExactDropBytes", apart := false, narrowed := true }
def FnExactDropBytesUptoSaid : Prop := fnExactDropBytesUptoRow.holds Try.pinned (OpenSpec.upto fnExactDropBytesSpec)

/-- 'laws.FnExactRepeatBytes', WHERE WHAT IT READS IS OF BULK AT MOST 1048576: true; the input reads as it did. -/
def fnExactRepeatBytesUptoRow : OpenClaim := { program := "ytbdoidcknlbenaa", sum := "62207396447f1787ffdc5bd9383c5f371ee4f7f745c19f905a5ad3a8804672d8", func := "loop.example/soughtstreams/laws.FnExactRepeatBytes", spec := "fnExactRepeatBytes", apart := false, narrowed := true }
def FnExactRepeatBytesUptoSaid : Prop := fnExactRepeatBytesUptoRow.holds Try.pinned (OpenSpec.upto fnExactRepeatBytesSpec)

/-- 'laws.FnExactApplyPatch', WHERE WHAT IT READS IS OF BULK AT MOST 1048576: true; the input reads as it did. -/
def fnExactApplyPatchUptoRow : OpenClaim := { program := "ytbdoidcknlbenaa", sum := "62207396447f1787ffdc5bd9383c5f371ee4f7f745c19f905a5ad3a8804672d8", func := "loop.example/soughtstreams/laws.FnExactApplyPatch", spec := "fnExactApplyPatch", apart := false, narrowed := true }
def FnExactApplyPatchUptoSaid : Prop := fnExactApplyPatchUptoRow.holds Try.pinned (OpenSpec.upto fnExactApplyPatchSpec)

end Rows
end Go.Proofs.Ytbdoidcknlbenaa
