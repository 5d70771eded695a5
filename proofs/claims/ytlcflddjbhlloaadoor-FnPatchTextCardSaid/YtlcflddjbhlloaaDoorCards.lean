/-
  DERIVED. GIVEN WITH THE SEED: THE CARDS: each row of YtlcflddjbhlloaaDoorRows.lean that lists a variable, with what it lists TIED to the program's text (the seventh form; the later family's looks); each row that meets fmt, with fmt's text TOLD by the authors' own Lean function (tested against real Go, not proved from fmt's source: count such statements apart). THE CARD IS WHAT COUNTS. Prove the row's statement (the work); the ties are given (YtlcflddjbhlloaaDoorTie.lean); close each card by the builder's one call (the guide's Derived/Test/ToyasCard.lean, 'card_holds'). Laid BY PROGRAM, IN A SANDBOX (cutbox-door.mjs). By AI agents, Wed Nov 11 2026. No macro, syntax, notation, axiom, sorry.
-/
import Derived.Test.YtlcflddjbhlloaaDoorRows
import GoSem.ClaimSeven
namespace Go.Proofs.YtlcflddjbhlloaaDoor
namespace Rows

/-- THE TIED CARD OF 'laws.FnExactParsePatch'. -/
def fnExactParsePatchCard : Claim7 := { stood := { row := fnExactParsePatchRow, standIns := [], harness := (true, "cb2d451e9ca2f6c074fa63bda7eabbbd41ee660e4a70c4461143e1b3c3c0008c"), looks := true }, kinds := [], alts := [], laidByText := true, laidKinds := [.data, .data, .data, .data, .sentinel, .sentinel, .pinned], laidTests := true, laidLooks := .later }
def FnExactParsePatchCardSaid : Prop := Claim7.holds Tryd.pinned (.plain (OpenSpec.ofChange fnExactParsePatchSpec)) fnExactParsePatchCard

/-- THE TIED CARD OF 'laws.FnPatch'. -/
def fnPatchCard : Claim7 := { stood := { row := fnPatchRow, standIns := [], harness := (true, "cb2d451e9ca2f6c074fa63bda7eabbbd41ee660e4a70c4461143e1b3c3c0008c"), looks := true }, kinds := [], alts := [], laidByText := true, laidKinds := [.data, .data, .data, .data, .sentinel, .sentinel, .pinned], laidTests := true, laidLooks := .later }
def FnPatchCardSaid : Prop := Claim7.holds Tryd.pinned (.plain (OpenSpec.ofChange fnPatchSpec)) fnPatchCard

/-- THE TIED CARD OF 'laws.FnPatchText'. -/
def fnPatchTextCard : Claim7 := { stood := { row := fnPatchTextRow, standIns := [], harness := (true, "cb2d451e9ca2f6c074fa63bda7eabbbd41ee660e4a70c4461143e1b3c3c0008c"), looks := true }, kinds := [], alts := [], laidByText := true, laidKinds := [.data, .data, .data, .data, .sentinel, .sentinel, .pinned], laidTests := true, laidLooks := .later }
def FnPatchTextCardSaid : Prop := Claim7.holds Tryd.pinned (.plain (OpenSpec.ofChange fnPatchTextSpec)) fnPatchTextCard

/-- THE SECOND FORM's CARD OF 'laws.FnExactParsePatch'. -/
def fnExactParsePatchUptoCard : Claim7 := { stood := { row := fnExactParsePatchUptoRow, standIns := [], harness := (true, "cb2d451e9ca2f6c074fa63bda7eabbbd41ee660e4a70c4461143e1b3c3c0008c"), looks := true }, kinds := [], alts := [], laidByText := true, laidKinds := [.data, .data, .data, .data, .sentinel, .sentinel, .pinned], laidTests := true, laidLooks := .later }
def FnExactParsePatchUptoCardSaid : Prop := Claim7.holds Tryd.pinned (.plain (OpenSpec.upto fnExactParsePatchSpec)) fnExactParsePatchUptoCard

/-- THE SECOND FORM's CARD OF 'laws.FnPatch'. -/
def fnPatchUptoCard : Claim7 := { stood := { row := fnPatchUptoRow, standIns := [], harness := (true, "cb2d451e9ca2f6c074fa63bda7eabbbd41ee660e4a70c4461143e1b3c3c0008c"), looks := true }, kinds := [], alts := [], laidByText := true, laidKinds := [.data, .data, .data, .data, .sentinel, .sentinel, .pinned], laidTests := true, laidLooks := .later }
def FnPatchUptoCardSaid : Prop := Claim7.holds Tryd.pinned (.plain (OpenSpec.upto fnPatchSpec)) fnPatchUptoCard

/-- THE SECOND FORM's CARD OF 'laws.FnPatchText'. -/
def fnPatchTextUptoCard : Claim7 := { stood := { row := fnPatchTextUptoRow, standIns := [], harness := (true, "cb2d451e9ca2f6c074fa63bda7eabbbd41ee660e4a70c4461143e1b3c3c0008c"), looks := true }, kinds := [], alts := [], laidByText := true, laidKinds := [.data, .data, .data, .data, .sentinel, .sentinel, .pinned], laidTests := true, laidLooks := .later }
def FnPatchTextUptoCardSaid : Prop := Claim7.holds Tryd.pinned (.plain (OpenSpec.upto fnPatchTextSpec)) fnPatchTextUptoCard
end Rows
end Go.Proofs.YtlcflddjbhlloaaDoor
