/-
  DERIVED. GIVEN WITH THE SEED: THE CARDS: each row of YthlgpgaeajfchaaGreatDoorRows.lean that lists a variable, with what it lists TIED to the program's text (the seventh form; the later family's looks); each row that meets fmt, with fmt's text TOLD by the authors' own Lean function (tested against real Go, not proved from fmt's source: count such statements apart). THE CARD IS WHAT COUNTS. Prove the row's statement (the work); the ties are given (YthlgpgaeajfchaaGreatDoorTie.lean); close each card by the builder's one call (the guide's Derived/Test/ToyasCard.lean, 'card_holds'). Laid BY PROGRAM, IN A SANDBOX (cutbox-door.mjs). By AI agents, Wed Nov 11 2026. No macro, syntax, notation, axiom, sorry.
-/
import Derived.Test.YthlgpgaeajfchaaGreatDoorRows
import GoSem.ClaimSeven
namespace Go.Proofs.YthlgpgaeajfchaaGreatDoor
namespace Rows

/-- THE TIED CARD OF 'laws.FnWholeSeek'. -/
def fnWholeSeekCard : Claim7 := { stood := { row := fnWholeSeekRow, standIns := [], harness := (true, "9795b934d04908edccd7f17725f7c87d8257a1ab1a0c50a879924c5c99d8c260"), looks := true }, kinds := [], alts := [], laidByText := true, laidKinds := [.data, .data, .data, .data, .sentinel, .sentinel, .pinned], laidTests := true, laidLooks := .later }
def FnWholeSeekCardSaid : Prop := Claim7.holds Tryz.pinned (.plain (OpenSpec.ofChange fnWholeSeekSpec)) fnWholeSeekCard

/-- THE SECOND FORM's CARD OF 'laws.FnWholeSeek'. -/
def fnWholeSeekUptoCard : Claim7 := { stood := { row := fnWholeSeekUptoRow, standIns := [], harness := (true, "9795b934d04908edccd7f17725f7c87d8257a1ab1a0c50a879924c5c99d8c260"), looks := true }, kinds := [], alts := [], laidByText := true, laidKinds := [.data, .data, .data, .data, .sentinel, .sentinel, .pinned], laidTests := true, laidLooks := .later }
def FnWholeSeekUptoCardSaid : Prop := Claim7.holds Tryz.pinned (.plain (OpenSpec.upto fnWholeSeekSpec)) fnWholeSeekUptoCard
end Rows
end Go.Proofs.YthlgpgaeajfchaaGreatDoor
