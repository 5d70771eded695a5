/-
  DERIVED. GIVEN WITH THE SEED: THE CARDS: each row of YtjapfilkjngkjaaDoorRows.lean that lists a variable, with what it lists TIED to the program's text (the seventh form; the later family's looks); each row that meets fmt, with fmt's text TOLD by the authors' own Lean function (tested against real Go, not proved from fmt's source: count such statements apart). THE CARD IS WHAT COUNTS. Prove the row's statement (the work); the ties are given (YtjapfilkjngkjaaDoorTie.lean); close each card by the builder's one call (the guide's Derived/Test/ToyasCard.lean, 'card_holds'). Laid BY PROGRAM, IN A SANDBOX (cutbox-door.mjs). By AI agents, Wed Nov 11 2026. No macro, syntax, notation, axiom, sorry.
-/
import Derived.Test.YtjapfilkjngkjaaDoorRows
import GoSem.ClaimSeven
namespace Go.Proofs.YtjapfilkjngkjaaDoor
namespace Rows

/-- THE TIED CARD OF 'laws.FnExactFormatPatch'. -/
def fnExactFormatPatchCard : Claim7 := { stood := { row := fnExactFormatPatchRow, standIns := [], harness := (true, "ec91e5cd2a0aa44b4e9f204c2514128d692177f0dc57dfb5ae349cc5050e054f"), looks := false }, kinds := [], alts := [], laidByText := true, laidKinds := [.data, .data, .data], laidTests := true, laidLooks := .later }
def FnExactFormatPatchCardSaid : Prop := Claim7.holds Tryd.pinned (.plain (OpenSpec.ofChange fnExactFormatPatchSpec)) fnExactFormatPatchCard

/-- THE SECOND FORM's CARD OF 'laws.FnExactFormatPatch'. -/
def fnExactFormatPatchUptoCard : Claim7 := { stood := { row := fnExactFormatPatchUptoRow, standIns := [], harness := (true, "ec91e5cd2a0aa44b4e9f204c2514128d692177f0dc57dfb5ae349cc5050e054f"), looks := false }, kinds := [], alts := [], laidByText := true, laidKinds := [.data, .data, .data], laidTests := true, laidLooks := .later }
def FnExactFormatPatchUptoCardSaid : Prop := Claim7.holds Tryd.pinned (.plain (OpenSpec.upto fnExactFormatPatchSpec)) fnExactFormatPatchUptoCard
end Rows
end Go.Proofs.YtjapfilkjngkjaaDoor
