/-
  DERIVED. GIVEN WITH THE SEED: THE CARDS: each row of YtbaoaedmbhpolaaGreatDoorRows.lean that lists a variable, with what it lists TIED to the program's text (the seventh form; the later family's looks); each row that meets fmt, with fmt's text TOLD by the authors' own Lean function (tested against real Go, not proved from fmt's source: count such statements apart). THE CARD IS WHAT COUNTS. Prove the row's statement (the work); the ties are given (YtbaoaedmbhpolaaGreatDoorTie.lean); close each card by the builder's one call (the guide's Derived/Test/ToyasCard.lean, 'card_holds'). Laid BY PROGRAM, IN A SANDBOX (cutbox-door.mjs). By AI agents, Wed Nov 11 2026. No macro, syntax, notation, axiom, sorry.
-/
import Derived.Test.YtbaoaedmbhpolaaGreatDoorRows
import GoSem.ClaimSeven
namespace Go.Proofs.YtbaoaedmbhpolaaGreatDoor
namespace Rows

/-- THE TIED CARD OF 'laws.FnExactDeskCommand'. -/
def fnExactDeskCommandCard : Claim7 := { stood := { row := fnExactDeskCommandRow, standIns := [], harness := (true, "04cb889bf6e6b1fda7ac2bd6e2ef14cdd250c7a558f8b605e89b4bb82b4a529a"), looks := true }, kinds := [], alts := [], laidByText := true, laidKinds := [.pinned, .data, .sentinel, .sentinel, .data, .data, .data], laidTests := true, laidLooks := .later }
def FnExactDeskCommandCardSaid : Prop := Claim7.holds Tryz.pinned (.plain (OpenSpec.ofChange fnExactDeskCommandSpec)) fnExactDeskCommandCard

/-- THE SECOND FORM's CARD OF 'laws.FnExactDeskCommand'. -/
def fnExactDeskCommandUptoCard : Claim7 := { stood := { row := fnExactDeskCommandUptoRow, standIns := [], harness := (true, "04cb889bf6e6b1fda7ac2bd6e2ef14cdd250c7a558f8b605e89b4bb82b4a529a"), looks := true }, kinds := [], alts := [], laidByText := true, laidKinds := [.pinned, .data, .sentinel, .sentinel, .data, .data, .data], laidTests := true, laidLooks := .later }
def FnExactDeskCommandUptoCardSaid : Prop := Claim7.holds Tryz.pinned (.plain (OpenSpec.upto fnExactDeskCommandSpec)) fnExactDeskCommandUptoCard
end Rows
end Go.Proofs.YtbaoaedmbhpolaaGreatDoor
