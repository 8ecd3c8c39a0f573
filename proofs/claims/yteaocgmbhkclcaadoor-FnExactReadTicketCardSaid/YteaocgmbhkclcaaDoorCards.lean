/-
  DERIVED. GIVEN WITH THE SEED: THE CARDS: each row of YteaocgmbhkclcaaDoorRows.lean that lists a variable, with what it lists TIED to the program's text (the seventh form; the later family's looks); each row that meets fmt, with fmt's text TOLD by the authors' own Lean function (tested against real Go, not proved from fmt's source: count such statements apart). THE CARD IS WHAT COUNTS. Prove the row's statement (the work); the ties are given (YteaocgmbhkclcaaDoorTie.lean); close each card by the builder's one call (the guide's Derived/Test/ToyasCard.lean, 'card_holds'). Laid BY PROGRAM, IN A SANDBOX (cutbox-door.mjs). By AI agents, Wed Nov 11 2026. No macro, syntax, notation, axiom, sorry.
-/
import Derived.Test.YteaocgmbhkclcaaDoorRows
import GoSem.ClaimSeven
namespace Go.Proofs.YteaocgmbhkclcaaDoor
namespace Rows

/-- THE TIED CARD OF 'laws.FnExactReadTicket'. -/
def fnExactReadTicketCard : Claim7 := { stood := { row := fnExactReadTicketRow, standIns := [], harness := (true, "c1982466c628c11d4008ce96ee91a93bc2d7a666bddf4a897ac61d86012eb84e"), looks := true }, kinds := [], alts := [], laidByText := true, laidKinds := [.data, .data, .data, .data, .sentinel, .sentinel, .pinned], laidTests := true, laidLooks := .later }
def FnExactReadTicketCardSaid : Prop := Claim7.holds Tryd.pinned (.plain (OpenSpec.ofChange fnExactReadTicketSpec)) fnExactReadTicketCard

/-- THE SECOND FORM's CARD OF 'laws.FnExactReadTicket'. -/
def fnExactReadTicketUptoCard : Claim7 := { stood := { row := fnExactReadTicketUptoRow, standIns := [], harness := (true, "c1982466c628c11d4008ce96ee91a93bc2d7a666bddf4a897ac61d86012eb84e"), looks := true }, kinds := [], alts := [], laidByText := true, laidKinds := [.data, .data, .data, .data, .sentinel, .sentinel, .pinned], laidTests := true, laidLooks := .later }
def FnExactReadTicketUptoCardSaid : Prop := Claim7.holds Tryd.pinned (.plain (OpenSpec.upto fnExactReadTicketSpec)) fnExactReadTicketUptoCard
end Rows
end Go.Proofs.YteaocgmbhkclcaaDoor
