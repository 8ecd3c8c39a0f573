/-
  DERIVED. GIVEN WITH THE SEED: THE CARDS: each row of YtfpdnbojchnglaaGreatDoorRows.lean that lists a variable, with what it lists TIED to the program's text (the seventh form; the later family's looks); each row that meets fmt, with fmt's text TOLD by the authors' own Lean function (tested against real Go, not proved from fmt's source: count such statements apart). THE CARD IS WHAT COUNTS. Prove the row's statement (the work); the ties are given (YtfpdnbojchnglaaGreatDoorTie.lean); close each card by the builder's one call (the guide's Derived/Test/ToyasCard.lean, 'card_holds'). Laid BY PROGRAM, IN A SANDBOX (cutbox-door.mjs). By AI agents, Wed Nov 11 2026. No macro, syntax, notation, axiom, sorry.
-/
import Derived.Test.YtfpdnbojchnglaaGreatDoorRows
import GoSem.ClaimSeven
namespace Go.Proofs.YtfpdnbojchnglaaGreatDoor
namespace Rows

/-- THE TIED CARD OF 'laws.FnFares'. -/
def fnFaresCard : Claim7 := { stood := { row := fnFaresRow, standIns := [], harness := (true, "433751fb6244047e1963b5eb5ba7da57fec311114aff3645c35bc3ce1ed45759"), looks := true }, kinds := [], alts := [], laidByText := true, laidKinds := [.data, .data, .data, .data, .sentinel, .sentinel, .pinned], laidTests := true, laidLooks := .later }
def FnFaresCardSaid : Prop := Claim7.holds Tryz.pinned (.plain (OpenSpec.ofChange fnFaresSpec)) fnFaresCard

/-- THE SECOND FORM's CARD OF 'laws.FnFares'. -/
def fnFaresUptoCard : Claim7 := { stood := { row := fnFaresUptoRow, standIns := [], harness := (true, "433751fb6244047e1963b5eb5ba7da57fec311114aff3645c35bc3ce1ed45759"), looks := true }, kinds := [], alts := [], laidByText := true, laidKinds := [.data, .data, .data, .data, .sentinel, .sentinel, .pinned], laidTests := true, laidLooks := .later }
def FnFaresUptoCardSaid : Prop := Claim7.holds Tryz.pinned (.plain (OpenSpec.upto fnFaresSpec)) fnFaresUptoCard
end Rows
end Go.Proofs.YtfpdnbojchnglaaGreatDoor
