/-
  DERIVED. GIVEN WITH THE SEED: THE CARDS: each row of YtgfpjekjhnkbfaaGreatDoorRows.lean that lists a variable, with what it lists TIED to the program's text (the seventh form; the later family's looks); each row that meets fmt, with fmt's text TOLD by the authors' own Lean function (tested against real Go, not proved from fmt's source: count such statements apart). THE CARD IS WHAT COUNTS. Prove the row's statement (the work); the ties are given (YtgfpjekjhnkbfaaGreatDoorTie.lean); close each card by the builder's one call (the guide's Derived/Test/ToyasCard.lean, 'card_holds'). Laid BY PROGRAM, IN A SANDBOX (cutbox-door.mjs). By AI agents, Wed Nov 11 2026. No macro, syntax, notation, axiom, sorry.
-/
import Derived.Test.YtgfpjekjhnkbfaaGreatDoorRows
import GoSem.ClaimSeven
namespace Go.Proofs.YtgfpjekjhnkbfaaGreatDoor
namespace Rows

/-- THE TIED CARD OF 'laws.FnExactRunDesk'. -/
def fnExactRunDeskCard : Claim7 := { stood := { row := fnExactRunDeskRow, standIns := [], harness := (true, "5715036e41d3b6b63f32cd6e91815be88cb656f6f2c865a9a14ce36f8d730f2c"), looks := true }, kinds := [], alts := [], laidByText := true, laidKinds := [.data, .data, .data, .data, .sentinel, .sentinel, .pinned], laidTests := true, laidLooks := .later }
def FnExactRunDeskCardSaid : Prop := Claim7.holds Tryz.pinned (.plain (OpenSpec.ofChange fnExactRunDeskSpec)) fnExactRunDeskCard

/-- THE SECOND FORM's CARD OF 'laws.FnExactRunDesk'. -/
def fnExactRunDeskUptoCard : Claim7 := { stood := { row := fnExactRunDeskUptoRow, standIns := [], harness := (true, "5715036e41d3b6b63f32cd6e91815be88cb656f6f2c865a9a14ce36f8d730f2c"), looks := true }, kinds := [], alts := [], laidByText := true, laidKinds := [.data, .data, .data, .data, .sentinel, .sentinel, .pinned], laidTests := true, laidLooks := .later }
def FnExactRunDeskUptoCardSaid : Prop := Claim7.holds Tryz.pinned (.plain (OpenSpec.upto fnExactRunDeskSpec)) fnExactRunDeskUptoCard
end Rows
end Go.Proofs.YtgfpjekjhnkbfaaGreatDoor
