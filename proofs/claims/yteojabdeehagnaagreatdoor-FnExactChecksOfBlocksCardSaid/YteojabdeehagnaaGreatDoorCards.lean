/-
  DERIVED. GIVEN WITH THE SEED: THE CARDS: each row of YteojabdeehagnaaGreatDoorRows.lean that lists a variable, with what it lists TIED to the program's text (the seventh form; the later family's looks); each row that meets fmt, with fmt's text TOLD by the authors' own Lean function (tested against real Go, not proved from fmt's source: count such statements apart). THE CARD IS WHAT COUNTS. Prove the row's statement (the work); the ties are given (YteojabdeehagnaaGreatDoorTie.lean); close each card by the builder's one call (the guide's Derived/Test/ToyasCard.lean, 'card_holds'). Laid BY PROGRAM, IN A SANDBOX (cutbox-door.mjs). By AI agents, Wed Nov 11 2026. No macro, syntax, notation, axiom, sorry.
-/
import Derived.Test.YteojabdeehagnaaGreatDoorRows
import GoSem.ClaimSeven
namespace Go.Proofs.YteojabdeehagnaaGreatDoor
namespace Rows

/-- THE TIED CARD OF 'laws.FnExactChecksOfBlocks'. -/
def fnExactChecksOfBlocksCard : Claim7 := { stood := { row := fnExactChecksOfBlocksRow, standIns := [], harness := (true, "c7fa4f88cdcbea893d874a126d470288b151cdaad7e80489357962dd4e80c278"), looks := true }, kinds := [], alts := [], laidByText := true, laidKinds := [.data, .data, .data, .data, .sentinel, .sentinel, .pinned], laidTests := true, laidLooks := .later }
def FnExactChecksOfBlocksCardSaid : Prop := Claim7.holds Tryz.pinned (.plain (OpenSpec.ofChange fnExactChecksOfBlocksSpec)) fnExactChecksOfBlocksCard

/-- THE SECOND FORM's CARD OF 'laws.FnExactChecksOfBlocks'. -/
def fnExactChecksOfBlocksUptoCard : Claim7 := { stood := { row := fnExactChecksOfBlocksUptoRow, standIns := [], harness := (true, "c7fa4f88cdcbea893d874a126d470288b151cdaad7e80489357962dd4e80c278"), looks := true }, kinds := [], alts := [], laidByText := true, laidKinds := [.data, .data, .data, .data, .sentinel, .sentinel, .pinned], laidTests := true, laidLooks := .later }
def FnExactChecksOfBlocksUptoCardSaid : Prop := Claim7.holds Tryz.pinned (.plain (OpenSpec.upto fnExactChecksOfBlocksSpec)) fnExactChecksOfBlocksUptoCard
end Rows
end Go.Proofs.YteojabdeehagnaaGreatDoor
