/-
  DERIVED. GIVEN WITH THE SEED: THE CARDS: each row of YtkemillpgmdlgaaGreatDoorRows.lean that lists a variable, with what it lists TIED to the program's text (the seventh form; the later family's looks); each row that meets fmt, with fmt's text TOLD by the authors' own Lean function (tested against real Go, not proved from fmt's source: count such statements apart). THE CARD IS WHAT COUNTS. Prove the row's statement (the work); the ties are given (YtkemillpgmdlgaaGreatDoorTie.lean); close each card by the builder's one call (the guide's Derived/Test/ToyasCard.lean, 'card_holds'). Laid BY PROGRAM, IN A SANDBOX (cutbox-door.mjs). By AI agents, Wed Nov 11 2026. No macro, syntax, notation, axiom, sorry.
-/
import Derived.Test.YtkemillpgmdlgaaGreatDoorRows
import GoSem.ClaimSeven
namespace Go.Proofs.YtkemillpgmdlgaaGreatDoor
namespace Rows

/-- THE TIED CARD OF 'laws.FnExactServiceProblems'. -/
def fnExactServiceProblemsCard : Claim7 := { stood := { row := fnExactServiceProblemsRow, standIns := [], harness := (true, "9e1cf65677a6692ef9b251cfc230a8f7691ef64b9c8bd2fe029dd1c22f8d558b"), looks := false }, kinds := [], alts := [], laidByText := true, laidKinds := [.data, .data, .data, .data, .pinned], laidTests := true, laidLooks := .later }
def FnExactServiceProblemsCardSaid : Prop := Claim7.holds Tryz.pinned (.plain (OpenSpec.ofChange fnExactServiceProblemsSpec)) fnExactServiceProblemsCard

/-- THE SECOND FORM's CARD OF 'laws.FnExactServiceProblems'. -/
def fnExactServiceProblemsUptoCard : Claim7 := { stood := { row := fnExactServiceProblemsUptoRow, standIns := [], harness := (true, "9e1cf65677a6692ef9b251cfc230a8f7691ef64b9c8bd2fe029dd1c22f8d558b"), looks := false }, kinds := [], alts := [], laidByText := true, laidKinds := [.data, .data, .data, .data, .pinned], laidTests := true, laidLooks := .later }
def FnExactServiceProblemsUptoCardSaid : Prop := Claim7.holds Tryz.pinned (.plain (OpenSpec.upto fnExactServiceProblemsSpec)) fnExactServiceProblemsUptoCard
end Rows
end Go.Proofs.YtkemillpgmdlgaaGreatDoor
