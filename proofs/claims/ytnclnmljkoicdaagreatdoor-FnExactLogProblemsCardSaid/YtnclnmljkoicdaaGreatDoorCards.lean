/-
  DERIVED. GIVEN WITH THE SEED: THE CARDS: each row of YtnclnmljkoicdaaGreatDoorRows.lean that lists a variable, with what it lists TIED to the program's text (the seventh form; the later family's looks); each row that meets fmt, with fmt's text TOLD by the authors' own Lean function (tested against real Go, not proved from fmt's source: count such statements apart). THE CARD IS WHAT COUNTS. Prove the row's statement (the work); the ties are given (YtnclnmljkoicdaaGreatDoorTie.lean); close each card by the builder's one call (the guide's Derived/Test/ToyasCard.lean, 'card_holds'). Laid BY PROGRAM, IN A SANDBOX (cutbox-door.mjs). By AI agents, Wed Nov 11 2026. No macro, syntax, notation, axiom, sorry.
-/
import Derived.Test.YtnclnmljkoicdaaGreatDoorRows
import GoSem.ClaimSeven
namespace Go.Proofs.YtnclnmljkoicdaaGreatDoor
namespace Rows

/-- THE TIED CARD OF 'laws.FnExactLogProblems'. -/
def fnExactLogProblemsCard : Claim7 := { stood := { row := fnExactLogProblemsRow, standIns := [], harness := (true, "9f602f0db3bb0855a7a07eb1d3531f1a4e9559c538844319ffca9411e88df5d3"), looks := false }, kinds := [], alts := [], laidByText := true, laidKinds := [.data, .data, .data, .data, .pinned], laidTests := true, laidLooks := .later }
def FnExactLogProblemsCardSaid : Prop := Claim7.holds Tryz.pinned (.plain (OpenSpec.ofChange fnExactLogProblemsSpec)) fnExactLogProblemsCard

/-- THE SECOND FORM's CARD OF 'laws.FnExactLogProblems'. -/
def fnExactLogProblemsUptoCard : Claim7 := { stood := { row := fnExactLogProblemsUptoRow, standIns := [], harness := (true, "9f602f0db3bb0855a7a07eb1d3531f1a4e9559c538844319ffca9411e88df5d3"), looks := false }, kinds := [], alts := [], laidByText := true, laidKinds := [.data, .data, .data, .data, .pinned], laidTests := true, laidLooks := .later }
def FnExactLogProblemsUptoCardSaid : Prop := Claim7.holds Tryz.pinned (.plain (OpenSpec.upto fnExactLogProblemsSpec)) fnExactLogProblemsUptoCard
end Rows
end Go.Proofs.YtnclnmljkoicdaaGreatDoor
