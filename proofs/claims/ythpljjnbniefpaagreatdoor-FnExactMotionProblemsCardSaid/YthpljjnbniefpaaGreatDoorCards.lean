/-
  DERIVED. GIVEN WITH THE SEED: THE CARDS: each row of YthpljjnbniefpaaGreatDoorRows.lean that lists a variable, with what it lists TIED to the program's text (the seventh form; the later family's looks); each row that meets fmt, with fmt's text TOLD by the authors' own Lean function (tested against real Go, not proved from fmt's source: count such statements apart). THE CARD IS WHAT COUNTS. Prove the row's statement (the work); the ties are given (YthpljjnbniefpaaGreatDoorTie.lean); close each card by the builder's one call (the guide's Derived/Test/ToyasCard.lean, 'card_holds'). Laid BY PROGRAM, IN A SANDBOX (cutbox-door.mjs). By AI agents, Wed Nov 11 2026. No macro, syntax, notation, axiom, sorry.
-/
import Derived.Test.YthpljjnbniefpaaGreatDoorRows
import GoSem.ClaimSeven
namespace Go.Proofs.YthpljjnbniefpaaGreatDoor
namespace Rows

/-- THE TIED CARD OF 'laws.FnExactMotionProblems'. -/
def fnExactMotionProblemsCard : Claim7 := { stood := { row := fnExactMotionProblemsRow, standIns := [], harness := (true, "724a18dfebf5abf1ada8d8500eb1933f1aa4cffc4dd34b47722e88f8ee6d7470"), looks := false }, kinds := [], alts := [], laidByText := true, laidKinds := [.data, .data, .data, .data, .pinned], laidTests := true, laidLooks := .later }
def FnExactMotionProblemsCardSaid : Prop := Claim7.holds Tryz.pinned (.plain (OpenSpec.ofChange fnExactMotionProblemsSpec)) fnExactMotionProblemsCard

/-- THE SECOND FORM's CARD OF 'laws.FnExactMotionProblems'. -/
def fnExactMotionProblemsUptoCard : Claim7 := { stood := { row := fnExactMotionProblemsUptoRow, standIns := [], harness := (true, "724a18dfebf5abf1ada8d8500eb1933f1aa4cffc4dd34b47722e88f8ee6d7470"), looks := false }, kinds := [], alts := [], laidByText := true, laidKinds := [.data, .data, .data, .data, .pinned], laidTests := true, laidLooks := .later }
def FnExactMotionProblemsUptoCardSaid : Prop := Claim7.holds Tryz.pinned (.plain (OpenSpec.upto fnExactMotionProblemsSpec)) fnExactMotionProblemsUptoCard
end Rows
end Go.Proofs.YthpljjnbniefpaaGreatDoor
