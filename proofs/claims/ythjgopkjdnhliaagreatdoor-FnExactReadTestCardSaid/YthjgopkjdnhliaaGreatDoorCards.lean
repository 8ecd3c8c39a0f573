/-
  DERIVED. GIVEN WITH THE SEED: THE CARDS: each row of YthjgopkjdnhliaaGreatDoorRows.lean that lists a variable, with what it lists TIED to the program's text (the seventh form; the later family's looks); each row that meets fmt, with fmt's text TOLD by the authors' own Lean function (tested against real Go, not proved from fmt's source: count such statements apart). THE CARD IS WHAT COUNTS. Prove the row's statement (the work); the ties are given (YthjgopkjdnhliaaGreatDoorTie.lean); close each card by the builder's one call (the guide's Derived/Test/ToyasCard.lean, 'card_holds'). Laid BY PROGRAM, IN A SANDBOX (cutbox-door.mjs). By AI agents, Wed Nov 11 2026. No macro, syntax, notation, axiom, sorry.
-/
import Derived.Test.YthjgopkjdnhliaaGreatDoorRows
import GoSem.ClaimSeven
namespace Go.Proofs.YthjgopkjdnhliaaGreatDoor
namespace Rows

/-- THE TIED CARD OF 'laws.FnExactReadTest'. -/
def fnExactReadTestCard : Claim7 := { stood := { row := fnExactReadTestRow, standIns := [], harness := (true, "f52d0a775d88185c7c74f5e57f11e431b5be49675af6b442890bed2f56088c10"), looks := true }, kinds := [], alts := [], laidByText := true, laidKinds := [.data, .data, .data, .data, .sentinel, .sentinel, .pinned], laidTests := true, laidLooks := .later }
def FnExactReadTestCardSaid : Prop := Claim7.holds Tryz.pinned (.plain (OpenSpec.ofChange fnExactReadTestSpec)) fnExactReadTestCard

/-- THE SECOND FORM's CARD OF 'laws.FnExactReadTest'. -/
def fnExactReadTestUptoCard : Claim7 := { stood := { row := fnExactReadTestUptoRow, standIns := [], harness := (true, "f52d0a775d88185c7c74f5e57f11e431b5be49675af6b442890bed2f56088c10"), looks := true }, kinds := [], alts := [], laidByText := true, laidKinds := [.data, .data, .data, .data, .sentinel, .sentinel, .pinned], laidTests := true, laidLooks := .later }
def FnExactReadTestUptoCardSaid : Prop := Claim7.holds Tryz.pinned (.plain (OpenSpec.upto fnExactReadTestSpec)) fnExactReadTestUptoCard
end Rows
end Go.Proofs.YthjgopkjdnhliaaGreatDoor
