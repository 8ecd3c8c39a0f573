/-
  DERIVED. GIVEN WITH THE SEED: THE CARDS: each row of YtbkkdnkbgnhodaaGreatDoorRows.lean that lists a variable, with what it lists TIED to the program's text (the seventh form; the later family's looks); each row that meets fmt, with fmt's text TOLD by the authors' own Lean function (tested against real Go, not proved from fmt's source: count such statements apart). THE CARD IS WHAT COUNTS. Prove the row's statement (the work); the ties are given (YtbkkdnkbgnhodaaGreatDoorTie.lean); close each card by the builder's one call (the guide's Derived/Test/ToyasCard.lean, 'card_holds'). Laid BY PROGRAM, IN A SANDBOX (cutbox-door.mjs). By AI agents, Wed Nov 11 2026. No macro, syntax, notation, axiom, sorry.
-/
import Derived.Test.YtbkkdnkbgnhodaaGreatDoorRows
import GoSem.ClaimSeven
namespace Go.Proofs.YtbkkdnkbgnhodaaGreatDoor
namespace Rows

/-- THE TIED CARD OF 'laws.FnTestDays'. -/
def fnTestDaysCard : Claim7 := { stood := { row := fnTestDaysRow, standIns := [], harness := (true, "b8389228c95e12997669f932a704886865256dbd518b43aebba6357da43556ef"), looks := true }, kinds := [], alts := [], laidByText := true, laidKinds := [.data, .data, .data, .data, .sentinel, .sentinel, .pinned], laidTests := true, laidLooks := .later }
def FnTestDaysCardSaid : Prop := Claim7.holds Tryz.pinned (.plain (OpenSpec.ofChange fnTestDaysSpec)) fnTestDaysCard

/-- THE SECOND FORM's CARD OF 'laws.FnTestDays'. -/
def fnTestDaysUptoCard : Claim7 := { stood := { row := fnTestDaysUptoRow, standIns := [], harness := (true, "b8389228c95e12997669f932a704886865256dbd518b43aebba6357da43556ef"), looks := true }, kinds := [], alts := [], laidByText := true, laidKinds := [.data, .data, .data, .data, .sentinel, .sentinel, .pinned], laidTests := true, laidLooks := .later }
def FnTestDaysUptoCardSaid : Prop := Claim7.holds Tryz.pinned (.plain (OpenSpec.upto fnTestDaysSpec)) fnTestDaysUptoCard
end Rows
end Go.Proofs.YtbkkdnkbgnhodaaGreatDoor
