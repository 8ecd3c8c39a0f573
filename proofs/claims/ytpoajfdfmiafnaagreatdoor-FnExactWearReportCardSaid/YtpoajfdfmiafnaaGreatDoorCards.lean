/-
  DERIVED. GIVEN WITH THE SEED: THE CARDS: each row of YtpoajfdfmiafnaaGreatDoorRows.lean that lists a variable, with what it lists TIED to the program's text (the seventh form; the later family's looks); each row that meets fmt, with fmt's text TOLD by the authors' own Lean function (tested against real Go, not proved from fmt's source: count such statements apart). THE CARD IS WHAT COUNTS. Prove the row's statement (the work); the ties are given (YtpoajfdfmiafnaaGreatDoorTie.lean); close each card by the builder's one call (the guide's Derived/Test/ToyasCard.lean, 'card_holds'). Laid BY PROGRAM, IN A SANDBOX (cutbox-door.mjs). By AI agents, Wed Nov 11 2026. No macro, syntax, notation, axiom, sorry.
-/
import Derived.Test.YtpoajfdfmiafnaaGreatDoorRows
import GoSem.ClaimSeven
namespace Go.Proofs.YtpoajfdfmiafnaaGreatDoor
namespace Rows

/-- THE TIED CARD OF 'laws.FnExactWearReport'. -/
def fnExactWearReportCard : Claim7 := { stood := { row := fnExactWearReportRow, standIns := [], harness := (true, "d144e57ab7c0cc3b4fef2ea9d65de664d7d435ddad9cff8827199b778d946e70"), looks := false }, kinds := [], alts := [], laidByText := true, laidKinds := [.data, .data, .data, .data, .pinned], laidTests := true, laidLooks := .later }
def FnExactWearReportCardSaid : Prop := Claim7.holds Tryz.pinned (.plain (OpenSpec.ofChange fnExactWearReportSpec)) fnExactWearReportCard

/-- THE SECOND FORM's CARD OF 'laws.FnExactWearReport'. -/
def fnExactWearReportUptoCard : Claim7 := { stood := { row := fnExactWearReportUptoRow, standIns := [], harness := (true, "d144e57ab7c0cc3b4fef2ea9d65de664d7d435ddad9cff8827199b778d946e70"), looks := false }, kinds := [], alts := [], laidByText := true, laidKinds := [.data, .data, .data, .data, .pinned], laidTests := true, laidLooks := .later }
def FnExactWearReportUptoCardSaid : Prop := Claim7.holds Tryz.pinned (.plain (OpenSpec.upto fnExactWearReportSpec)) fnExactWearReportUptoCard
end Rows
end Go.Proofs.YtpoajfdfmiafnaaGreatDoor
