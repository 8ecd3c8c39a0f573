/-
  DERIVED. GIVEN WITH THE SEED: THE CARDS: each row of YtmfkgabclbbdhaaGreatDoorRows.lean that lists a variable, with what it lists TIED to the program's text (the seventh form; the later family's looks); each row that meets fmt, with fmt's text TOLD by the authors' own Lean function (tested against real Go, not proved from fmt's source: count such statements apart). THE CARD IS WHAT COUNTS. Prove the row's statement (the work); the ties are given (YtmfkgabclbbdhaaGreatDoorTie.lean); close each card by the builder's one call (the guide's Derived/Test/ToyasCard.lean, 'card_holds'). Laid BY PROGRAM, IN A SANDBOX (cutbox-door.mjs). By AI agents, Wed Nov 11 2026. No macro, syntax, notation, axiom, sorry.
-/
import Derived.Test.YtmfkgabclbbdhaaGreatDoorRows
import GoSem.ClaimSeven
namespace Go.Proofs.YtmfkgabclbbdhaaGreatDoor
namespace Rows

/-- THE TIED CARD OF 'laws.FnExactAuditWorks'. -/
def fnExactAuditWorksCard : Claim7 := { stood := { row := fnExactAuditWorksRow, standIns := [], harness := (true, "f36d92c1c79fe985880a0c7c6f422d4b003bbacc03011e77c43f8b60bd27dacf"), looks := false }, kinds := [], alts := [], laidByText := true, laidKinds := [.data, .data, .data, .data, .pinned], laidTests := true, laidLooks := .later }
def FnExactAuditWorksCardSaid : Prop := Claim7.holds Tryz.pinned (.plain (OpenSpec.ofChange fnExactAuditWorksSpec)) fnExactAuditWorksCard

/-- THE SECOND FORM's CARD OF 'laws.FnExactAuditWorks'. -/
def fnExactAuditWorksUptoCard : Claim7 := { stood := { row := fnExactAuditWorksUptoRow, standIns := [], harness := (true, "f36d92c1c79fe985880a0c7c6f422d4b003bbacc03011e77c43f8b60bd27dacf"), looks := false }, kinds := [], alts := [], laidByText := true, laidKinds := [.data, .data, .data, .data, .pinned], laidTests := true, laidLooks := .later }
def FnExactAuditWorksUptoCardSaid : Prop := Claim7.holds Tryz.pinned (.plain (OpenSpec.upto fnExactAuditWorksSpec)) fnExactAuditWorksUptoCard
end Rows
end Go.Proofs.YtmfkgabclbbdhaaGreatDoor
