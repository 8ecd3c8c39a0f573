/-
  DERIVED. GIVEN WITH THE SEED: THE CARDS: each row of YtmigieemhbnmpaaDoorRows.lean that lists a variable, with what it lists TIED to the program's text (the seventh form; the later family's looks); each row that meets fmt, with fmt's text TOLD by the authors' own Lean function (tested against real Go, not proved from fmt's source: count such statements apart). THE CARD IS WHAT COUNTS. Prove the row's statement (the work); the ties are given (YtmigieemhbnmpaaDoorTie.lean); close each card by the builder's one call (the guide's Derived/Test/ToyasCard.lean, 'card_holds'). Laid BY PROGRAM, IN A SANDBOX (cutbox-door.mjs). By AI agents, Wed Nov 11 2026. No macro, syntax, notation, axiom, sorry.
-/
import Derived.Test.YtmigieemhbnmpaaDoorRows
import GoSem.ClaimSeven
namespace Go.Proofs.YtmigieemhbnmpaaDoor
namespace Rows

/-- THE TIED CARD OF 'laws.FnExactReadWorker'. -/
def fnExactReadWorkerCard : Claim7 := { stood := { row := fnExactReadWorkerRow, standIns := [], harness := (true, "9ca6d71c9a414cc201cbe6bb6e0a2e4bc22b527a4c9460b9d4825cd8700077ec"), looks := false }, kinds := [], alts := [], laidByText := true, laidKinds := [.data, .data, .data, .data, .pinned], laidTests := true, laidLooks := .later }
def FnExactReadWorkerCardSaid : Prop := Claim7.holds Tryd.pinned (.plain (OpenSpec.ofChange fnExactReadWorkerSpec)) fnExactReadWorkerCard

/-- THE SECOND FORM's CARD OF 'laws.FnExactReadWorker'. -/
def fnExactReadWorkerUptoCard : Claim7 := { stood := { row := fnExactReadWorkerUptoRow, standIns := [], harness := (true, "9ca6d71c9a414cc201cbe6bb6e0a2e4bc22b527a4c9460b9d4825cd8700077ec"), looks := false }, kinds := [], alts := [], laidByText := true, laidKinds := [.data, .data, .data, .data, .pinned], laidTests := true, laidLooks := .later }
def FnExactReadWorkerUptoCardSaid : Prop := Claim7.holds Tryd.pinned (.plain (OpenSpec.upto fnExactReadWorkerSpec)) fnExactReadWorkerUptoCard
end Rows
end Go.Proofs.YtmigieemhbnmpaaDoor
