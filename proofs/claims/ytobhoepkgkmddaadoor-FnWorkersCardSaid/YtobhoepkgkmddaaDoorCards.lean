/-
  DERIVED. GIVEN WITH THE SEED: THE CARDS: each row of YtobhoepkgkmddaaDoorRows.lean that lists a variable, with what it lists TIED to the program's text (the seventh form; the later family's looks); each row that meets fmt, with fmt's text TOLD by the authors' own Lean function (tested against real Go, not proved from fmt's source: count such statements apart). THE CARD IS WHAT COUNTS. Prove the row's statement (the work); the ties are given (YtobhoepkgkmddaaDoorTie.lean); close each card by the builder's one call (the guide's Derived/Test/ToyasCard.lean, 'card_holds'). Laid BY PROGRAM, IN A SANDBOX (cutbox-door.mjs). By AI agents, Wed Nov 11 2026. No macro, syntax, notation, axiom, sorry.
-/
import Derived.Test.YtobhoepkgkmddaaDoorRows
import GoSem.ClaimSeven
namespace Go.Proofs.YtobhoepkgkmddaaDoor
namespace Rows

/-- THE TIED CARD OF 'laws.FnWorkers'. -/
def fnWorkersCard : Claim7 := { stood := { row := fnWorkersRow, standIns := [], harness := (true, "a1fa9c6fd5cda2032ffe4faf394d2617ea16a61e356760059fca9deed9e6132e"), looks := false }, kinds := [], alts := [], laidByText := true, laidKinds := [.data, .data, .data, .data, .pinned], laidTests := true, laidLooks := .later }
def FnWorkersCardSaid : Prop := Claim7.holds Tryd.pinned (.plain (OpenSpec.ofChange fnWorkersSpec)) fnWorkersCard

/-- THE SECOND FORM's CARD OF 'laws.FnWorkers'. -/
def fnWorkersUptoCard : Claim7 := { stood := { row := fnWorkersUptoRow, standIns := [], harness := (true, "a1fa9c6fd5cda2032ffe4faf394d2617ea16a61e356760059fca9deed9e6132e"), looks := false }, kinds := [], alts := [], laidByText := true, laidKinds := [.data, .data, .data, .data, .pinned], laidTests := true, laidLooks := .later }
def FnWorkersUptoCardSaid : Prop := Claim7.holds Tryd.pinned (.plain (OpenSpec.upto fnWorkersSpec)) fnWorkersUptoCard
end Rows
end Go.Proofs.YtobhoepkgkmddaaDoor
