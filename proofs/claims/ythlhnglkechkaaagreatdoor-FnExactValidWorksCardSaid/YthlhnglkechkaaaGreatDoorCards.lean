/-
  DERIVED. GIVEN WITH THE SEED: THE CARDS: each row of YthlhnglkechkaaaGreatDoorRows.lean that lists a variable, with what it lists TIED to the program's text (the seventh form; the later family's looks); each row that meets fmt, with fmt's text TOLD by the authors' own Lean function (tested against real Go, not proved from fmt's source: count such statements apart). THE CARD IS WHAT COUNTS. Prove the row's statement (the work); the ties are given (YthlhnglkechkaaaGreatDoorTie.lean); close each card by the builder's one call (the guide's Derived/Test/ToyasCard.lean, 'card_holds'). Laid BY PROGRAM, IN A SANDBOX (cutbox-door.mjs). By AI agents, Wed Nov 11 2026. No macro, syntax, notation, axiom, sorry.
-/
import Derived.Test.YthlhnglkechkaaaGreatDoorRows
import GoSem.ClaimSeven
namespace Go.Proofs.YthlhnglkechkaaaGreatDoor
namespace Rows

/-- THE TIED CARD OF 'laws.FnExactValidWorks'. -/
def fnExactValidWorksCard : Claim7 := { stood := { row := fnExactValidWorksRow, standIns := [], harness := (true, "4bc11876002435269d580341d234796d090123fc94df2f38927bbece6d0b7bb4"), looks := false }, kinds := [], alts := [], laidByText := true, laidKinds := [.data, .pinned], laidTests := true, laidLooks := .later }
def FnExactValidWorksCardSaid : Prop := Claim7.holds Tryz.pinned (.plain (OpenSpec.ofChange fnExactValidWorksSpec)) fnExactValidWorksCard

/-- THE SECOND FORM's CARD OF 'laws.FnExactValidWorks'. -/
def fnExactValidWorksUptoCard : Claim7 := { stood := { row := fnExactValidWorksUptoRow, standIns := [], harness := (true, "4bc11876002435269d580341d234796d090123fc94df2f38927bbece6d0b7bb4"), looks := false }, kinds := [], alts := [], laidByText := true, laidKinds := [.data, .pinned], laidTests := true, laidLooks := .later }
def FnExactValidWorksUptoCardSaid : Prop := Claim7.holds Tryz.pinned (.plain (OpenSpec.upto fnExactValidWorksSpec)) fnExactValidWorksUptoCard
end Rows
end Go.Proofs.YthlhnglkechkaaaGreatDoor
