/-
  DERIVED. GIVEN WITH THE SEED: THE CARDS: each row of YtpledggbnnjbiaaDoorRows.lean that lists a variable, with what it lists TIED to the program's text (the seventh form; the later family's looks); each row that meets fmt, with fmt's text TOLD by the authors' own Lean function (tested against real Go, not proved from fmt's source: count such statements apart). THE CARD IS WHAT COUNTS. Prove the row's statement (the work); the ties are given (YtpledggbnnjbiaaDoorTie.lean); close each card by the builder's one call (the guide's Derived/Test/ToyasCard.lean, 'card_holds'). Laid BY PROGRAM, IN A SANDBOX (cutbox-door.mjs). By AI agents, Wed Nov 11 2026. No macro, syntax, notation, axiom, sorry.
-/
import Derived.Test.YtpledggbnnjbiaaDoorRows
import GoSem.ClaimSeven
namespace Go.Proofs.YtpledggbnnjbiaaDoor
namespace Rows

/-- THE TIED CARD OF 'laws.FnExactFareReport'. -/
def fnExactFareReportCard : Claim7 := { stood := { row := fnExactFareReportRow, standIns := [], harness := (true, "a781dbac97f280fc6c4186d64e667ca40318519d7b6a4ba1aefc2273f2809494"), looks := false }, kinds := [], alts := [], laidByText := true, laidKinds := [.data, .data, .data, .data, .pinned], laidTests := true, laidLooks := .later }
def FnExactFareReportCardSaid : Prop := Claim7.holds Tryd.pinned (.plain (OpenSpec.ofChange fnExactFareReportSpec)) fnExactFareReportCard

/-- THE SECOND FORM's CARD OF 'laws.FnExactFareReport'. -/
def fnExactFareReportUptoCard : Claim7 := { stood := { row := fnExactFareReportUptoRow, standIns := [], harness := (true, "a781dbac97f280fc6c4186d64e667ca40318519d7b6a4ba1aefc2273f2809494"), looks := false }, kinds := [], alts := [], laidByText := true, laidKinds := [.data, .data, .data, .data, .pinned], laidTests := true, laidLooks := .later }
def FnExactFareReportUptoCardSaid : Prop := Claim7.holds Tryd.pinned (.plain (OpenSpec.upto fnExactFareReportSpec)) fnExactFareReportUptoCard
end Rows
end Go.Proofs.YtpledggbnnjbiaaDoor
