/-
  DERIVED. GIVEN WITH THE SEED: THE CARDS: each row of YtakodkjcmacofaaDoorRows.lean that lists a variable, with what it lists TIED to the program's text (the seventh form; the later family's looks); each row that meets fmt, with fmt's text TOLD by the authors' own Lean function (tested against real Go, not proved from fmt's source: count such statements apart). THE CARD IS WHAT COUNTS. Prove the row's statement (the work); the ties are given (YtakodkjcmacofaaDoorTie.lean); close each card by the builder's one call (the guide's Derived/Test/ToyasCard.lean, 'card_holds'). Laid BY PROGRAM, IN A SANDBOX (cutbox-door.mjs). By AI agents, Wed Nov 11 2026. No macro, syntax, notation, axiom, sorry.
-/
import Derived.Test.YtakodkjcmacofaaDoorRows
import GoSem.ClaimSeven
namespace Go.Proofs.YtakodkjcmacofaaDoor
namespace Rows

/-- THE TIED CARD OF 'laws.FnExactReadClock'. -/
def fnExactReadClockCard : Claim7 := { stood := { row := fnExactReadClockRow, standIns := [], harness := (true, "ef47b133f4346f08c2bd312e35006289048dc8c6f85a1c35a1e2ab3a65017a6c"), looks := false }, kinds := [], alts := [], laidByText := true, laidKinds := [.data, .data, .data], laidTests := true, laidLooks := .later }
def FnExactReadClockCardSaid : Prop := Claim7.holds Tryd.pinned (.plain (OpenSpec.ofChange fnExactReadClockSpec)) fnExactReadClockCard

/-- THE TIED CARD OF 'laws.FnExactReadLap'. -/
def fnExactReadLapCard : Claim7 := { stood := { row := fnExactReadLapRow, standIns := [], harness := (true, "ef47b133f4346f08c2bd312e35006289048dc8c6f85a1c35a1e2ab3a65017a6c"), looks := false }, kinds := [], alts := [], laidByText := true, laidKinds := [.data, .data, .data], laidTests := true, laidLooks := .later }
def FnExactReadLapCardSaid : Prop := Claim7.holds Tryd.pinned (.plain (OpenSpec.ofChange fnExactReadLapSpec)) fnExactReadLapCard

/-- THE TIED CARD OF 'laws.FnExactBlocksOfChecks'. -/
def fnExactBlocksOfChecksCard : Claim7 := { stood := { row := fnExactBlocksOfChecksRow, standIns := [], harness := (true, "ef47b133f4346f08c2bd312e35006289048dc8c6f85a1c35a1e2ab3a65017a6c"), looks := false }, kinds := [], alts := [], laidByText := true, laidKinds := [.data, .data, .data], laidTests := true, laidLooks := .later }
def FnExactBlocksOfChecksCardSaid : Prop := Claim7.holds Tryd.pinned (.plain (OpenSpec.ofChange fnExactBlocksOfChecksSpec)) fnExactBlocksOfChecksCard

/-- THE TIED CARD OF 'laws.FnExactReadFixed'. -/
def fnExactReadFixedCard : Claim7 := { stood := { row := fnExactReadFixedRow, standIns := [], harness := (true, "ef47b133f4346f08c2bd312e35006289048dc8c6f85a1c35a1e2ab3a65017a6c"), looks := false }, kinds := [], alts := [], laidByText := true, laidKinds := [.data, .data, .data], laidTests := true, laidLooks := .later }
def FnExactReadFixedCardSaid : Prop := Claim7.holds Tryd.pinned (.plain (OpenSpec.ofChange fnExactReadFixedSpec)) fnExactReadFixedCard

/-- THE TIED CARD OF 'laws.FnExactReadSpeed'. -/
def fnExactReadSpeedCard : Claim7 := { stood := { row := fnExactReadSpeedRow, standIns := [], harness := (true, "ef47b133f4346f08c2bd312e35006289048dc8c6f85a1c35a1e2ab3a65017a6c"), looks := false }, kinds := [], alts := [], laidByText := true, laidKinds := [.data, .data, .data], laidTests := true, laidLooks := .later }
def FnExactReadSpeedCardSaid : Prop := Claim7.holds Tryd.pinned (.plain (OpenSpec.ofChange fnExactReadSpeedSpec)) fnExactReadSpeedCard

/-- THE TIED CARD OF 'laws.FnExactReadDate'. -/
def fnExactReadDateCard : Claim7 := { stood := { row := fnExactReadDateRow, standIns := [], harness := (true, "ef47b133f4346f08c2bd312e35006289048dc8c6f85a1c35a1e2ab3a65017a6c"), looks := false }, kinds := [], alts := [], laidByText := true, laidKinds := [.data, .data, .data, .data, .pinned], laidTests := true, laidLooks := .later }
def FnExactReadDateCardSaid : Prop := Claim7.holds Tryd.pinned (.plain (OpenSpec.ofChange fnExactReadDateSpec)) fnExactReadDateCard

/-- THE TIED CARD OF 'laws.FnExactSaveBlocks'. -/
def fnExactSaveBlocksCard : Claim7 := { stood := { row := fnExactSaveBlocksRow, standIns := [], harness := (true, "ef47b133f4346f08c2bd312e35006289048dc8c6f85a1c35a1e2ab3a65017a6c"), looks := false }, kinds := [], alts := [], laidByText := true, laidKinds := [.data, .data, .data], laidTests := true, laidLooks := .later }
def FnExactSaveBlocksCardSaid : Prop := Claim7.holds Tryd.pinned (.plain (OpenSpec.ofChange fnExactSaveBlocksSpec)) fnExactSaveBlocksCard

/-- THE TIED CARD OF 'laws.FnUnits'. -/
def fnUnitsCard : Claim7 := { stood := { row := fnUnitsRow, standIns := [], harness := (true, "ef47b133f4346f08c2bd312e35006289048dc8c6f85a1c35a1e2ab3a65017a6c"), looks := false }, kinds := [], alts := [], laidByText := true, laidKinds := [.data, .data, .data], laidTests := true, laidLooks := .later }
def FnUnitsCardSaid : Prop := Claim7.holds Tryd.pinned (.plain (OpenSpec.ofChange fnUnitsSpec)) fnUnitsCard

/-- THE TIED CARD OF 'laws.FnDates'. -/
def fnDatesCard : Claim7 := { stood := { row := fnDatesRow, standIns := [], harness := (true, "ef47b133f4346f08c2bd312e35006289048dc8c6f85a1c35a1e2ab3a65017a6c"), looks := false }, kinds := [], alts := [], laidByText := true, laidKinds := [.data, .data, .data, .data, .pinned], laidTests := true, laidLooks := .later }
def FnDatesCardSaid : Prop := Claim7.holds Tryd.pinned (.plain (OpenSpec.ofChange fnDatesSpec)) fnDatesCard

/-- THE TIED CARD OF 'laws.FnExactDamagedLines'. -/
def fnExactDamagedLinesCard : Claim7 := { stood := { row := fnExactDamagedLinesRow, standIns := [], harness := (true, "ef47b133f4346f08c2bd312e35006289048dc8c6f85a1c35a1e2ab3a65017a6c"), looks := false }, kinds := [], alts := [], laidByText := true, laidKinds := [.data, .data, .data, .data, .pinned], laidTests := true, laidLooks := .later }
def FnExactDamagedLinesCardSaid : Prop := Claim7.holds Tryd.pinned (.plain (OpenSpec.ofChange fnExactDamagedLinesSpec)) fnExactDamagedLinesCard

/-- THE SECOND FORM's CARD OF 'laws.FnExactReadClock'. -/
def fnExactReadClockUptoCard : Claim7 := { stood := { row := fnExactReadClockUptoRow, standIns := [], harness := (true, "ef47b133f4346f08c2bd312e35006289048dc8c6f85a1c35a1e2ab3a65017a6c"), looks := false }, kinds := [], alts := [], laidByText := true, laidKinds := [.data, .data, .data], laidTests := true, laidLooks := .later }
def FnExactReadClockUptoCardSaid : Prop := Claim7.holds Tryd.pinned (.plain (OpenSpec.upto fnExactReadClockSpec)) fnExactReadClockUptoCard

/-- THE SECOND FORM's CARD OF 'laws.FnExactReadLap'. -/
def fnExactReadLapUptoCard : Claim7 := { stood := { row := fnExactReadLapUptoRow, standIns := [], harness := (true, "ef47b133f4346f08c2bd312e35006289048dc8c6f85a1c35a1e2ab3a65017a6c"), looks := false }, kinds := [], alts := [], laidByText := true, laidKinds := [.data, .data, .data], laidTests := true, laidLooks := .later }
def FnExactReadLapUptoCardSaid : Prop := Claim7.holds Tryd.pinned (.plain (OpenSpec.upto fnExactReadLapSpec)) fnExactReadLapUptoCard

/-- THE SECOND FORM's CARD OF 'laws.FnExactBlocksOfChecks'. -/
def fnExactBlocksOfChecksUptoCard : Claim7 := { stood := { row := fnExactBlocksOfChecksUptoRow, standIns := [], harness := (true, "ef47b133f4346f08c2bd312e35006289048dc8c6f85a1c35a1e2ab3a65017a6c"), looks := false }, kinds := [], alts := [], laidByText := true, laidKinds := [.data, .data, .data], laidTests := true, laidLooks := .later }
def FnExactBlocksOfChecksUptoCardSaid : Prop := Claim7.holds Tryd.pinned (.plain (OpenSpec.upto fnExactBlocksOfChecksSpec)) fnExactBlocksOfChecksUptoCard

/-- THE SECOND FORM's CARD OF 'laws.FnExactReadFixed'. -/
def fnExactReadFixedUptoCard : Claim7 := { stood := { row := fnExactReadFixedUptoRow, standIns := [], harness := (true, "ef47b133f4346f08c2bd312e35006289048dc8c6f85a1c35a1e2ab3a65017a6c"), looks := false }, kinds := [], alts := [], laidByText := true, laidKinds := [.data, .data, .data], laidTests := true, laidLooks := .later }
def FnExactReadFixedUptoCardSaid : Prop := Claim7.holds Tryd.pinned (.plain (OpenSpec.upto fnExactReadFixedSpec)) fnExactReadFixedUptoCard

/-- THE SECOND FORM's CARD OF 'laws.FnExactReadSpeed'. -/
def fnExactReadSpeedUptoCard : Claim7 := { stood := { row := fnExactReadSpeedUptoRow, standIns := [], harness := (true, "ef47b133f4346f08c2bd312e35006289048dc8c6f85a1c35a1e2ab3a65017a6c"), looks := false }, kinds := [], alts := [], laidByText := true, laidKinds := [.data, .data, .data], laidTests := true, laidLooks := .later }
def FnExactReadSpeedUptoCardSaid : Prop := Claim7.holds Tryd.pinned (.plain (OpenSpec.upto fnExactReadSpeedSpec)) fnExactReadSpeedUptoCard

/-- THE SECOND FORM's CARD OF 'laws.FnExactReadDate'. -/
def fnExactReadDateUptoCard : Claim7 := { stood := { row := fnExactReadDateUptoRow, standIns := [], harness := (true, "ef47b133f4346f08c2bd312e35006289048dc8c6f85a1c35a1e2ab3a65017a6c"), looks := false }, kinds := [], alts := [], laidByText := true, laidKinds := [.data, .data, .data, .data, .pinned], laidTests := true, laidLooks := .later }
def FnExactReadDateUptoCardSaid : Prop := Claim7.holds Tryd.pinned (.plain (OpenSpec.upto fnExactReadDateSpec)) fnExactReadDateUptoCard

/-- THE SECOND FORM's CARD OF 'laws.FnExactSaveBlocks'. -/
def fnExactSaveBlocksUptoCard : Claim7 := { stood := { row := fnExactSaveBlocksUptoRow, standIns := [], harness := (true, "ef47b133f4346f08c2bd312e35006289048dc8c6f85a1c35a1e2ab3a65017a6c"), looks := false }, kinds := [], alts := [], laidByText := true, laidKinds := [.data, .data, .data], laidTests := true, laidLooks := .later }
def FnExactSaveBlocksUptoCardSaid : Prop := Claim7.holds Tryd.pinned (.plain (OpenSpec.upto fnExactSaveBlocksSpec)) fnExactSaveBlocksUptoCard

/-- THE SECOND FORM's CARD OF 'laws.FnUnits'. -/
def fnUnitsUptoCard : Claim7 := { stood := { row := fnUnitsUptoRow, standIns := [], harness := (true, "ef47b133f4346f08c2bd312e35006289048dc8c6f85a1c35a1e2ab3a65017a6c"), looks := false }, kinds := [], alts := [], laidByText := true, laidKinds := [.data, .data, .data], laidTests := true, laidLooks := .later }
def FnUnitsUptoCardSaid : Prop := Claim7.holds Tryd.pinned (.plain (OpenSpec.upto fnUnitsSpec)) fnUnitsUptoCard

/-- THE SECOND FORM's CARD OF 'laws.FnDates'. -/
def fnDatesUptoCard : Claim7 := { stood := { row := fnDatesUptoRow, standIns := [], harness := (true, "ef47b133f4346f08c2bd312e35006289048dc8c6f85a1c35a1e2ab3a65017a6c"), looks := false }, kinds := [], alts := [], laidByText := true, laidKinds := [.data, .data, .data, .data, .pinned], laidTests := true, laidLooks := .later }
def FnDatesUptoCardSaid : Prop := Claim7.holds Tryd.pinned (.plain (OpenSpec.upto fnDatesSpec)) fnDatesUptoCard

/-- THE SECOND FORM's CARD OF 'laws.FnExactDamagedLines'. -/
def fnExactDamagedLinesUptoCard : Claim7 := { stood := { row := fnExactDamagedLinesUptoRow, standIns := [], harness := (true, "ef47b133f4346f08c2bd312e35006289048dc8c6f85a1c35a1e2ab3a65017a6c"), looks := false }, kinds := [], alts := [], laidByText := true, laidKinds := [.data, .data, .data, .data, .pinned], laidTests := true, laidLooks := .later }
def FnExactDamagedLinesUptoCardSaid : Prop := Claim7.holds Tryd.pinned (.plain (OpenSpec.upto fnExactDamagedLinesSpec)) fnExactDamagedLinesUptoCard
end Rows
end Go.Proofs.YtakodkjcmacofaaDoor
