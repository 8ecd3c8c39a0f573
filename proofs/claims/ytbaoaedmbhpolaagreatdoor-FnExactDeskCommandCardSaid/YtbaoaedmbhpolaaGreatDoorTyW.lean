/- A part of the witness of this row: closed facts of its world, by the kernel. -/
import Derived.Test.YtbaoaedmbhpolaaGreatDoorTyWa
import Derived.Test.YtbaoaedmbhpolaaGreatDoorTyWb
import Derived.Test.YtbaoaedmbhpolaaGreatDoorTyWc
import Derived.Test.YtbaoaedmbhpolaaGreatDoorTyWd
import Derived.Test.YtbaoaedmbhpolaaGreatDoorTyWe
import Derived.Test.YtbaoaedmbhpolaaGreatDoorTyWf
import Derived.Test.YtbaoaedmbhpolaaGreatDoorTyWg
import Derived.Test.YtbaoaedmbhpolaaGreatDoorTyWh
import Derived.Test.YtbaoaedmbhpolaaGreatDoorTyWi
set_option maxRecDepth 100000
set_option linter.unusedVariables false
namespace Go.Proofs.YtbaoaedmbhpolaaGreatDoor.fnExactDeskCommand
open Go Go.Proofs
theorem mRow (os : Os) (args : Array Value) : (DataW.laidRun Tryz.prog (wW os args).memory 8 (wL.map (·.1))).map (fun x => decide x.2.Nodup && laidRowsB Tryz.prog (wW os args).memory x.2) = some true := by
  have a := mNod os args
  have b := mCel os args
  revert a b
  generalize (DataW.laidRun Tryz.prog (wW os args).memory 8 (wL.map (·.1))) = o
  cases o with
  | none => intro a; cases a
  | some x =>
    intro a b
    have a : decide x.2.Nodup = true := Option.some.inj a
    have b : laidRowsB Tryz.prog (wW os args).memory x.2 = true := Option.some.inj b
    show some (decide x.2.Nodup && laidRowsB Tryz.prog (wW os args).memory x.2) = some true
    rw [a, b]
    rfl
theorem laid_met (os : Os) (args : Array Value) : laidMetH Tryz.prog Rows.fnExactDeskCommandRow.laid (wW os args).memory :=
  laidMetH_of_parts3 (fuel := 8) (laidMet_of_run' 8 (mRun os args) (mRow os args)) (mHan os args) (mFun os args)
theorem wit (os : Os) (H : Type) (enc : TypeId × Value → H) : ∃ (w : World) (tape : Tape) (i : Input), w.os = os ∧ (w.forCall tape i).Shaped Tryz.checked.prog ∧ i.vars = [] ∧ Input.okWide Tryz.checked.prog (w.forCall tape i) .any w.heap.size 3 i ∧
    ((Rows.fnExactDeskCommandSpec.pre enc Tryz.checked.prog Tryz.f3 Rows.fnExactDeskCommandRow.domain false (w.forCall tape i).memory i.args ∧ laidMetH Tryz.prog Rows.fnExactDeskCommandRow.laid (w.forCall tape i).memory) ∧ sizedMet enc Tryz.checked.prog Tryz.f3 (OpenSpec.ofChange Rows.fnExactDeskCommandSpec) false (w.forCall tape i).memory i.args) ∧ ({} : Assume).holds Tryz.checked.prog (lone (Frame.enter Tryz.checked.prog 3 i.args .normal) [] (w.forCall tape i)) :=
  ChangeSpec.witness_shaped (enc := enc) (C := Tryz.checked) (os := os) (X := fun w _ => laidMetH Tryz.prog Rows.fnExactDeskCommandRow.laid w) false (laidWorld os) wArgs 8 rfl (World.shaped_of_RefB (wRef os) (wHeap os)) (wOk os) (wPre os H enc) (wSz os H enc) (laid_met os _)
end Go.Proofs.YtbaoaedmbhpolaaGreatDoor.fnExactDeskCommand
