/- Several texts in one: the functions that this law reaches, and their laws. -/
import Derived.Test.YtakodkjcmacofaaDoorZ7A
import Derived.Test.YtakodkjcmacofaaDoorZ7B
import Derived.Test.YtakodkjcmacofaaDoorRows
import Derived.KernelRfl
import Derived.Shelf.Vars
import Derived.Lib.ItoaNum
import Derived.Shelf.Strings.Builder1
import Derived.Shelf.Strings.Builder2
import Derived.Shelf.Strings.OnBuilder
import Derived.Shelf.Strings.BuilderF
import Derived.Shelf.Strings.BuilderK
import Derived.Shelf.Utf8.RuneCount
import Derived.Shelf.Strconv.Itoa0
import Derived.Shelf.Strconv.Itoa1
import Derived.Shelf.LaysM
import Derived.Shelf.Strconv.Itoa2
import Derived.Shelf.Strconv.Itoa3
import Derived.Shelf.Strconv.Itoa4
import Derived.Shelf.Strings.Search1
import Derived.Shelf.Strings.Search2
import Derived.Shelf.Strings.Search3
import Derived.Shelf.Strings.Cut
import Derived.Shelf.Strings.Count
import Derived.Shelf.Strings.Shaped
import Derived.Shelf.Strings.Prefix
import Derived.Shelf.Strings.Split
import Derived.Shelf.Strings.SplitShaped
import Derived.Shelf.Unicode.Decode
import Derived.Shelf.Strings.RuneCount
import Derived.Shelf.Strings.Explode
import Derived.Shelf.Bits.Mul64
import Derived.Shelf.Strings.Repeat
import Derived.Shelf.Unicode.DecodeSlow
import Derived.Shelf.Unicode.DecodeAny

/- The types of this program, as the abstract machine reads them. -/
set_option linter.unusedVariables false
set_option linter.unusedSimpArgs false
set_option maxRecDepth 100000
namespace Go.Proofs.YtakodkjcmacofaaDoor
open Go Go.Am Go.Proofs
def tab : List TI := [TI.other,
  TI.other,
  TI.scal (Ty.int IntKind.i64),
  TI.scal (Ty.int IntKind.i64),
  TI.scal (Ty.bool),
  TI.scal (Ty.int IntKind.u8),
  TI.scal (Ty.int IntKind.u8),
  TI.struct (Ty.cons (Ty.int IntKind.i64) (Ty.cons (Ty.int IntKind.i64) (Ty.cons Ty.bool (Ty.cons (Ty.int IntKind.u8) Ty.unit)))),
  TI.struct (Ty.cons (Ty.int IntKind.i64) (Ty.cons (Ty.int IntKind.i64) (Ty.cons Ty.bool (Ty.cons (Ty.int IntKind.u8) Ty.unit)))),
  TI.scal (Ty.str),
  TI.scal (Ty.str),
  TI.scal (Ty.str),
  TI.scal (Ty.int IntKind.u64),
  TI.other,
  TI.other,
  TI.other,
  TI.other,
  TI.other,
  TI.other,
  TI.other,
  TI.other,
  TI.scal (Ty.int IntKind.i32),
  TI.other,
  TI.other,
  TI.other,
  TI.slice 73 (Ty.cons Ty.str (Ty.cons (Ty.int IntKind.i64) (Ty.cons (Ty.int IntKind.i64) (Ty.cons (Ty.int IntKind.i64) (Ty.cons (Ty.int IntKind.i64) Ty.unit))))) 48,
  TI.other,
  TI.slice 79 (Ty.cons Ty.str (Ty.cons Ty.str (Ty.cons Ty.str Ty.unit))) 48,
  TI.other,
  TI.other,
  TI.slice 75 (Ty.cons Ty.str (Ty.cons (Ty.int IntKind.i64) (Ty.cons (Ty.int IntKind.i64) (Ty.cons (Ty.int IntKind.i64) (Ty.cons (Ty.int IntKind.i64) Ty.unit))))) 48,
  TI.other,
  TI.other,
  TI.other,
  TI.other,
  TI.other,
  TI.other,
  TI.other,
  TI.other,
  TI.slice 89 (Ty.cons Ty.str (Ty.cons Ty.str (Ty.cons Ty.str Ty.unit))) 48,
  TI.other,
  TI.other,
  TI.other,
  TI.other,
  TI.other,
  TI.slice 5 (Ty.int IntKind.u8) 1,
  TI.other,
  TI.other,
  TI.other,
  TI.other,
  TI.other,
  TI.other,
  TI.other,
  TI.other,
  TI.other,
  TI.other,
  TI.other,
  TI.other,
  TI.other,
  TI.other,
  TI.slice 2 (Ty.int IntKind.i64) 8,
  TI.other,
  TI.other,
  TI.other,
  TI.other,
  TI.other,
  TI.other,
  TI.slice 9 (Ty.str) 16,
  TI.other,
  TI.other,
  TI.other,
  TI.other,
  TI.struct (Ty.cons Ty.str (Ty.cons (Ty.int IntKind.i64) (Ty.cons (Ty.int IntKind.i64) (Ty.cons (Ty.int IntKind.i64) (Ty.cons (Ty.int IntKind.i64) Ty.unit))))),
  TI.struct (Ty.cons Ty.str (Ty.cons (Ty.int IntKind.i64) (Ty.cons (Ty.int IntKind.i64) (Ty.cons (Ty.int IntKind.i64) (Ty.cons (Ty.int IntKind.i64) Ty.unit))))),
  TI.other,
  TI.struct (Ty.cons Ty.str (Ty.cons (Ty.int IntKind.i64) (Ty.cons (Ty.int IntKind.i64) (Ty.cons (Ty.int IntKind.i64) (Ty.cons (Ty.int IntKind.i64) Ty.unit))))),
  TI.other,
  TI.other,
  TI.struct (Ty.cons Ty.str (Ty.cons Ty.str (Ty.cons Ty.str Ty.unit))),
  TI.struct (Ty.cons Ty.str (Ty.cons Ty.str (Ty.cons Ty.str Ty.unit))),
  TI.other,
  TI.other,
  TI.other,
  TI.other,
  TI.other,
  TI.other,
  TI.other,
  TI.other,
  TI.other,
  TI.struct (Ty.cons Ty.str (Ty.cons Ty.str (Ty.cons Ty.str Ty.unit))),
  TI.other,
  TI.other,
  TI.other,
  TI.other,
  TI.other,
  TI.other,
  TI.other,
  TI.other,
  TI.other,
  TI.other,
  TI.other,
  TI.other,
  TI.other,
  TI.other,
  TI.other,
  TI.other,
  TI.other,
  TI.other,
  TI.other,
  TI.other,
  TI.other,
  TI.other,
  TI.other,
  TI.other,
  TI.other,
  TI.other,
  TI.other,
  TI.other,
  TI.other,
  TI.other,
  TI.other,
  TI.other,
  TI.other,
  TI.other,
  TI.other,
  TI.other,
  TI.other,
  TI.other,
  TI.other,
  TI.other,
  TI.other,
  TI.other,
  TI.other,
  TI.other,
  TI.scal (Ty.int IntKind.u64),
  TI.struct (Ty.cons (Ty.sl (Ty.int IntKind.u8)) (Ty.cons (Ty.int IntKind.i64) (Ty.cons (Ty.int IntKind.u64) Ty.unit))),
  TI.struct (Ty.cons (Ty.sl (Ty.int IntKind.u8)) (Ty.cons (Ty.int IntKind.i64) (Ty.cons (Ty.int IntKind.u64) Ty.unit))),
  TI.other,
  TI.other,
  TI.other,
  TI.other,
  TI.other,
  TI.other,
  TI.other,
  TI.other,
  TI.scal (Ty.int IntKind.u64),
  TI.other,
  TI.other,
  TI.other,
  TI.other,
  TI.other,
  TI.other,
  TI.other,
  TI.other,
  TI.other,
  TI.other,
  TI.slice 3 (Ty.int IntKind.i64) 8,
  TI.other,
  TI.other,
  TI.other,
  TI.other,
  TI.other,
  TI.scal (Ty.int IntKind.u32),
  TI.other,
  TI.other,
  TI.other,
  TI.other,
  TI.other,
  TI.other,
  TI.other,
  TI.other,
  TI.other,
  TI.other,
  TI.other,
  TI.other,
  TI.struct (Ty.cons (Ty.int IntKind.u8) (Ty.cons (Ty.int IntKind.u8) Ty.unit)),
  TI.struct (Ty.cons (Ty.int IntKind.u8) (Ty.cons (Ty.int IntKind.u8) Ty.unit)),
  TI.other,
  TI.other,
  TI.other,
  TI.other,
  TI.other,
  TI.other,
  TI.other,
  TI.other,
  TI.other,
  TI.scal (Ty.int IntKind.u8),
  TI.scal (Ty.int IntKind.u8),
  TI.other,
  TI.scal (Ty.int IntKind.i32),
  TI.scal (Ty.int IntKind.i32)]

theorem tabOk : TabOk Tryd.prog tab := tabOk_of_check (by kernel_rfl)
theorem mixed : Tryd.prog.follows .mixedOrders = true := by kernel_rfl
theorem gv0 {W : World} (h : GInv W) : GHas W 0 (.int .i64) := h.1
theorem gcell0 (W : World) (h : W.ShapedOpen Tryd.prog) : ∃ m, W.cell? ⟨0, 0, none⟩ = some (.int .i64 m) :=
  Go.Proofs.cell_of_shapedOpen_int (zero := #[.int .i64 0]) (t := 3) h (of_decide_eq_true (by kernel_rfl)) (by kernel_rfl) rfl (by kernel_rfl) (by kernel_rfl) Tryd.underlying3
theorem gv1 {W : World} (h : GInv W) : GHas W 1 (.tab .u64 Lib.pow10Tab) := h.2.1
theorem maxLenG {W : World} (h : GInv W) : ∃ m, W.cell? ⟨0, 0, none⟩ = some (.int .i64 m) := gv0 h
theorem pow10G {W : World} (h : GInv W) : Lib.TabIs Tryd.prog W "internal/strconv.uint64pow10" .u64 Lib.pow10Tab := GHas.tab (by kernel_rfl) (gv1 h)
theorem ginv (W : World) (h : W.ShapedOpen Tryd.prog) (h1 : GHas W 1 (.tab .u64 Lib.pow10Tab)) : GInv W := ⟨gcell0 W h, h1, trivial⟩
end Go.Proofs.YtakodkjcmacofaaDoor

/- Function 124 (spec.l00In): its runs between cut points. Written by a program of this repo (gen). -/
set_option linter.unusedVariables false
set_option linter.unusedSimpArgs false
set_option maxRecDepth 100000
namespace Go.Proofs.YtakodkjcmacofaaDoor
open Go Go.Am Go.Proofs
def ext124 : Ext := []
theorem ext124Ok : ExtOk Tryd.prog ext124 := trivial
/-! Function 124. -/
noncomputable def b124 : Code := bodyOf Tryd.f124
theorem hb124 : Tryd.f124.body = some b124 := by kernel_rfl
def sig124 : List AT := [AT.v (Ty.int IntKind.i64), AT.v (Ty.int IntKind.i64), AT.v (Ty.int IntKind.i64)]
def tys124 : List Ty := [Ty.bool]
def P124 (x0 : Int) (x1 : Int) (x2 : Int) : Prop := True
def g124_0 (x0 : Int) (x1 : Int) (x2 : Int) : Bool := (if (Decidable.decide (x0 ≥ x1)) = true then Decidable.decide (x0 ≤ x2) else Bool.false)
theorem p124_0 (x0 : Int) (x1 : Int) (x2 : Int) : runF tab ext124 false 15 [] 2000 [] tys124 Tryd.f124.results [true] [.code b124] (entE 0 0 sig124 (x0, x1, x2, ())) (entL sig124 (x0, x1, x2, ())) = some ([Dyn.mk Ty.bool (Decidable.decide (x0 ≤ x2))], [], [Decidable.decide (x0 ≥ x1) = Bool.true]) := by kernel_rfl
theorem p124_1 (x0 : Int) (x1 : Int) (x2 : Int) : runF tab ext124 false 15 [] 2000 [] tys124 Tryd.f124.results [false] [.code b124] (entE 0 0 sig124 (x0, x1, x2, ())) (entL sig124 (x0, x1, x2, ())) = some ([Dyn.mk Ty.bool Bool.false], [], [Decidable.decide (x0 ≥ x1) = Bool.false]) := by kernel_rfl
theorem at124 (x0 : Int) (x1 : Int) (x2 : Int) (h : P124 x0 x1 x2) (w0 : World) (O : List Nat) (q : Nat → Value) : AtV Tryd.prog 124 (PostR [⟨Ty.bool, g124_0 x0 x1 x2⟩] [] [] q w0 O) 15 w0 O q [] [.code b124] (entE 0 0 sig124 (x0, x1, x2, ())) (entL sig124 (x0, x1, x2, ())) := by
  unfold P124 at h
  unfold g124_0
  by_cases b0 : (Decidable.decide (x0 ≥ x1)) = true
  · try simp only [if_pos b0] at h ⊢
    exact AtV.fin Tryd.func124 tabOk ext124Ok mixed (p124_0 x0 x1 x2) ⟨b0, trivial⟩
  · try simp only [if_neg b0] at h ⊢
    replace b0 := Bool.eq_false_iff.2 b0
    exact AtV.fin Tryd.func124 tabOk ext124Ok mixed (p124_1 x0 x1 x2) ⟨b0, trivial⟩

def S124 : Am.Spec := { sig := sig124, pre := fun ⟨x0, x1, x2, _⟩ => P124 x0 x1 x2, res := fun ⟨x0, x1, x2, _⟩ => [⟨Ty.bool, g124_0 x0 x1 x2⟩] }
theorem con124 : Contract Tryd.prog 124 S124 := contract_of Tryd.func124 hb124 (Nat.le_of_ble_eq_true (by kernel_rfl)) (fun ⟨x0, x1, x2, _⟩ h _ w0 O q => at124 x0 x1 x2 h w0 O q)


end Go.Proofs.YtakodkjcmacofaaDoor

/- Function 79 (spec.l02Places): its runs between cut points. Written by a program of this repo (gen). -/
set_option linter.unusedVariables false
set_option linter.unusedSimpArgs false
set_option maxRecDepth 100000
namespace Go.Proofs.YtakodkjcmacofaaDoor
open Go Go.Am Go.Proofs
def ext79 : Ext := [(124, S124)]
theorem call79_124 : Callable Tryd.prog 124 := ⟨Tryd.f124, Tryd.func124, by kernel_rfl, by kernel_rfl⟩
theorem ext79Ok : ExtOk Tryd.prog ext79 := ⟨⟨call79_124, con124⟩, trivial⟩
/-! Function 79. -/
noncomputable def b79 : Code := bodyOf Tryd.f79
theorem hb79 : Tryd.f79.body = some b79 := by kernel_rfl
def sig79 : List AT := [AT.v (Ty.int IntKind.i64)]
def tys79 : List Ty := [Ty.bool]
def P79 (x0 : Int) : Prop := True
def g79_0 (x0 : Int) : Bool := g124_0 x0 1 6
theorem p79_0 (x0 : Int) : runF tab ext79 false 5 [] 2000 [] tys79 Tryd.f79.results [] [.code b79] (entE 0 0 sig79 (x0, ())) (entL sig79 (x0, ())) = some ([Dyn.mk Ty.bool (g124_0 x0 1 6)], [], [True]) := by kernel_rfl
theorem at79 (x0 : Int) (h : P79 x0) (w0 : World) (O : List Nat) (q : Nat → Value) : AtV Tryd.prog 79 (PostR [⟨Ty.bool, g79_0 x0⟩] [] [] q w0 O) 5 w0 O q [] [.code b79] (entE 0 0 sig79 (x0, ())) (entL sig79 (x0, ())) := by
  unfold P79 at h
  unfold g79_0
  exact AtV.fin Tryd.func79 tabOk ext79Ok mixed (p79_0 x0) ⟨trivial, trivial⟩

def S79 : Am.Spec := { sig := sig79, pre := fun ⟨x0, _⟩ => P79 x0, res := fun ⟨x0, _⟩ => [⟨Ty.bool, g79_0 x0⟩] }
theorem con79 : Contract Tryd.prog 79 S79 := contract_of Tryd.func79 hb79 (Nat.le_of_ble_eq_true (by kernel_rfl)) (fun ⟨x0, _⟩ h _ w0 O q => at79 x0 h w0 O q)


end Go.Proofs.YtakodkjcmacofaaDoor

/- Function 67 (spec.l01Digit): its runs between cut points. Written by a program of this repo (gen). -/
set_option linter.unusedVariables false
set_option linter.unusedSimpArgs false
set_option maxRecDepth 100000
namespace Go.Proofs.YtakodkjcmacofaaDoor
open Go Go.Am Go.Proofs
def ext67 : Ext := []
theorem ext67Ok : ExtOk Tryd.prog ext67 := trivial
/-! Function 67. -/
noncomputable def b67 : Code := bodyOf Tryd.f67
theorem hb67 : Tryd.f67.body = some b67 := by kernel_rfl
def sig67 : List AT := [AT.v (Ty.int IntKind.u8)]
def tys67 : List Ty := [Ty.bool]
def P67 (x0 : Int) : Prop := True
def g67_0 (x0 : Int) : Bool := (if (Decidable.decide (x0 ≥ 48)) = true then Decidable.decide (x0 ≤ 57) else Bool.false)
theorem p67_0 (x0 : Int) : runF tab ext67 false 9 [] 2000 [] tys67 Tryd.f67.results [true] [.code b67] (entE 0 0 sig67 (x0, ())) (entL sig67 (x0, ())) = some ([Dyn.mk Ty.bool (Decidable.decide (x0 ≤ 57))], [], [Decidable.decide (x0 ≥ 48) = Bool.true]) := by kernel_rfl
theorem p67_1 (x0 : Int) : runF tab ext67 false 9 [] 2000 [] tys67 Tryd.f67.results [false] [.code b67] (entE 0 0 sig67 (x0, ())) (entL sig67 (x0, ())) = some ([Dyn.mk Ty.bool Bool.false], [], [Decidable.decide (x0 ≥ 48) = Bool.false]) := by kernel_rfl
theorem at67 (x0 : Int) (h : P67 x0) (w0 : World) (O : List Nat) (q : Nat → Value) : AtV Tryd.prog 67 (PostR [⟨Ty.bool, g67_0 x0⟩] [] [] q w0 O) 9 w0 O q [] [.code b67] (entE 0 0 sig67 (x0, ())) (entL sig67 (x0, ())) := by
  unfold P67 at h
  unfold g67_0
  by_cases b0 : (Decidable.decide (x0 ≥ 48)) = true
  · try simp only [if_pos b0] at h ⊢
    exact AtV.fin Tryd.func67 tabOk ext67Ok mixed (p67_0 x0) ⟨b0, trivial⟩
  · try simp only [if_neg b0] at h ⊢
    replace b0 := Bool.eq_false_iff.2 b0
    exact AtV.fin Tryd.func67 tabOk ext67Ok mixed (p67_1 x0) ⟨b0, trivial⟩

def S67 : Am.Spec := { sig := sig67, pre := fun ⟨x0, _⟩ => P67 x0, res := fun ⟨x0, _⟩ => [⟨Ty.bool, g67_0 x0⟩] }
theorem con67 : Contract Tryd.prog 67 S67 := contract_of Tryd.func67 hb67 (Nat.le_of_ble_eq_true (by kernel_rfl)) (fun ⟨x0, _⟩ h _ w0 O q => at67 x0 h w0 O q)


end Go.Proofs.YtakodkjcmacofaaDoor

/- Function 63 (spec.l02Digits): its runs between cut points. Written by a program of this repo (gen). -/
set_option linter.unusedVariables false
set_option linter.unusedSimpArgs false
set_option maxRecDepth 100000
namespace Go.Proofs.YtakodkjcmacofaaDoor
open Go Go.Am Go.Proofs
def ext63 : Ext := [(67, S67)]
theorem call63_67 : Callable Tryd.prog 67 := ⟨Tryd.f67, Tryd.func67, by kernel_rfl, by kernel_rfl⟩
theorem ext63Ok : ExtOk Tryd.prog ext63 := ⟨⟨call63_67, con67⟩, trivial⟩
/-! Function 63. -/
noncomputable def b63 : Code := bodyOf Tryd.f63
theorem hb63 : Tryd.f63.body = some b63 := by kernel_rfl
def sig63 : List AT := [AT.v (Ty.str)]
def tys63 : List Ty := [Ty.int IntKind.i64, Ty.bool]
def E63_3 (v4 : Int) (v5 : Int) (x0 : ByteArray) : Env := [(0, PV.a (Atom.val (Value.string x0))), (4, PV.a (Atom.val (Value.int IntKind.i64 v4))), (5, PV.a (Atom.val (Value.int IntKind.i64 v5)))]
def L63_3 (v4 : Int) (v5 : Int) (x0 : ByteArray) : Heap := []
mutual
def R63 : Nat → ByteArray → List Dyn → Prop
  | 0, _, _ => False
  | n + 1, x0, ds => (R63_3 n (0) (0) (x0) ds)
def R63_3 : Nat → Int → Int → ByteArray → List Dyn → Prop
  | 0, _, _, _, _ => False
  | n + 1, v4, v5, x0, ds => (if (Decidable.decide (v5 < (↑(ByteArray.size x0) : Int))) = true then ((0 ≤ v5) ∧ (v5 < (↑(ByteArray.size x0) : Int)) ∧ (if (!g67_0 (↑(UInt8.toNat (List.getD (Array.toList (ByteArray.data x0)) (Int.toNat v5) 0)) : Int)) = true then (ds = [Dyn.mk (Ty.int IntKind.i64) 0, Dyn.mk Ty.bool Bool.false]) else ((InR IntKind.i64 (10 * v4)) ∧ ((0 ≤ v5) ∧ (v5 < (↑(ByteArray.size x0) : Int)) ∧ ((InR IntKind.u8 ((↑(UInt8.toNat (List.getD (Array.toList (ByteArray.data x0)) (Int.toNat v5) 0)) : Int) - 48)) ∧ ((InR IntKind.i64 ((↑(UInt8.toNat (List.getD (Array.toList (ByteArray.data x0)) (Int.toNat v5) 0)) : Int) - 48)) ∧ ((InR IntKind.i64 (10 * v4 + ((↑(UInt8.toNat (List.getD (Array.toList (ByteArray.data x0)) (Int.toNat v5) 0)) : Int) - 48))) ∧ ((InR IntKind.i64 (v5 + 1)) ∧ (R63_3 n (10 * v4 + ((↑(UInt8.toNat (List.getD (Array.toList (ByteArray.data x0)) (Int.toNat v5) 0)) : Int) - 48)) (v5 + 1) (x0) ds))))))))) else (ds = [Dyn.mk (Ty.int IntKind.i64) v4, Dyn.mk Ty.bool Bool.true]))
end
theorem p63_0 (x0 : ByteArray) : Am.runN tab ext63 false 26 [] 2000 [] [] [0, 4, 5] [] [] [.code b63] (entE 0 0 sig63 (x0, ())) (entL sig63 (x0, ())) = some (cutAt b63 3, E63_3 (0) (0) (x0), L63_3 (0) (0) (x0), []) := by kernel_rfl
theorem p63_1 (v4 : Int) (v5 : Int) (x0 : ByteArray) : runF tab ext63 false 26 [] 2000 [] tys63 Tryd.f63.results [true, true] (cutAt b63 3) (E63_3 v4 v5 x0) (L63_3 v4 v5 x0) = some ([Dyn.mk (Ty.int IntKind.i64) 0, Dyn.mk Ty.bool Bool.false], [], [Decidable.decide (v5 < (↑(ByteArray.size x0) : Int)) = Bool.true, 0 ≤ v5, v5 < (↑(ByteArray.size x0) : Int), True, (!g67_0 (↑(UInt8.toNat (List.getD (Array.toList (ByteArray.data x0)) (Int.toNat v5) 0)) : Int)) = Bool.true]) := by kernel_rfl
theorem p63_2 (v4 : Int) (v5 : Int) (x0 : ByteArray) : Am.runN tab ext63 false 26 [] 2000 [] [] [0, 4, 5] [] [true, false] (cutAt b63 3) (E63_3 v4 v5 x0) (L63_3 v4 v5 x0) = some (cutAt b63 3, E63_3 (10 * v4 + ((↑(UInt8.toNat (List.getD (Array.toList (ByteArray.data x0)) (Int.toNat v5) 0)) : Int) - 48)) (v5 + 1) (x0), L63_3 (10 * v4 + ((↑(UInt8.toNat (List.getD (Array.toList (ByteArray.data x0)) (Int.toNat v5) 0)) : Int) - 48)) (v5 + 1) (x0), [Decidable.decide (v5 < (↑(ByteArray.size x0) : Int)) = Bool.true, 0 ≤ v5, v5 < (↑(ByteArray.size x0) : Int), True, (!g67_0 (↑(UInt8.toNat (List.getD (Array.toList (ByteArray.data x0)) (Int.toNat v5) 0)) : Int)) = Bool.false, InR IntKind.i64 (10 * v4), 0 ≤ v5, v5 < (↑(ByteArray.size x0) : Int), InR IntKind.u8 ((↑(UInt8.toNat (List.getD (Array.toList (ByteArray.data x0)) (Int.toNat v5) 0)) : Int) - 48), InR IntKind.i64 ((↑(UInt8.toNat (List.getD (Array.toList (ByteArray.data x0)) (Int.toNat v5) 0)) : Int) - 48), InR IntKind.i64 (10 * v4 + ((↑(UInt8.toNat (List.getD (Array.toList (ByteArray.data x0)) (Int.toNat v5) 0)) : Int) - 48)), InR IntKind.i64 (v5 + 1)]) := by kernel_rfl
theorem p63_3 (v4 : Int) (v5 : Int) (x0 : ByteArray) : runF tab ext63 false 26 [] 2000 [] tys63 Tryd.f63.results [false] (cutAt b63 3) (E63_3 v4 v5 x0) (L63_3 v4 v5 x0) = some ([Dyn.mk (Ty.int IntKind.i64) v4, Dyn.mk Ty.bool Bool.true], [], [Decidable.decide (v5 < (↑(ByteArray.size x0) : Int)) = Bool.false]) := by kernel_rfl
theorem snd63 : ∀ n, (∀ (x0 : ByteArray) ds, R63 n x0 ds → ∀ w0 O q, AtV Tryd.prog 63 (PostR ds [] [] q w0 O) 26 w0 O q [] [.code b63] (entE 0 0 sig63 (x0, ())) (entL sig63 (x0, ()))) ∧ (∀ (v4 : Int) (v5 : Int) (x0 : ByteArray) ds, R63_3 n v4 v5 x0 ds → ∀ w0 O q, AtV Tryd.prog 63 (PostR ds [] [] q w0 O) 26 w0 O q [] (cutAt b63 3) (E63_3 v4 v5 x0) (L63_3 v4 v5 x0)) := by
  intro n
  induction n with
  | zero => exact ⟨fun _ _ h => by simp only [R63] at h, fun _ _ _ _ h => by simp only [R63_3] at h⟩
  | succ n ih =>
  obtain ⟨ih, ih3⟩ := ih
  refine ⟨?_, ?_⟩
  · intro x0 ds h w0 O q
    rw [R63] at h
    exact AtV.runN tabOk ext63Ok mixed (p63_0 x0) trivial (ih3 _ _ _ _ h w0 O q)

  · intro v4 v5 x0 ds h w0 O q
    rw [R63_3] at h
    by_cases b0 : (Decidable.decide (v5 < (↑(ByteArray.size x0) : Int))) = true
    · rw [if_pos b0] at h
      obtain ⟨s0, s1, h⟩ := h
      by_cases b1 : (!g67_0 (↑(UInt8.toNat (List.getD (Array.toList (ByteArray.data x0)) (Int.toNat v5) 0)) : Int)) = true
      · rw [if_pos b1] at h
        subst h
        exact AtV.fin Tryd.func63 tabOk ext63Ok mixed (p63_1 v4 v5 x0) ⟨b0, s0, s1, trivial, b1, trivial⟩
      · rw [if_neg b1] at h
        replace b1 := Bool.eq_false_iff.2 b1
        obtain ⟨s2, h⟩ := h
        obtain ⟨s3, s4, h⟩ := h
        obtain ⟨s5, h⟩ := h
        obtain ⟨s6, h⟩ := h
        obtain ⟨s7, h⟩ := h
        obtain ⟨s8, h⟩ := h
        exact AtV.runN tabOk ext63Ok mixed (p63_2 v4 v5 x0) ⟨b0, s0, s1, trivial, b1, s2, s3, s4, s5, s6, s7, s8, trivial⟩ (ih3 _ _ _ _ h w0 O q)
    · rw [if_neg b0] at h
      replace b0 := Bool.eq_false_iff.2 b0
      subst h
      exact AtV.fin Tryd.func63 tabOk ext63Ok mixed (p63_3 v4 v5 x0) ⟨b0, trivial⟩



def d63 (b : UInt8) : Bool := decide (48 ≤ b.toNat) && decide (b.toNat ≤ 57)
def dig63 : List UInt8 → Int → Int × Bool
  | [], n => (n, true)
  | b :: r, n => if d63 b then dig63 r (10 * n + ((b.toNat : Int) - 48)) else (0, false)
def g63_0 (x0 : ByteArray) : Int := (dig63 x0.data.toList 0).1
def g63_1 (x0 : ByteArray) : Bool := (dig63 x0.data.toList 0).2
def P63 (x0 : ByteArray) : Prop := x0.size ≤ 18

theorem run63 (x0 : ByteArray) (hs : x0.size ≤ 18) : ∀ (k i m : Nat), i + k = x0.size → m < 10 ^ i →
    R63_3 (k + 1) (m : Int) (i : Int) x0 [⟨.int .i64, (dig63 (x0.data.toList.drop i) (m : Int)).1⟩, ⟨.bool, (dig63 (x0.data.toList.drop i) (m : Int)).2⟩] := by
  intro k
  have hll : x0.data.toList.length = x0.size := rfl
  induction k with
  | zero =>
    intro i m hi hm
    rw [R63_3, if_neg (by simp; omega), List.drop_of_length_le (by omega)]
    rfl
  | succ k ih =>
    intro i m hi hm
    have hlt : i < x0.data.toList.length := by rw [hll]; omega
    have hcons : x0.data.toList.drop i = x0.data.toList.getD i 0 :: x0.data.toList.drop (i + 1) := drop_get _ i 0 hlt
    rw [R63_3, if_pos (by simp; omega), hcons]
    simp only [Int.toNat_natCast]
    generalize x0.data.toList.getD i 0 = b at *
    refine ⟨by omega, by omega, ?_⟩
    have hg : g67_0 (b.toNat : Int) = d63 b := by
      unfold g67_0 d63
      by_cases h1 : 48 ≤ b.toNat
      · have h1' : (b.toNat : Int) ≥ 48 := by omega
        by_cases h2 : b.toNat ≤ 57
        · have h2' : (b.toNat : Int) ≤ 57 := by omega
          simp [h1, h2, h1', h2']
        · have h2' : ¬ (b.toNat : Int) ≤ 57 := by omega
          simp [h1, h2, h1', h2']
      · have h1' : ¬ (b.toNat : Int) ≥ 48 := by omega
        simp [h1, h1']
    rw [hg]
    unfold dig63
    cases hd : d63 b with
    | false => rfl
    | true =>
      have hd' : 48 ≤ b.toNat ∧ b.toNat ≤ 57 := by unfold d63 at hd; simpa using hd
      have hp : 10 ^ i ≤ 10 ^ 17 := Nat.pow_le_pow_right (by decide) (by omega)
      have hm2 : m < 100000000000000000 := Nat.lt_of_lt_of_le hm hp
      simp only [Bool.not_true, Bool.false_eq_true, if_false, if_true]
      refine ⟨by rw [i64_iff]; omega, by omega, by omega, ?_, by rw [i64_iff]; omega, by rw [i64_iff]; omega, by rw [i64_iff]; omega, ?_⟩
      · rw [u8_iff]; omega
      · have e1 : 10 * (m : Int) + ((b.toNat : Int) - 48) = ((10 * m + (b.toNat - 48) : Nat) : Int) := by omega
        have e2 : (i : Int) + 1 = ((i + 1 : Nat) : Int) := by omega
        rw [e1, e2]
        exact ih (i + 1) (10 * m + (b.toNat - 48)) (by omega) (by rw [Nat.pow_succ]; omega)

theorem top63 (x0 : ByteArray) (h : P63 x0) : R63 (x0.size + 1 + 1) x0 [⟨.int .i64, g63_0 x0⟩, ⟨.bool, g63_1 x0⟩] := by
  rw [R63]
  exact run63 x0 h x0.size 0 0 (by omega) (by decide)

def S63 : Am.Spec := { sig := sig63, pre := fun ⟨x0, _⟩ => P63 x0, res := fun ⟨x0, _⟩ => [⟨.int .i64, g63_0 x0⟩, ⟨.bool, g63_1 x0⟩] }
theorem con63 : Contract Tryd.prog 63 S63 := contract_of Tryd.func63 hb63 (Nat.le_of_ble_eq_true (by kernel_rfl)) (fun ⟨x0, _⟩ h hwf w0 O q =>
  (snd63 _).1 x0 _ (top63 x0 h) w0 O q)

end Go.Proofs.YtakodkjcmacofaaDoor

/- Function 80 (spec.l02Ten): its runs between cut points. Written by a program of this repo (gen). -/
set_option linter.unusedVariables false
set_option linter.unusedSimpArgs false
set_option maxRecDepth 100000
namespace Go.Proofs.YtakodkjcmacofaaDoor
open Go Go.Am Go.Proofs
def ext80 : Ext := []
theorem ext80Ok : ExtOk Tryd.prog ext80 := trivial
/-! Function 80. -/
noncomputable def b80 : Code := bodyOf Tryd.f80
theorem hb80 : Tryd.f80.body = some b80 := by kernel_rfl
def sig80 : List AT := [AT.v (Ty.int IntKind.i64)]
def tys80 : List Ty := [Ty.int IntKind.i64]
def E80_3 (v3 : Int) (v4 : Int) (x0 : Int) : Env := [(0, PV.a (Atom.val (Value.int IntKind.i64 x0))), (3, PV.a (Atom.val (Value.int IntKind.i64 v3))), (4, PV.a (Atom.val (Value.int IntKind.i64 v4)))]
def L80_3 (v3 : Int) (v4 : Int) (x0 : Int) : Heap := []
mutual
def R80 : Nat → Int → List Dyn → Prop
  | 0, _, _ => False
  | n + 1, x0, ds => (R80_3 n (1) (0) (x0) ds)
def R80_3 : Nat → Int → Int → Int → List Dyn → Prop
  | 0, _, _, _, _ => False
  | n + 1, v3, v4, x0, ds => (if (Decidable.decide (v4 < x0)) = true then ((InR IntKind.i64 (v3 * 10)) ∧ ((InR IntKind.i64 (v4 + 1)) ∧ (R80_3 n (v3 * 10) (v4 + 1) (x0) ds))) else (ds = [Dyn.mk (Ty.int IntKind.i64) v3]))
end
theorem p80_0 (x0 : Int) : Am.runN tab ext80 false 13 [] 2000 [] [] [0, 3, 4] [] [] [.code b80] (entE 0 0 sig80 (x0, ())) (entL sig80 (x0, ())) = some (cutAt b80 3, E80_3 (1) (0) (x0), L80_3 (1) (0) (x0), []) := by kernel_rfl
theorem p80_1 (v3 : Int) (v4 : Int) (x0 : Int) : Am.runN tab ext80 false 13 [] 2000 [] [] [0, 3, 4] [] [true] (cutAt b80 3) (E80_3 v3 v4 x0) (L80_3 v3 v4 x0) = some (cutAt b80 3, E80_3 (v3 * 10) (v4 + 1) (x0), L80_3 (v3 * 10) (v4 + 1) (x0), [Decidable.decide (v4 < x0) = Bool.true, InR IntKind.i64 (v3 * 10), InR IntKind.i64 (v4 + 1)]) := by kernel_rfl
theorem p80_2 (v3 : Int) (v4 : Int) (x0 : Int) : runF tab ext80 false 13 [] 2000 [] tys80 Tryd.f80.results [false] (cutAt b80 3) (E80_3 v3 v4 x0) (L80_3 v3 v4 x0) = some ([Dyn.mk (Ty.int IntKind.i64) v3], [], [Decidable.decide (v4 < x0) = Bool.false]) := by kernel_rfl
theorem snd80 : ∀ n, (∀ (x0 : Int) ds, R80 n x0 ds → ∀ w0 O q, AtV Tryd.prog 80 (PostR ds [] [] q w0 O) 13 w0 O q [] [.code b80] (entE 0 0 sig80 (x0, ())) (entL sig80 (x0, ()))) ∧ (∀ (v3 : Int) (v4 : Int) (x0 : Int) ds, R80_3 n v3 v4 x0 ds → ∀ w0 O q, AtV Tryd.prog 80 (PostR ds [] [] q w0 O) 13 w0 O q [] (cutAt b80 3) (E80_3 v3 v4 x0) (L80_3 v3 v4 x0)) := by
  intro n
  induction n with
  | zero => exact ⟨fun _ _ h => by simp only [R80] at h, fun _ _ _ _ h => by simp only [R80_3] at h⟩
  | succ n ih =>
  obtain ⟨ih, ih3⟩ := ih
  refine ⟨?_, ?_⟩
  · intro x0 ds h w0 O q
    rw [R80] at h
    exact AtV.runN tabOk ext80Ok mixed (p80_0 x0) trivial (ih3 _ _ _ _ h w0 O q)

  · intro v3 v4 x0 ds h w0 O q
    rw [R80_3] at h
    by_cases b0 : (Decidable.decide (v4 < x0)) = true
    · rw [if_pos b0] at h
      obtain ⟨s0, h⟩ := h
      obtain ⟨s1, h⟩ := h
      exact AtV.runN tabOk ext80Ok mixed (p80_1 v3 v4 x0) ⟨b0, s0, s1, trivial⟩ (ih3 _ _ _ _ h w0 O q)
    · rw [if_neg b0] at h
      replace b0 := Bool.eq_false_iff.2 b0
      subst h
      exact AtV.fin Tryd.func80 tabOk ext80Ok mixed (p80_2 v3 v4 x0) ⟨b0, trivial⟩



def g80_0 (x0 : Int) : Int := ((10 ^ x0.toNat : Nat) : Int)
def P80 (x0 : Int) : Prop := 0 ≤ x0 ∧ x0 ≤ 18

theorem run80 (x0 : Int) (hx : x0 ≤ 18) (h0 : 0 ≤ x0) : ∀ (k i : Nat), (i : Int) + k = x0 → R80_3 (k + 1) ((10 ^ i : Nat) : Int) (i : Int) x0 [⟨.int .i64, g80_0 x0⟩]
  | 0, i, hi => by
    have e : x0.toNat = i := by omega
    rw [R80_3, if_neg (by simp; omega)]
    unfold g80_0
    rw [e]
  | k + 1, i, hi => by
    rw [R80_3, if_pos (by simp only [decide_eq_true_eq]; omega)]
    have hp : 10 ^ i ≤ 10 ^ 17 := Nat.pow_le_pow_right (by decide) (by omega)
    have hp2 : 10 ^ i ≤ 100000000000000000 := hp
    have ih := run80 x0 hx h0 k (i + 1) (by omega)
    have e1 : ((10 ^ i : Nat) : Int) * 10 = ((10 ^ (i + 1) : Nat) : Int) := by rw [Nat.pow_succ, Int.natCast_mul]; rfl
    have e2 : (i : Int) + 1 = ((i + 1 : Nat) : Int) := by omega
    rw [e1, e2]
    refine ⟨?_, by rw [i64_iff]; omega, ih⟩
    rw [← e1, i64_iff]
    generalize 10 ^ i = q at *
    omega

theorem top80 (x0 : Int) (hp : 0 ≤ x0 ∧ x0 ≤ 18) : R80 (x0.toNat + 1 + 1) x0 [⟨.int .i64, g80_0 x0⟩] := by
  rw [R80]
  exact run80 x0 hp.2 hp.1 x0.toNat 0 (by omega)

def S80 : Am.Spec := { sig := sig80, pre := fun ⟨x0, _⟩ => P80 x0, res := fun ⟨x0, _⟩ => [⟨.int .i64, g80_0 x0⟩] }
theorem con80 : Contract Tryd.prog 80 S80 := contract_of Tryd.func80 hb80 (Nat.le_of_ble_eq_true (by kernel_rfl)) (fun ⟨x0, _⟩ h hwf w0 O q =>
  (snd80 _).1 x0 _ (top80 x0 h) w0 O q)

end Go.Proofs.YtakodkjcmacofaaDoor

/- Function 81 (spec.l02Whole): its runs between cut points. Written by a program of this repo (gen). -/
set_option linter.unusedVariables false
set_option linter.unusedSimpArgs false
set_option maxRecDepth 100000
namespace Go.Proofs.YtakodkjcmacofaaDoor
open Go Go.Am Go.Proofs
def ext81 : Ext := [(124, S124)]
theorem call81_124 : Callable Tryd.prog 124 := ⟨Tryd.f124, Tryd.func124, by kernel_rfl, by kernel_rfl⟩
theorem ext81Ok : ExtOk Tryd.prog ext81 := ⟨⟨call81_124, con124⟩, trivial⟩
/-! Function 81. -/
noncomputable def b81 : Code := bodyOf Tryd.f81
theorem hb81 : Tryd.f81.body = some b81 := by kernel_rfl
def sig81 : List AT := [AT.v (Ty.int IntKind.i64)]
def tys81 : List Ty := [Ty.bool]
def P81 (x0 : Int) : Prop := True
def g81_0 (x0 : Int) : Bool := g124_0 x0 (-1000000000) 1000000000
theorem p81_0 (x0 : Int) : runF tab ext81 false 5 [] 2000 [] tys81 Tryd.f81.results [] [.code b81] (entE 0 0 sig81 (x0, ())) (entL sig81 (x0, ())) = some ([Dyn.mk Ty.bool (g124_0 x0 (-1000000000) 1000000000)], [], [True]) := by kernel_rfl
theorem at81 (x0 : Int) (h : P81 x0) (w0 : World) (O : List Nat) (q : Nat → Value) : AtV Tryd.prog 81 (PostR [⟨Ty.bool, g81_0 x0⟩] [] [] q w0 O) 5 w0 O q [] [.code b81] (entE 0 0 sig81 (x0, ())) (entL sig81 (x0, ())) := by
  unfold P81 at h
  unfold g81_0
  exact AtV.fin Tryd.func81 tabOk ext81Ok mixed (p81_0 x0) ⟨trivial, trivial⟩

def S81 : Am.Spec := { sig := sig81, pre := fun ⟨x0, _⟩ => P81 x0, res := fun ⟨x0, _⟩ => [⟨Ty.bool, g81_0 x0⟩] }
theorem con81 : Contract Tryd.prog 81 S81 := contract_of Tryd.func81 hb81 (Nat.le_of_ble_eq_true (by kernel_rfl)) (fun ⟨x0, _⟩ h _ w0 O q => at81 x0 h w0 O q)


end Go.Proofs.YtakodkjcmacofaaDoor

/- Function 129 (spec.l01Dec): its runs between cut points. Written by a program of this repo (gen). -/
set_option linter.unusedVariables false
set_option linter.unusedSimpArgs false
set_option maxRecDepth 100000
namespace Go.Proofs.YtakodkjcmacofaaDoor
open Go Go.Am Go.Proofs
def ext129 : Ext := []
theorem ext129Ok : ExtOk Tryd.prog ext129 := trivial
/-! Function 129. -/
noncomputable def b129 : Code := bodyOf Tryd.f129
theorem hb129 : Tryd.f129.body = some b129 := by kernel_rfl
def sig129 : List AT := [AT.v (Ty.int IntKind.i64)]
def tys129 : List Ty := [Ty.str]
def E129_5 (v4 : Int) (h0 : List Int) (x0 : Int) : Env := [(0, PV.a (Atom.val (Value.int IntKind.i64 x0))), (3, PV.a (Atom.osl 0 Option.none)), (4, PV.a (Atom.val (Value.int IntKind.i64 v4)))]
def L129_5 (v4 : Int) (h0 : List Int) (x0 : Int) : Heap := [Option.some (Arr.mk (Ty.int IntKind.u8) h0 Bool.false)]
def E129_15 (v7 : Int) (h0 : List Int) (h1 : List Int) : Env := [(3, PV.a (Atom.osl 0 Option.none)), (6, PV.a (Atom.osl 1 Option.none)), (7, PV.a (Atom.val (Value.int IntKind.i64 v7)))]
def L129_15 (v7 : Int) (h0 : List Int) (h1 : List Int) : Heap := [Option.some (Arr.mk (Ty.int IntKind.u8) h0 Bool.false), Option.some (Arr.mk (Ty.int IntKind.u8) h1 Bool.false)]
mutual
def R129 : Nat → Int → List Dyn → Prop
  | 0, _, _ => False
  | n + 1, x0, ds => (if (x0 == 0) = true then (ds = [Dyn.mk Ty.str (ByteArray.mk #[48])]) else (R129_5 n (x0) ([]) (x0) ds))
def R129_5 : Nat → Int → List Int → Int → List Dyn → Prop
  | 0, _, _, _, _ => False
  | n + 1, v4, h0, x0, ds => (if (v4 != 0) = true then ((InR IntKind.i64 (Int.tmod v4 10)) ∧ (if (Decidable.decide (Int.tmod v4 10 < 0)) = true then ((InR IntKind.i64 (0 - Int.tmod v4 10)) ∧ ((InR IntKind.i64 (48 + (0 - Int.tmod v4 10))) ∧ ((InR IntKind.u8 (48 + (0 - Int.tmod v4 10))) ∧ (((List.length h0 + 1) * 1 ≤ 140737488355328) ∧ ((InR IntKind.i64 (Int.tdiv v4 10)) ∧ (R129_5 n (Int.tdiv v4 10) (h0 ++ [48 + (0 - Int.tmod v4 10)]) (x0) ds)))))) else ((InR IntKind.i64 (48 + Int.tmod v4 10)) ∧ ((InR IntKind.u8 (48 + Int.tmod v4 10)) ∧ (((List.length h0 + 1) * 1 ≤ 140737488355328) ∧ ((InR IntKind.i64 (Int.tdiv v4 10)) ∧ (R129_5 n (Int.tdiv v4 10) (h0 ++ [48 + Int.tmod v4 10]) (x0) ds))))))) else (if (Decidable.decide (x0 < 0)) = true then (((List.length h0 + 1) * 1 ≤ 140737488355328) ∧ ((InR IntKind.i64 ((↑(List.length (h0 ++ [45])) : Int) - 1)) ∧ (R129_15 n ((↑(List.length (h0 ++ [45])) : Int) - 1) (h0 ++ [45]) ([]) ds))) else ((InR IntKind.i64 ((↑(List.length h0) : Int) - 1)) ∧ (R129_15 n ((↑(List.length h0) : Int) - 1) (h0) ([]) ds))))
def R129_15 : Nat → Int → List Int → List Int → List Dyn → Prop
  | 0, _, _, _, _ => False
  | n + 1, v7, h0, h1, ds => (if (Decidable.decide (v7 ≥ 0)) = true then ((0 ≤ v7) ∧ (v7 < (↑(List.length h0) : Int)) ∧ (((List.length h1 + 1) * 1 ≤ 140737488355328) ∧ ((InR IntKind.i64 (v7 - 1)) ∧ (R129_15 n (v7 - 1) (h0) (h1 ++ [List.getD h0 (Int.toNat v7) 0]) ds)))) else (ds = [Dyn.mk Ty.str (bytesStr h1)]))
end
theorem p129_0 (x0 : Int) : runF tab ext129 false 50 [] 2000 [] tys129 Tryd.f129.results [true] [.code b129] (entE 0 0 sig129 (x0, ())) (entL sig129 (x0, ())) = some ([Dyn.mk Ty.str (ByteArray.mk #[48])], [], [(x0 == 0) = Bool.true]) := by kernel_rfl
theorem p129_1 (x0 : Int) : Am.runN tab ext129 false 50 [] 2000 [] [] [0, 3, 4] [0] [false] [.code b129] (entE 0 0 sig129 (x0, ())) (entL sig129 (x0, ())) = some (cutAt b129 5, E129_5 (x0) ([]) (x0), L129_5 (x0) ([]) (x0), [(x0 == 0) = Bool.false]) := by kernel_rfl
theorem p129_2 (v4 : Int) (h0 : List Int) (x0 : Int) : Am.runN tab ext129 false 50 [] 2000 [] [] [0, 3, 4] [0] [true, true] (cutAt b129 5) (E129_5 v4 h0 x0) (L129_5 v4 h0 x0) = some (cutAt b129 5, E129_5 (Int.tdiv v4 10) (h0 ++ [48 + (0 - Int.tmod v4 10)]) (x0), L129_5 (Int.tdiv v4 10) (h0 ++ [48 + (0 - Int.tmod v4 10)]) (x0), [(v4 != 0) = Bool.true, (10 : Int) ≠ (0 : Int), InR IntKind.i64 (Int.tmod v4 10), Decidable.decide (Int.tmod v4 10 < 0) = Bool.true, InR IntKind.i64 (0 - Int.tmod v4 10), InR IntKind.i64 (48 + (0 - Int.tmod v4 10)), InR IntKind.u8 (48 + (0 - Int.tmod v4 10)), (List.length h0 + 1) * 1 ≤ 140737488355328, (10 : Int) ≠ (0 : Int), InR IntKind.i64 (Int.tdiv v4 10)]) := by kernel_rfl
theorem p129_3 (v4 : Int) (h0 : List Int) (x0 : Int) : Am.runN tab ext129 false 50 [] 2000 [] [] [0, 3, 4] [0] [true, false] (cutAt b129 5) (E129_5 v4 h0 x0) (L129_5 v4 h0 x0) = some (cutAt b129 5, E129_5 (Int.tdiv v4 10) (h0 ++ [48 + Int.tmod v4 10]) (x0), L129_5 (Int.tdiv v4 10) (h0 ++ [48 + Int.tmod v4 10]) (x0), [(v4 != 0) = Bool.true, (10 : Int) ≠ (0 : Int), InR IntKind.i64 (Int.tmod v4 10), Decidable.decide (Int.tmod v4 10 < 0) = Bool.false, InR IntKind.i64 (48 + Int.tmod v4 10), InR IntKind.u8 (48 + Int.tmod v4 10), (List.length h0 + 1) * 1 ≤ 140737488355328, (10 : Int) ≠ (0 : Int), InR IntKind.i64 (Int.tdiv v4 10)]) := by kernel_rfl
theorem p129_4 (v4 : Int) (h0 : List Int) (x0 : Int) : Am.runN tab ext129 false 50 [] 2000 [] [] [3, 6, 7] [0, 2] [false, true] (cutAt b129 5) (E129_5 v4 h0 x0) (L129_5 v4 h0 x0) = some (cutAt b129 15, E129_15 ((↑(List.length (h0 ++ [45])) : Int) - 1) (h0 ++ [45]) ([]), L129_15 ((↑(List.length (h0 ++ [45])) : Int) - 1) (h0 ++ [45]) ([]), [(v4 != 0) = Bool.false, Decidable.decide (x0 < 0) = Bool.true, (List.length h0 + 1) * 1 ≤ 140737488355328, InR IntKind.i64 ((↑(List.length (h0 ++ [45])) : Int) - 1)]) := by kernel_rfl
theorem p129_5 (v4 : Int) (h0 : List Int) (x0 : Int) : Am.runN tab ext129 false 50 [] 2000 [] [] [3, 6, 7] [0, 1] [false, false] (cutAt b129 5) (E129_5 v4 h0 x0) (L129_5 v4 h0 x0) = some (cutAt b129 15, E129_15 ((↑(List.length h0) : Int) - 1) (h0) ([]), L129_15 ((↑(List.length h0) : Int) - 1) (h0) ([]), [(v4 != 0) = Bool.false, Decidable.decide (x0 < 0) = Bool.false, InR IntKind.i64 ((↑(List.length h0) : Int) - 1)]) := by kernel_rfl
theorem p129_6 (v7 : Int) (h0 : List Int) (h1 : List Int) : Am.runN tab ext129 false 50 [] 2000 [] [] [3, 6, 7] [0, 1] [true] (cutAt b129 15) (E129_15 v7 h0 h1) (L129_15 v7 h0 h1) = some (cutAt b129 15, E129_15 (v7 - 1) (h0) (h1 ++ [List.getD h0 (Int.toNat v7) 0]), L129_15 (v7 - 1) (h0) (h1 ++ [List.getD h0 (Int.toNat v7) 0]), [Decidable.decide (v7 ≥ 0) = Bool.true, 0 ≤ v7, v7 < (↑(List.length h0) : Int), (List.length h1 + 1) * 1 ≤ 140737488355328, InR IntKind.i64 (v7 - 1)]) := by kernel_rfl
theorem p129_7 (v7 : Int) (h0 : List Int) (h1 : List Int) : runF tab ext129 false 50 [] 2000 [] tys129 Tryd.f129.results [false] (cutAt b129 15) (E129_15 v7 h0 h1) (L129_15 v7 h0 h1) = some ([Dyn.mk Ty.str (bytesStr h1)], [], [Decidable.decide (v7 ≥ 0) = Bool.false]) := by kernel_rfl
theorem snd129 : ∀ n, (∀ (x0 : Int) ds, R129 n x0 ds → ∀ w0 O q, AtV Tryd.prog 129 (PostR ds [] [] q w0 O) 50 w0 O q [] [.code b129] (entE 0 0 sig129 (x0, ())) (entL sig129 (x0, ()))) ∧ (∀ (v4 : Int) (h0 : List Int) (x0 : Int) ds, R129_5 n v4 h0 x0 ds → ∀ w0 O q, AtV Tryd.prog 129 (PostR ds [] [] q w0 O) 50 w0 O q [] (cutAt b129 5) (E129_5 v4 h0 x0) (L129_5 v4 h0 x0)) ∧ (∀ (v7 : Int) (h0 : List Int) (h1 : List Int) ds, R129_15 n v7 h0 h1 ds → ∀ w0 O q, AtV Tryd.prog 129 (PostR ds [] [] q w0 O) 50 w0 O q [] (cutAt b129 15) (E129_15 v7 h0 h1) (L129_15 v7 h0 h1)) := by
  intro n
  induction n with
  | zero => exact ⟨fun _ _ h => by simp only [R129] at h, fun _ _ _ _ h => by simp only [R129_5] at h, fun _ _ _ _ h => by simp only [R129_15] at h⟩
  | succ n ih =>
  obtain ⟨ih, ih5, ih15⟩ := ih
  refine ⟨?_, ?_, ?_⟩
  · intro x0 ds h w0 O q
    rw [R129] at h
    by_cases b0 : (x0 == 0) = true
    · rw [if_pos b0] at h
      subst h
      exact AtV.fin Tryd.func129 tabOk ext129Ok mixed (p129_0 x0) ⟨b0, trivial⟩
    · rw [if_neg b0] at h
      replace b0 := Bool.eq_false_iff.2 b0
      exact AtV.runN tabOk ext129Ok mixed (p129_1 x0) ⟨b0, trivial⟩ (ih5 _ _ _ _ h w0 O q)

  · intro v4 h0 x0 ds h w0 O q
    rw [R129_5] at h
    by_cases b0 : (v4 != 0) = true
    · rw [if_pos b0] at h
      obtain ⟨s0, h⟩ := h
      by_cases b1 : (Decidable.decide (Int.tmod v4 10 < 0)) = true
      · rw [if_pos b1] at h
        obtain ⟨s1, h⟩ := h
        obtain ⟨s2, h⟩ := h
        obtain ⟨s3, h⟩ := h
        obtain ⟨s4, h⟩ := h
        obtain ⟨s5, h⟩ := h
        exact AtV.runN tabOk ext129Ok mixed (p129_2 v4 h0 x0) ⟨b0, (by decide), s0, b1, s1, s2, s3, s4, (by decide), s5, trivial⟩ (ih5 _ _ _ _ h w0 O q)
      · rw [if_neg b1] at h
        replace b1 := Bool.eq_false_iff.2 b1
        obtain ⟨s1, h⟩ := h
        obtain ⟨s2, h⟩ := h
        obtain ⟨s3, h⟩ := h
        obtain ⟨s4, h⟩ := h
        exact AtV.runN tabOk ext129Ok mixed (p129_3 v4 h0 x0) ⟨b0, (by decide), s0, b1, s1, s2, s3, (by decide), s4, trivial⟩ (ih5 _ _ _ _ h w0 O q)
    · rw [if_neg b0] at h
      replace b0 := Bool.eq_false_iff.2 b0
      by_cases b1 : (Decidable.decide (x0 < 0)) = true
      · rw [if_pos b1] at h
        obtain ⟨s0, h⟩ := h
        obtain ⟨s1, h⟩ := h
        exact AtV.runN tabOk ext129Ok mixed (p129_4 v4 h0 x0) ⟨b0, b1, s0, s1, trivial⟩ (ih15 _ _ _ _ h w0 O q)
      · rw [if_neg b1] at h
        replace b1 := Bool.eq_false_iff.2 b1
        obtain ⟨s0, h⟩ := h
        exact AtV.runN tabOk ext129Ok mixed (p129_5 v4 h0 x0) ⟨b0, b1, s0, trivial⟩ (ih15 _ _ _ _ h w0 O q)

  · intro v7 h0 h1 ds h w0 O q
    rw [R129_15] at h
    by_cases b0 : (Decidable.decide (v7 ≥ 0)) = true
    · rw [if_pos b0] at h
      obtain ⟨s0, s1, h⟩ := h
      obtain ⟨s2, h⟩ := h
      obtain ⟨s3, h⟩ := h
      exact AtV.runN tabOk ext129Ok mixed (p129_6 v7 h0 h1) ⟨b0, s0, s1, s2, s3, trivial⟩ (ih15 _ _ _ _ h w0 O q)
    · rw [if_neg b0] at h
      replace b0 := Bool.eq_false_iff.2 b0
      subst h
      exact AtV.fin Tryd.func129 tabOk ext129Ok mixed (p129_7 v7 h0 h1) ⟨b0, trivial⟩



def g129_0 (x0 : Int) : ByteArray := numB x0
def P129 (x0 : Int) : Prop := True

theorem bstr129 (xs : List Int) : bytesStr xs = ⟨⟨xs.map fun n => UInt8.ofNat n.toNat⟩⟩ := by
  have key : ∀ (xs : List Int) (s : ByteArray), (xs.foldl (fun r n => r.push (UInt8.ofNat n.toNat)) s).data.toList = s.data.toList ++ xs.map fun n => UInt8.ofNat n.toNat := by
    intro xs
    induction xs with
    | nil => intro s; simp
    | cons a r ih =>
      intro s
      rw [List.foldl_cons, ih]
      show (s.data.push _).toList ++ _ = _
      rw [Array.toList_push]
      simp
  apply ByteArray.ext
  apply Array.ext'
  have := key xs ByteArray.empty
  unfold bytesStr
  rw [this]
  rfl
theorem bstrB129 (l : List UInt8) : bytesStr (l.map fun b => (b.toNat : Int)) = ⟨⟨l⟩⟩ := by
  rw [bstr129, List.map_map]
  congr 2
  conv => rhs; rw [← List.map_id l]
  refine List.map_congr_left fun b _ => ?_
  show UInt8.ofNat ((b.toNat : Int)).toNat = b
  rw [Int.toNat_natCast, UInt8.ofNat_toNat]

/-- The digits, the last ahead. -/
def rd129 (m : Nat) : List Int := if h : m = 0 then [] else ((48 + m % 10 : Nat) : Int) :: rd129 (m / 10)
termination_by m
decreasing_by omega
theorem rd0129 : rd129 0 = [] := by rw [rd129, dif_pos rfl]
theorem rds129 {m : Nat} (h : m ≠ 0) : rd129 m = ((48 + m % 10 : Nat) : Int) :: rd129 (m / 10) := by rw [rd129, dif_neg h]
theorem rdl129 : ∀ (k m : Nat), m < 10 ^ k → (rd129 m).length ≤ k
  | 0, m, h => by obtain rfl : m = 0 := by simpa using h
                  rw [rd0129]; exact Nat.le_refl _
  | k + 1, m, h => by
    by_cases h0 : m = 0
    · rw [h0, rd0129]; exact Nat.zero_le _
    · rw [rds129 h0, List.length_cons]
      have := rdl129 k (m / 10) (by rw [Nat.pow_succ] at h; omega)
      omega
theorem rdd129 (m : Nat) (h : m ≠ 0) : bytesStr (rd129 m).reverse = ⟨⟨Lib.decDigits m⟩⟩ := by
  have key : ∀ m : Nat, m ≠ 0 → (rd129 m).reverse = (Lib.decDigits m).map fun b => (b.toNat : Int) := by
    intro m
    induction m using Nat.strongRecOn with
    | _ m ih =>
      intro h
      rw [rds129 h, List.reverse_cons, Lib.decDigits]
      have e : (UInt8.ofNat (48 + m % 10)).toNat = 48 + m % 10 := by rw [UInt8.toNat_ofNat']; omega
      split
      · rename_i hs
        rw [show m / 10 = 0 by omega, rd0129]
        have e' : (UInt8.ofNat (48 + m)).toNat = 48 + m % 10 := by rw [UInt8.toNat_ofNat']; omega
        rw [List.map_singleton, e']
        rfl
      · rw [ih (m / 10) (by omega) (by omega), List.map_append, List.map_singleton, e]
  rw [key m h]
  exact bstrB129 _

theorem back129 (h0 : List Int) : ∀ (j : Nat) (h1 : List Int), j ≤ h0.length → h1.length + j ≤ 64 → R129_15 (j + 1) ((j : Int) - 1) h0 h1 [⟨.str, bytesStr (h1 ++ (h0.take j).reverse)⟩]
  | 0, h1, _, _ => by
    rw [R129_15, if_neg (by decide)]
    simp
  | j + 1, h1, hj, hl => by
    have ih := back129 h0 j (h1 ++ [h0.getD j 0]) (by omega) (by rw [List.length_append, List.length_singleton]; omega)
    have e : ((j + 1 : Nat) : Int) - 1 = (j : Int) := by omega
    rw [R129_15, e, if_pos (by simp only [decide_eq_true_eq]; omega), Int.toNat_natCast]
    refine ⟨by omega, by omega, by omega, by rw [i64_iff]; omega, ?_⟩
    have et : (h0.take (j + 1)).reverse = h0.getD j 0 :: (h0.take j).reverse := by
      have hlt : j < h0.length := by omega
      rw [List.take_add_one, List.getElem?_eq_getElem hlt, List.reverse_append, List.getD_eq_getElem?_getD, List.getElem?_eq_getElem hlt]
      rfl
    rw [et]
    rw [List.append_assoc] at ih
    exact ih

/-- The last part, from the digits on. -/
theorem last129 (x0 : Int) (h0 : List Int) (hl : h0.length ≤ 20) : R129_5 ((if x0 < 0 then h0.length + 1 else h0.length) + 1 + 1) 0 h0 x0 [⟨.str, bytesStr ((if x0 < 0 then h0 ++ [45] else h0)).reverse⟩] := by
  rw [R129_5, if_neg (by decide)]
  by_cases hx : x0 < 0
  · have b := back129 (h0 ++ [45]) (h0.length + 1) [] (by rw [List.length_append, List.length_singleton]; omega) (by simp; omega)
    have e : (h0 ++ [(45 : Int)]).length = h0.length + 1 := by rw [List.length_append, List.length_singleton]
    rw [List.take_of_length_le (by omega)] at b
    simp only [hx, decide_true, if_true]
    rw [e]
    exact ⟨by omega, by rw [i64_iff]; omega, b⟩
  · have b := back129 h0 h0.length [] (Nat.le_refl _) (by simp; omega)
    rw [List.take_of_length_le (Nat.le_refl _)] at b
    simp only [hx, decide_false, Bool.false_eq_true, if_false]
    exact ⟨by rw [i64_iff]; omega, b⟩

theorem run129 (x0 : Int) (ds : List Dyn) (F : List Int) (K : Nat) (hF : R129_5 K 0 F x0 ds) : ∀ (m : Nat) (v : Int) (h0 : List Int), (v = (m : Int) ∨ v = -(m : Int)) → m ≤ 9223372036854775808 → InR .i64 v → h0.length + (rd129 m).length ≤ 20 → h0 ++ rd129 m = F → R129_5 ((rd129 m).length + K) v h0 x0 ds := by
  intro m
  induction m using Nat.strongRecOn with
  | _ m ih =>
    intro v h0 hv hm hi hl he
    by_cases h : m = 0
    · subst h
      obtain rfl : v = 0 := by omega
      rw [rd0129] at he ⊢
      rw [List.append_nil] at he
      rw [he, List.length_nil, Nat.zero_add]
      exact hF
    · have hr := rds129 h
      rw [hr] at he hl ⊢
      rw [List.length_cons] at hl ⊢
      have hne : (v != 0) = true := by
        have : v ≠ 0 := by omega
        simpa using this
      rw [i64_iff] at hi
      have e1 : (rd129 (m / 10)).length + 1 + K = ((rd129 (m / 10)).length + K) + 1 := by omega
      have next : ∀ v', (v' = ((m / 10 : Nat) : Int) ∨ v' = -((m / 10 : Nat) : Int)) → R129_5 ((rd129 (m / 10)).length + K) v' (h0 ++ [((48 + m % 10 : Nat) : Int)]) x0 ds := fun v' hv' =>
        ih (m / 10) (by omega) v' _ hv' (by omega) (by rw [i64_iff]; omega) (by rw [List.length_append, List.length_singleton]; omega) (by rw [List.append_assoc]; exact he)
      rw [e1, R129_5, if_pos hne]
      rcases hv with rfl | rfl
      · have t1 : Int.tmod (m : Int) 10 = ((m % 10 : Nat) : Int) := rfl
        have t2 : Int.tdiv (m : Int) 10 = ((m / 10 : Nat) : Int) := rfl
        rw [t1, t2]
        refine ⟨by rw [i64_iff]; omega, ?_⟩
        rw [if_neg (by simp only [decide_eq_true_eq]; omega)]
        have e2 : 48 + ((m % 10 : Nat) : Int) = ((48 + m % 10 : Nat) : Int) := by omega
        rw [e2]
        exact ⟨by rw [i64_iff]; omega, by rw [u8_iff]; omega, by omega, by rw [i64_iff]; omega, next _ (.inl rfl)⟩
      · have t1 : Int.tmod (-(m : Int)) 10 = -((m % 10 : Nat) : Int) := by rw [Int.neg_tmod]; rfl
        have t2 : Int.tdiv (-(m : Int)) 10 = -((m / 10 : Nat) : Int) := by rw [Int.neg_tdiv]; rfl
        rw [t1, t2]
        refine ⟨by rw [i64_iff]; omega, ?_⟩
        by_cases hz : m % 10 = 0
        · rw [if_neg (by simp only [decide_eq_true_eq]; omega)]
          have e2 : 48 + -((m % 10 : Nat) : Int) = ((48 + m % 10 : Nat) : Int) := by omega
          rw [e2]
          exact ⟨by rw [i64_iff]; omega, by rw [u8_iff]; omega, by omega, by rw [i64_iff]; omega, next _ (.inr rfl)⟩
        · rw [if_pos (by simp only [decide_eq_true_eq]; omega)]
          have e2 : 48 + (0 - -((m % 10 : Nat) : Int)) = ((48 + m % 10 : Nat) : Int) := by omega
          rw [e2]
          exact ⟨by rw [i64_iff]; omega, by rw [i64_iff]; omega, by rw [u8_iff]; omega, by omega, by rw [i64_iff]; omega, next _ (.inr rfl)⟩

theorem top129 (x0 : Int) (hi : InR .i64 x0) : ∃ n, R129 n x0 [⟨.str, g129_0 x0⟩] := by
  unfold g129_0 numB Lib.itoa
  by_cases h : x0 = 0
  · subst h
    refine ⟨1, ?_⟩
    rw [R129, if_pos (by rfl), if_neg (by decide)]
    have e : Lib.decDigits (Int.toNat 0) = [48] := by rw [Lib.decDigits, dif_pos (by decide)]; rfl
    rw [e]
  · have hi' := hi
    rw [i64_iff] at hi'
    have hn : x0.natAbs ≠ 0 := by omega
    have hl := rdl129 19 x0.natAbs (by omega)
    refine ⟨(rd129 x0.natAbs).length + ((if x0 < 0 then (rd129 x0.natAbs).length + 1 else (rd129 x0.natAbs).length) + 1 + 1) + 1, ?_⟩
    rw [R129, if_neg (by simpa using h)]
    have hlast := last129 x0 (rd129 x0.natAbs) (by omega)
    have hrun := run129 x0 _ (rd129 x0.natAbs) _ hlast x0.natAbs x0 [] (by omega) (by omega) hi (by simp; omega) rfl
    have e : bytesStr (if x0 < 0 then rd129 x0.natAbs ++ [45] else rd129 x0.natAbs).reverse = ⟨(if x0 < 0 then 45 :: Lib.decDigits x0.natAbs else Lib.decDigits x0.toNat).toArray⟩ := by
      by_cases hx : x0 < 0
      · rw [if_pos hx, if_pos hx, List.reverse_append]
        show bytesStr ((45 : Int) :: (rd129 x0.natAbs).reverse) = _
        have := rdd129 x0.natAbs hn
        have e0 : bytesStr ((45 : Int) :: (rd129 x0.natAbs).reverse) = ⟨⟨45 :: (bytesStr (rd129 x0.natAbs).reverse).data.toList⟩⟩ := by rw [bstr129, bstr129]; rfl
        rw [e0, this]
      · rw [if_neg hx, if_neg hx, rdd129 x0.natAbs hn, show x0.natAbs = x0.toNat by omega]
    rw [e] at hrun
    exact hrun

def S129 : Am.Spec := { sig := sig129, pre := fun ⟨x0, _⟩ => P129 x0, res := fun ⟨x0, _⟩ => [⟨.str, g129_0 x0⟩] }
theorem con129 : Contract Tryd.prog 129 S129 := contract_of Tryd.func129 hb129 (Nat.le_of_ble_eq_true (by kernel_rfl)) (fun ⟨x0, _⟩ h hwf w0 O q => by
  obtain ⟨n, hn⟩ := top129 x0 hwf.1
  exact (snd129 n).1 x0 _ hn w0 O q)

end Go.Proofs.YtakodkjcmacofaaDoor

/- Function 82 (spec.l02Fixed): its runs between cut points. Written by a program of this repo (gen). -/
set_option linter.unusedVariables false
set_option linter.unusedSimpArgs false
set_option maxRecDepth 100000
namespace Go.Proofs.YtakodkjcmacofaaDoor
open Go Go.Am Go.Proofs
def ext82 : Ext := [(80, S80), (129, S129)]
theorem call82_80 : Callable Tryd.prog 80 := ⟨Tryd.f80, Tryd.func80, by kernel_rfl, by kernel_rfl⟩
theorem call82_129 : Callable Tryd.prog 129 := ⟨Tryd.f129, Tryd.func129, by kernel_rfl, by kernel_rfl⟩
theorem ext82Ok : ExtOk Tryd.prog ext82 := ⟨⟨call82_80, con80⟩, ⟨call82_129, con129⟩, trivial⟩
/-! Function 82. -/
noncomputable def b82 : Code := bodyOf Tryd.f82
theorem hb82 : Tryd.f82.body = some b82 := by kernel_rfl
def sig82 : List AT := [AT.v (Ty.int IntKind.i64), AT.v (Ty.int IntKind.i64)]
def tys82 : List Ty := [Ty.str]
def P82 (x0 : Int) (x1 : Int) : Prop := (if (Decidable.decide (x0 < 0)) = true then ((InR IntKind.i64 (0 - x0)) ∧ ((P80 x1) ∧ ((g80_0 x1 ≠ 0) ∧ (InR IntKind.i64 (Int.tmod (0 - x0) (g80_0 x1))) ∧ ((InR IntKind.i64 (Int.tmod (0 - x0) (g80_0 x1) + g80_0 x1)) ∧ ((g80_0 x1 ≠ 0) ∧ (InR IntKind.i64 (Int.tdiv (0 - x0) (g80_0 x1))) ∧ ((1 + ByteArray.size (g129_0 (Int.tdiv (0 - x0) (g80_0 x1))) ≤ 9223372036854775807) ∧ ((ByteArray.size (ByteArray.mk #[45] ++ g129_0 (Int.tdiv (0 - x0) (g80_0 x1))) + 1 ≤ 9223372036854775807) ∧ ((1 ≤ (↑(ByteArray.size (g129_0 (Int.tmod (0 - x0) (g80_0 x1) + g80_0 x1))) : Int)) ∧ ((ByteArray.size (ByteArray.mk #[45] ++ g129_0 (Int.tdiv (0 - x0) (g80_0 x1)) ++ ByteArray.mk #[46]) + ByteArray.size (ByteArray.extract (g129_0 (Int.tmod (0 - x0) (g80_0 x1) + g80_0 x1)) 1 (Int.toNat (↑(ByteArray.size (g129_0 (Int.tmod (0 - x0) (g80_0 x1) + g80_0 x1))) : Int))) ≤ 9223372036854775807) ∧ True))))))))) else ((P80 x1) ∧ ((g80_0 x1 ≠ 0) ∧ (InR IntKind.i64 (Int.tmod x0 (g80_0 x1))) ∧ ((InR IntKind.i64 (Int.tmod x0 (g80_0 x1) + g80_0 x1)) ∧ ((g80_0 x1 ≠ 0) ∧ (InR IntKind.i64 (Int.tdiv x0 (g80_0 x1))) ∧ ((0 + ByteArray.size (g129_0 (Int.tdiv x0 (g80_0 x1))) ≤ 9223372036854775807) ∧ ((ByteArray.size (ByteArray.mk #[] ++ g129_0 (Int.tdiv x0 (g80_0 x1))) + 1 ≤ 9223372036854775807) ∧ ((1 ≤ (↑(ByteArray.size (g129_0 (Int.tmod x0 (g80_0 x1) + g80_0 x1))) : Int)) ∧ ((ByteArray.size (ByteArray.mk #[] ++ g129_0 (Int.tdiv x0 (g80_0 x1)) ++ ByteArray.mk #[46]) + ByteArray.size (ByteArray.extract (g129_0 (Int.tmod x0 (g80_0 x1) + g80_0 x1)) 1 (Int.toNat (↑(ByteArray.size (g129_0 (Int.tmod x0 (g80_0 x1) + g80_0 x1))) : Int))) ≤ 9223372036854775807) ∧ True)))))))))
def g82_0 (x0 : Int) (x1 : Int) : ByteArray := (if (Decidable.decide (x0 < 0)) = true then ByteArray.mk #[45] ++ g129_0 (Int.tdiv (0 - x0) (g80_0 x1)) ++ ByteArray.mk #[46] ++ ByteArray.extract (g129_0 (Int.tmod (0 - x0) (g80_0 x1) + g80_0 x1)) 1 (Int.toNat (↑(ByteArray.size (g129_0 (Int.tmod (0 - x0) (g80_0 x1) + g80_0 x1))) : Int)) else ByteArray.mk #[] ++ g129_0 (Int.tdiv x0 (g80_0 x1)) ++ ByteArray.mk #[46] ++ ByteArray.extract (g129_0 (Int.tmod x0 (g80_0 x1) + g80_0 x1)) 1 (Int.toNat (↑(ByteArray.size (g129_0 (Int.tmod x0 (g80_0 x1) + g80_0 x1))) : Int)))
theorem p82_0 (x0 : Int) (x1 : Int) : runF tab ext82 false 30 [] 2000 [] tys82 Tryd.f82.results [true] [.code b82] (entE 0 0 sig82 (x0, x1, ())) (entL sig82 (x0, x1, ())) = some ([Dyn.mk Ty.str (ByteArray.mk #[45] ++ g129_0 (Int.tdiv (0 - x0) (g80_0 x1)) ++ ByteArray.mk #[46] ++ ByteArray.extract (g129_0 (Int.tmod (0 - x0) (g80_0 x1) + g80_0 x1)) 1 (Int.toNat (↑(ByteArray.size (g129_0 (Int.tmod (0 - x0) (g80_0 x1) + g80_0 x1))) : Int)))], [], [Decidable.decide (x0 < 0) = Bool.true, InR IntKind.i64 (0 - x0), P80 x1, g80_0 x1 ≠ 0, InR IntKind.i64 (Int.tmod (0 - x0) (g80_0 x1)), InR IntKind.i64 (Int.tmod (0 - x0) (g80_0 x1) + g80_0 x1), True, g80_0 x1 ≠ 0, InR IntKind.i64 (Int.tdiv (0 - x0) (g80_0 x1)), True, 1 + ByteArray.size (g129_0 (Int.tdiv (0 - x0) (g80_0 x1))) ≤ 9223372036854775807, ByteArray.size (ByteArray.mk #[45] ++ g129_0 (Int.tdiv (0 - x0) (g80_0 x1))) + 1 ≤ 9223372036854775807, (0 : Int) ≤ (1 : Int), 1 ≤ (↑(ByteArray.size (g129_0 (Int.tmod (0 - x0) (g80_0 x1) + g80_0 x1))) : Int), ByteArray.size (ByteArray.mk #[45] ++ g129_0 (Int.tdiv (0 - x0) (g80_0 x1)) ++ ByteArray.mk #[46]) + ByteArray.size (ByteArray.extract (g129_0 (Int.tmod (0 - x0) (g80_0 x1) + g80_0 x1)) 1 (Int.toNat (↑(ByteArray.size (g129_0 (Int.tmod (0 - x0) (g80_0 x1) + g80_0 x1))) : Int))) ≤ 9223372036854775807]) := by kernel_rfl
theorem p82_1 (x0 : Int) (x1 : Int) : runF tab ext82 false 30 [] 2000 [] tys82 Tryd.f82.results [false] [.code b82] (entE 0 0 sig82 (x0, x1, ())) (entL sig82 (x0, x1, ())) = some ([Dyn.mk Ty.str (ByteArray.mk #[] ++ g129_0 (Int.tdiv x0 (g80_0 x1)) ++ ByteArray.mk #[46] ++ ByteArray.extract (g129_0 (Int.tmod x0 (g80_0 x1) + g80_0 x1)) 1 (Int.toNat (↑(ByteArray.size (g129_0 (Int.tmod x0 (g80_0 x1) + g80_0 x1))) : Int)))], [], [Decidable.decide (x0 < 0) = Bool.false, P80 x1, g80_0 x1 ≠ 0, InR IntKind.i64 (Int.tmod x0 (g80_0 x1)), InR IntKind.i64 (Int.tmod x0 (g80_0 x1) + g80_0 x1), True, g80_0 x1 ≠ 0, InR IntKind.i64 (Int.tdiv x0 (g80_0 x1)), True, 0 + ByteArray.size (g129_0 (Int.tdiv x0 (g80_0 x1))) ≤ 9223372036854775807, ByteArray.size (ByteArray.mk #[] ++ g129_0 (Int.tdiv x0 (g80_0 x1))) + 1 ≤ 9223372036854775807, (0 : Int) ≤ (1 : Int), 1 ≤ (↑(ByteArray.size (g129_0 (Int.tmod x0 (g80_0 x1) + g80_0 x1))) : Int), ByteArray.size (ByteArray.mk #[] ++ g129_0 (Int.tdiv x0 (g80_0 x1)) ++ ByteArray.mk #[46]) + ByteArray.size (ByteArray.extract (g129_0 (Int.tmod x0 (g80_0 x1) + g80_0 x1)) 1 (Int.toNat (↑(ByteArray.size (g129_0 (Int.tmod x0 (g80_0 x1) + g80_0 x1))) : Int))) ≤ 9223372036854775807]) := by kernel_rfl
theorem at82 (x0 : Int) (x1 : Int) (h : P82 x0 x1) (w0 : World) (O : List Nat) (q : Nat → Value) : AtV Tryd.prog 82 (PostR [⟨Ty.str, g82_0 x0 x1⟩] [] [] q w0 O) 30 w0 O q [] [.code b82] (entE 0 0 sig82 (x0, x1, ())) (entL sig82 (x0, x1, ())) := by
  unfold P82 at h
  unfold g82_0
  by_cases b0 : (Decidable.decide (x0 < 0)) = true
  · try simp only [if_pos b0] at h ⊢
    obtain ⟨s0, h⟩ := h
    obtain ⟨s1, h⟩ := h
    obtain ⟨s2, s3, h⟩ := h
    obtain ⟨s4, h⟩ := h
    obtain ⟨s5, s6, h⟩ := h
    obtain ⟨s7, h⟩ := h
    obtain ⟨s8, h⟩ := h
    obtain ⟨s9, h⟩ := h
    obtain ⟨s10, h⟩ := h
    exact AtV.fin Tryd.func82 tabOk ext82Ok mixed (p82_0 x0 x1) ⟨b0, s0, s1, s2, s3, s4, trivial, s5, s6, trivial, s7, s8, (by decide), s9, s10, trivial⟩
  · try simp only [if_neg b0] at h ⊢
    replace b0 := Bool.eq_false_iff.2 b0
    obtain ⟨s0, h⟩ := h
    obtain ⟨s1, s2, h⟩ := h
    obtain ⟨s3, h⟩ := h
    obtain ⟨s4, s5, h⟩ := h
    obtain ⟨s6, h⟩ := h
    obtain ⟨s7, h⟩ := h
    obtain ⟨s8, h⟩ := h
    obtain ⟨s9, h⟩ := h
    exact AtV.fin Tryd.func82 tabOk ext82Ok mixed (p82_1 x0 x1) ⟨b0, s0, s1, s2, s3, trivial, s4, s5, trivial, s6, s7, (by decide), s8, s9, trivial⟩

def S82 : Am.Spec := { sig := sig82, pre := fun ⟨x0, x1, _⟩ => P82 x0 x1, res := fun ⟨x0, x1, _⟩ => [⟨Ty.str, g82_0 x0 x1⟩] }
theorem con82 : Contract Tryd.prog 82 S82 := contract_of Tryd.func82 hb82 (Nat.le_of_ble_eq_true (by kernel_rfl)) (fun ⟨x0, x1, _⟩ h _ w0 O q => at82 x0 x1 h w0 O q)


end Go.Proofs.YtakodkjcmacofaaDoor

/- Function 26 (spec.ReadFixed): its runs between cut points. Written by a program of this repo (gen). -/
set_option linter.unusedVariables false
set_option linter.unusedSimpArgs false
set_option maxRecDepth 100000
namespace Go.Proofs.YtakodkjcmacofaaDoor
open Go Go.Am Go.Proofs
def ext26 : Ext := [(79, S79), (63, S63), (80, S80), (81, S81), (82, S82)]
theorem call26_79 : Callable Tryd.prog 79 := ⟨Tryd.f79, Tryd.func79, by kernel_rfl, by kernel_rfl⟩
theorem call26_63 : Callable Tryd.prog 63 := ⟨Tryd.f63, Tryd.func63, by kernel_rfl, by kernel_rfl⟩
theorem call26_80 : Callable Tryd.prog 80 := ⟨Tryd.f80, Tryd.func80, by kernel_rfl, by kernel_rfl⟩
theorem call26_81 : Callable Tryd.prog 81 := ⟨Tryd.f81, Tryd.func81, by kernel_rfl, by kernel_rfl⟩
theorem call26_82 : Callable Tryd.prog 82 := ⟨Tryd.f82, Tryd.func82, by kernel_rfl, by kernel_rfl⟩
theorem ext26Ok : ExtOk Tryd.prog ext26 := ⟨⟨call26_79, con79⟩, ⟨call26_63, con63⟩, ⟨call26_80, con80⟩, ⟨call26_81, con81⟩, ⟨call26_82, con82⟩, trivial⟩
/-! Function 26. -/
noncomputable def b26 : Code := bodyOf Tryd.f26
theorem hb26 : Tryd.f26.body = some b26 := by kernel_rfl
def sig26 : List AT := [AT.v (Ty.str), AT.v (Ty.int IntKind.i64)]
def tys26 : List Ty := [Ty.int IntKind.i64, Ty.bool]
def P26 (x0 : ByteArray) (x1 : Int) : Prop := (if (!g79_0 x1) = true then True else (if (Decidable.decide ((↑(ByteArray.size x0) : Int) > 20)) = true then True else ((InR IntKind.i64 (x1 + 2)) ∧ (if (Decidable.decide ((↑(ByteArray.size x0) : Int) < x1 + 2)) = true then True else ((InR IntKind.i64 ((↑(ByteArray.size x0) : Int) - x1)) ∧ ((InR IntKind.i64 ((↑(ByteArray.size x0) : Int) - x1 - 1)) ∧ ((0 < (↑(ByteArray.size x0) : Int)) ∧ (if ((↑(UInt8.toNat (List.getD (Array.toList (ByteArray.data x0)) 0 0)) : Int) == 45) = true then ((0 ≤ (↑(ByteArray.size x0) : Int) - x1 - 1) ∧ ((↑(ByteArray.size x0) : Int) - x1 - 1 < (↑(ByteArray.size x0) : Int)) ∧ (if ((↑(UInt8.toNat (List.getD (Array.toList (ByteArray.data x0)) (Int.toNat ((↑(ByteArray.size x0) : Int) - x1 - 1)) 0)) : Int) != 46) = true then True else (if (Decidable.decide ((↑(ByteArray.size x0) : Int) - x1 - 1 ≤ 1)) = true then True else ((1 ≤ (↑(ByteArray.size x0) : Int) - x1 - 1) ∧ ((↑(ByteArray.size x0) : Int) - x1 - 1 ≤ (↑(ByteArray.size x0) : Int)) ∧ ((P63 (ByteArray.extract x0 1 (Int.toNat ((↑(ByteArray.size x0) : Int) - x1 - 1)))) ∧ ((InR IntKind.i64 ((↑(ByteArray.size x0) : Int) - x1 - 1 + 1)) ∧ ((0 ≤ (↑(ByteArray.size x0) : Int) - x1 - 1 + 1) ∧ ((↑(ByteArray.size x0) : Int) - x1 - 1 + 1 ≤ (↑(ByteArray.size x0) : Int)) ∧ ((P63 (ByteArray.extract x0 (Int.toNat ((↑(ByteArray.size x0) : Int) - x1 - 1 + 1)) (Int.toNat (↑(ByteArray.size x0) : Int)))) ∧ (if (!g63_1 (ByteArray.extract x0 1 (Int.toNat ((↑(ByteArray.size x0) : Int) - x1 - 1)))) = true then True else (if (!g63_1 (ByteArray.extract x0 (Int.toNat ((↑(ByteArray.size x0) : Int) - x1 - 1 + 1)) (Int.toNat (↑(ByteArray.size x0) : Int)))) = true then True else (if (Decidable.decide (g63_0 (ByteArray.extract x0 1 (Int.toNat ((↑(ByteArray.size x0) : Int) - x1 - 1))) > 1000000000)) = true then True else ((P80 x1) ∧ ((InR IntKind.i64 (g63_0 (ByteArray.extract x0 1 (Int.toNat ((↑(ByteArray.size x0) : Int) - x1 - 1))) * g80_0 x1)) ∧ ((InR IntKind.i64 (g63_0 (ByteArray.extract x0 1 (Int.toNat ((↑(ByteArray.size x0) : Int) - x1 - 1))) * g80_0 x1 + g63_0 (ByteArray.extract x0 (Int.toNat ((↑(ByteArray.size x0) : Int) - x1 - 1 + 1)) (Int.toNat (↑(ByteArray.size x0) : Int))))) ∧ ((InR IntKind.i64 (-1 * (g63_0 (ByteArray.extract x0 1 (Int.toNat ((↑(ByteArray.size x0) : Int) - x1 - 1))) * g80_0 x1 + g63_0 (ByteArray.extract x0 (Int.toNat ((↑(ByteArray.size x0) : Int) - x1 - 1 + 1)) (Int.toNat (↑(ByteArray.size x0) : Int)))))) ∧ (if (!g81_0 (-1 * (g63_0 (ByteArray.extract x0 1 (Int.toNat ((↑(ByteArray.size x0) : Int) - x1 - 1))) * g80_0 x1 + g63_0 (ByteArray.extract x0 (Int.toNat ((↑(ByteArray.size x0) : Int) - x1 - 1 + 1)) (Int.toNat (↑(ByteArray.size x0) : Int)))))) = true then True else ((P82 (-1 * (g63_0 (ByteArray.extract x0 1 (Int.toNat ((↑(ByteArray.size x0) : Int) - x1 - 1))) * g80_0 x1 + g63_0 (ByteArray.extract x0 (Int.toNat ((↑(ByteArray.size x0) : Int) - x1 - 1 + 1)) (Int.toNat (↑(ByteArray.size x0) : Int))))) x1) ∧ True))))))))))))))))) else ((0 ≤ (↑(ByteArray.size x0) : Int) - x1 - 1) ∧ ((↑(ByteArray.size x0) : Int) - x1 - 1 < (↑(ByteArray.size x0) : Int)) ∧ (if ((↑(UInt8.toNat (List.getD (Array.toList (ByteArray.data x0)) (Int.toNat ((↑(ByteArray.size x0) : Int) - x1 - 1)) 0)) : Int) != 46) = true then True else (if (Decidable.decide ((↑(ByteArray.size x0) : Int) - x1 - 1 ≤ 0)) = true then True else ((0 ≤ (↑(ByteArray.size x0) : Int) - x1 - 1) ∧ ((↑(ByteArray.size x0) : Int) - x1 - 1 ≤ (↑(ByteArray.size x0) : Int)) ∧ ((P63 (ByteArray.extract x0 0 (Int.toNat ((↑(ByteArray.size x0) : Int) - x1 - 1)))) ∧ ((InR IntKind.i64 ((↑(ByteArray.size x0) : Int) - x1 - 1 + 1)) ∧ ((0 ≤ (↑(ByteArray.size x0) : Int) - x1 - 1 + 1) ∧ ((↑(ByteArray.size x0) : Int) - x1 - 1 + 1 ≤ (↑(ByteArray.size x0) : Int)) ∧ ((P63 (ByteArray.extract x0 (Int.toNat ((↑(ByteArray.size x0) : Int) - x1 - 1 + 1)) (Int.toNat (↑(ByteArray.size x0) : Int)))) ∧ (if (!g63_1 (ByteArray.extract x0 0 (Int.toNat ((↑(ByteArray.size x0) : Int) - x1 - 1)))) = true then True else (if (!g63_1 (ByteArray.extract x0 (Int.toNat ((↑(ByteArray.size x0) : Int) - x1 - 1 + 1)) (Int.toNat (↑(ByteArray.size x0) : Int)))) = true then True else (if (Decidable.decide (g63_0 (ByteArray.extract x0 0 (Int.toNat ((↑(ByteArray.size x0) : Int) - x1 - 1))) > 1000000000)) = true then True else ((P80 x1) ∧ ((InR IntKind.i64 (g63_0 (ByteArray.extract x0 0 (Int.toNat ((↑(ByteArray.size x0) : Int) - x1 - 1))) * g80_0 x1)) ∧ ((InR IntKind.i64 (g63_0 (ByteArray.extract x0 0 (Int.toNat ((↑(ByteArray.size x0) : Int) - x1 - 1))) * g80_0 x1 + g63_0 (ByteArray.extract x0 (Int.toNat ((↑(ByteArray.size x0) : Int) - x1 - 1 + 1)) (Int.toNat (↑(ByteArray.size x0) : Int))))) ∧ ((InR IntKind.i64 (1 * (g63_0 (ByteArray.extract x0 0 (Int.toNat ((↑(ByteArray.size x0) : Int) - x1 - 1))) * g80_0 x1 + g63_0 (ByteArray.extract x0 (Int.toNat ((↑(ByteArray.size x0) : Int) - x1 - 1 + 1)) (Int.toNat (↑(ByteArray.size x0) : Int)))))) ∧ (if (!g81_0 (1 * (g63_0 (ByteArray.extract x0 0 (Int.toNat ((↑(ByteArray.size x0) : Int) - x1 - 1))) * g80_0 x1 + g63_0 (ByteArray.extract x0 (Int.toNat ((↑(ByteArray.size x0) : Int) - x1 - 1 + 1)) (Int.toNat (↑(ByteArray.size x0) : Int)))))) = true then True else ((P82 (1 * (g63_0 (ByteArray.extract x0 0 (Int.toNat ((↑(ByteArray.size x0) : Int) - x1 - 1))) * g80_0 x1 + g63_0 (ByteArray.extract x0 (Int.toNat ((↑(ByteArray.size x0) : Int) - x1 - 1 + 1)) (Int.toNat (↑(ByteArray.size x0) : Int))))) x1) ∧ True)))))))))))))))))))))))))
def g26_0 (x0 : ByteArray) (x1 : Int) : Int := (if (!g79_0 x1) = true then 0 else (if (Decidable.decide ((↑(ByteArray.size x0) : Int) > 20)) = true then 0 else (if (Decidable.decide ((↑(ByteArray.size x0) : Int) < x1 + 2)) = true then 0 else (if ((↑(UInt8.toNat (List.getD (Array.toList (ByteArray.data x0)) 0 0)) : Int) == 45) = true then (if ((↑(UInt8.toNat (List.getD (Array.toList (ByteArray.data x0)) (Int.toNat ((↑(ByteArray.size x0) : Int) - x1 - 1)) 0)) : Int) != 46) = true then 0 else (if (Decidable.decide ((↑(ByteArray.size x0) : Int) - x1 - 1 ≤ 1)) = true then 0 else (if (!g63_1 (ByteArray.extract x0 1 (Int.toNat ((↑(ByteArray.size x0) : Int) - x1 - 1)))) = true then 0 else (if (!g63_1 (ByteArray.extract x0 (Int.toNat ((↑(ByteArray.size x0) : Int) - x1 - 1 + 1)) (Int.toNat (↑(ByteArray.size x0) : Int)))) = true then 0 else (if (Decidable.decide (g63_0 (ByteArray.extract x0 1 (Int.toNat ((↑(ByteArray.size x0) : Int) - x1 - 1))) > 1000000000)) = true then 0 else (if (!g81_0 (-1 * (g63_0 (ByteArray.extract x0 1 (Int.toNat ((↑(ByteArray.size x0) : Int) - x1 - 1))) * g80_0 x1 + g63_0 (ByteArray.extract x0 (Int.toNat ((↑(ByteArray.size x0) : Int) - x1 - 1 + 1)) (Int.toNat (↑(ByteArray.size x0) : Int)))))) = true then 0 else (if (!ByteArray.toList (g82_0 (-1 * (g63_0 (ByteArray.extract x0 1 (Int.toNat ((↑(ByteArray.size x0) : Int) - x1 - 1))) * g80_0 x1 + g63_0 (ByteArray.extract x0 (Int.toNat ((↑(ByteArray.size x0) : Int) - x1 - 1 + 1)) (Int.toNat (↑(ByteArray.size x0) : Int))))) x1) == ByteArray.toList x0) = true then 0 else -1 * (g63_0 (ByteArray.extract x0 1 (Int.toNat ((↑(ByteArray.size x0) : Int) - x1 - 1))) * g80_0 x1 + g63_0 (ByteArray.extract x0 (Int.toNat ((↑(ByteArray.size x0) : Int) - x1 - 1 + 1)) (Int.toNat (↑(ByteArray.size x0) : Int))))))))))) else (if ((↑(UInt8.toNat (List.getD (Array.toList (ByteArray.data x0)) (Int.toNat ((↑(ByteArray.size x0) : Int) - x1 - 1)) 0)) : Int) != 46) = true then 0 else (if (Decidable.decide ((↑(ByteArray.size x0) : Int) - x1 - 1 ≤ 0)) = true then 0 else (if (!g63_1 (ByteArray.extract x0 0 (Int.toNat ((↑(ByteArray.size x0) : Int) - x1 - 1)))) = true then 0 else (if (!g63_1 (ByteArray.extract x0 (Int.toNat ((↑(ByteArray.size x0) : Int) - x1 - 1 + 1)) (Int.toNat (↑(ByteArray.size x0) : Int)))) = true then 0 else (if (Decidable.decide (g63_0 (ByteArray.extract x0 0 (Int.toNat ((↑(ByteArray.size x0) : Int) - x1 - 1))) > 1000000000)) = true then 0 else (if (!g81_0 (1 * (g63_0 (ByteArray.extract x0 0 (Int.toNat ((↑(ByteArray.size x0) : Int) - x1 - 1))) * g80_0 x1 + g63_0 (ByteArray.extract x0 (Int.toNat ((↑(ByteArray.size x0) : Int) - x1 - 1 + 1)) (Int.toNat (↑(ByteArray.size x0) : Int)))))) = true then 0 else (if (!ByteArray.toList (g82_0 (1 * (g63_0 (ByteArray.extract x0 0 (Int.toNat ((↑(ByteArray.size x0) : Int) - x1 - 1))) * g80_0 x1 + g63_0 (ByteArray.extract x0 (Int.toNat ((↑(ByteArray.size x0) : Int) - x1 - 1 + 1)) (Int.toNat (↑(ByteArray.size x0) : Int))))) x1) == ByteArray.toList x0) = true then 0 else 1 * (g63_0 (ByteArray.extract x0 0 (Int.toNat ((↑(ByteArray.size x0) : Int) - x1 - 1))) * g80_0 x1 + g63_0 (ByteArray.extract x0 (Int.toNat ((↑(ByteArray.size x0) : Int) - x1 - 1 + 1)) (Int.toNat (↑(ByteArray.size x0) : Int)))))))))))))))
def g26_1 (x0 : ByteArray) (x1 : Int) : Bool := (if (!g79_0 x1) = true then Bool.false else (if (Decidable.decide ((↑(ByteArray.size x0) : Int) > 20)) = true then Bool.false else (if (Decidable.decide ((↑(ByteArray.size x0) : Int) < x1 + 2)) = true then Bool.false else (if ((↑(UInt8.toNat (List.getD (Array.toList (ByteArray.data x0)) 0 0)) : Int) == 45) = true then (if ((↑(UInt8.toNat (List.getD (Array.toList (ByteArray.data x0)) (Int.toNat ((↑(ByteArray.size x0) : Int) - x1 - 1)) 0)) : Int) != 46) = true then Bool.false else (if (Decidable.decide ((↑(ByteArray.size x0) : Int) - x1 - 1 ≤ 1)) = true then Bool.false else (if (!g63_1 (ByteArray.extract x0 1 (Int.toNat ((↑(ByteArray.size x0) : Int) - x1 - 1)))) = true then Bool.false else (if (!g63_1 (ByteArray.extract x0 (Int.toNat ((↑(ByteArray.size x0) : Int) - x1 - 1 + 1)) (Int.toNat (↑(ByteArray.size x0) : Int)))) = true then Bool.false else (if (Decidable.decide (g63_0 (ByteArray.extract x0 1 (Int.toNat ((↑(ByteArray.size x0) : Int) - x1 - 1))) > 1000000000)) = true then Bool.false else (if (!g81_0 (-1 * (g63_0 (ByteArray.extract x0 1 (Int.toNat ((↑(ByteArray.size x0) : Int) - x1 - 1))) * g80_0 x1 + g63_0 (ByteArray.extract x0 (Int.toNat ((↑(ByteArray.size x0) : Int) - x1 - 1 + 1)) (Int.toNat (↑(ByteArray.size x0) : Int)))))) = true then Bool.false else (if (!ByteArray.toList (g82_0 (-1 * (g63_0 (ByteArray.extract x0 1 (Int.toNat ((↑(ByteArray.size x0) : Int) - x1 - 1))) * g80_0 x1 + g63_0 (ByteArray.extract x0 (Int.toNat ((↑(ByteArray.size x0) : Int) - x1 - 1 + 1)) (Int.toNat (↑(ByteArray.size x0) : Int))))) x1) == ByteArray.toList x0) = true then Bool.false else Bool.true))))))) else (if ((↑(UInt8.toNat (List.getD (Array.toList (ByteArray.data x0)) (Int.toNat ((↑(ByteArray.size x0) : Int) - x1 - 1)) 0)) : Int) != 46) = true then Bool.false else (if (Decidable.decide ((↑(ByteArray.size x0) : Int) - x1 - 1 ≤ 0)) = true then Bool.false else (if (!g63_1 (ByteArray.extract x0 0 (Int.toNat ((↑(ByteArray.size x0) : Int) - x1 - 1)))) = true then Bool.false else (if (!g63_1 (ByteArray.extract x0 (Int.toNat ((↑(ByteArray.size x0) : Int) - x1 - 1 + 1)) (Int.toNat (↑(ByteArray.size x0) : Int)))) = true then Bool.false else (if (Decidable.decide (g63_0 (ByteArray.extract x0 0 (Int.toNat ((↑(ByteArray.size x0) : Int) - x1 - 1))) > 1000000000)) = true then Bool.false else (if (!g81_0 (1 * (g63_0 (ByteArray.extract x0 0 (Int.toNat ((↑(ByteArray.size x0) : Int) - x1 - 1))) * g80_0 x1 + g63_0 (ByteArray.extract x0 (Int.toNat ((↑(ByteArray.size x0) : Int) - x1 - 1 + 1)) (Int.toNat (↑(ByteArray.size x0) : Int)))))) = true then Bool.false else (if (!ByteArray.toList (g82_0 (1 * (g63_0 (ByteArray.extract x0 0 (Int.toNat ((↑(ByteArray.size x0) : Int) - x1 - 1))) * g80_0 x1 + g63_0 (ByteArray.extract x0 (Int.toNat ((↑(ByteArray.size x0) : Int) - x1 - 1 + 1)) (Int.toNat (↑(ByteArray.size x0) : Int))))) x1) == ByteArray.toList x0) = true then Bool.false else Bool.true)))))))))))
theorem p26_0 (x0 : ByteArray) (x1 : Int) : runF tab ext26 false 91 [] 2000 [] tys26 Tryd.f26.results [true, true, true] [.code b26] (entE 0 0 sig26 (x0, x1, ())) (entL sig26 (x0, x1, ())) = some ([Dyn.mk (Ty.int IntKind.i64) 0, Dyn.mk Ty.bool Bool.false], [], [True, (!g79_0 x1) = Bool.true, Bool.true = Bool.true, Bool.true = Bool.true]) := by kernel_rfl
theorem p26_1 (x0 : ByteArray) (x1 : Int) : runF tab ext26 false 91 [] 2000 [] tys26 Tryd.f26.results [false, true, true] [.code b26] (entE 0 0 sig26 (x0, x1, ())) (entL sig26 (x0, x1, ())) = some ([Dyn.mk (Ty.int IntKind.i64) 0, Dyn.mk Ty.bool Bool.false], [], [True, (!g79_0 x1) = Bool.false, Decidable.decide ((↑(ByteArray.size x0) : Int) > 20) = Bool.true, Bool.true = Bool.true]) := by kernel_rfl
theorem p26_2 (x0 : ByteArray) (x1 : Int) : runF tab ext26 false 91 [] 2000 [] tys26 Tryd.f26.results [false, false, true] [.code b26] (entE 0 0 sig26 (x0, x1, ())) (entL sig26 (x0, x1, ())) = some ([Dyn.mk (Ty.int IntKind.i64) 0, Dyn.mk Ty.bool Bool.false], [], [True, (!g79_0 x1) = Bool.false, Decidable.decide ((↑(ByteArray.size x0) : Int) > 20) = Bool.false, InR IntKind.i64 (x1 + 2), Decidable.decide ((↑(ByteArray.size x0) : Int) < x1 + 2) = Bool.true]) := by kernel_rfl
theorem p26_3 (x0 : ByteArray) (x1 : Int) : runF tab ext26 false 91 [] 2000 [] tys26 Tryd.f26.results [false, false, false, true, true, true] [.code b26] (entE 0 0 sig26 (x0, x1, ())) (entL sig26 (x0, x1, ())) = some ([Dyn.mk (Ty.int IntKind.i64) 0, Dyn.mk Ty.bool Bool.false], [], [True, (!g79_0 x1) = Bool.false, Decidable.decide ((↑(ByteArray.size x0) : Int) > 20) = Bool.false, InR IntKind.i64 (x1 + 2), Decidable.decide ((↑(ByteArray.size x0) : Int) < x1 + 2) = Bool.false, InR IntKind.i64 ((↑(ByteArray.size x0) : Int) - x1), InR IntKind.i64 ((↑(ByteArray.size x0) : Int) - x1 - 1), (0 : Int) ≤ (0 : Int), 0 < (↑(ByteArray.size x0) : Int), ((↑(UInt8.toNat (List.getD (Array.toList (ByteArray.data x0)) 0 0)) : Int) == 45) = Bool.true, 0 ≤ (↑(ByteArray.size x0) : Int) - x1 - 1, (↑(ByteArray.size x0) : Int) - x1 - 1 < (↑(ByteArray.size x0) : Int), ((↑(UInt8.toNat (List.getD (Array.toList (ByteArray.data x0)) (Int.toNat ((↑(ByteArray.size x0) : Int) - x1 - 1)) 0)) : Int) != 46) = Bool.true, Bool.true = Bool.true]) := by kernel_rfl
theorem p26_4 (x0 : ByteArray) (x1 : Int) : runF tab ext26 false 91 [] 2000 [] tys26 Tryd.f26.results [false, false, false, true, false, true] [.code b26] (entE 0 0 sig26 (x0, x1, ())) (entL sig26 (x0, x1, ())) = some ([Dyn.mk (Ty.int IntKind.i64) 0, Dyn.mk Ty.bool Bool.false], [], [True, (!g79_0 x1) = Bool.false, Decidable.decide ((↑(ByteArray.size x0) : Int) > 20) = Bool.false, InR IntKind.i64 (x1 + 2), Decidable.decide ((↑(ByteArray.size x0) : Int) < x1 + 2) = Bool.false, InR IntKind.i64 ((↑(ByteArray.size x0) : Int) - x1), InR IntKind.i64 ((↑(ByteArray.size x0) : Int) - x1 - 1), (0 : Int) ≤ (0 : Int), 0 < (↑(ByteArray.size x0) : Int), ((↑(UInt8.toNat (List.getD (Array.toList (ByteArray.data x0)) 0 0)) : Int) == 45) = Bool.true, 0 ≤ (↑(ByteArray.size x0) : Int) - x1 - 1, (↑(ByteArray.size x0) : Int) - x1 - 1 < (↑(ByteArray.size x0) : Int), ((↑(UInt8.toNat (List.getD (Array.toList (ByteArray.data x0)) (Int.toNat ((↑(ByteArray.size x0) : Int) - x1 - 1)) 0)) : Int) != 46) = Bool.false, Decidable.decide ((↑(ByteArray.size x0) : Int) - x1 - 1 ≤ 1) = Bool.true]) := by kernel_rfl
theorem p26_5 (x0 : ByteArray) (x1 : Int) : runF tab ext26 false 91 [] 2000 [] tys26 Tryd.f26.results [false, false, false, true, false, false, true, true, true] [.code b26] (entE 0 0 sig26 (x0, x1, ())) (entL sig26 (x0, x1, ())) = some ([Dyn.mk (Ty.int IntKind.i64) 0, Dyn.mk Ty.bool Bool.false], [], [True, (!g79_0 x1) = Bool.false, Decidable.decide ((↑(ByteArray.size x0) : Int) > 20) = Bool.false, InR IntKind.i64 (x1 + 2), Decidable.decide ((↑(ByteArray.size x0) : Int) < x1 + 2) = Bool.false, InR IntKind.i64 ((↑(ByteArray.size x0) : Int) - x1), InR IntKind.i64 ((↑(ByteArray.size x0) : Int) - x1 - 1), (0 : Int) ≤ (0 : Int), 0 < (↑(ByteArray.size x0) : Int), ((↑(UInt8.toNat (List.getD (Array.toList (ByteArray.data x0)) 0 0)) : Int) == 45) = Bool.true, 0 ≤ (↑(ByteArray.size x0) : Int) - x1 - 1, (↑(ByteArray.size x0) : Int) - x1 - 1 < (↑(ByteArray.size x0) : Int), ((↑(UInt8.toNat (List.getD (Array.toList (ByteArray.data x0)) (Int.toNat ((↑(ByteArray.size x0) : Int) - x1 - 1)) 0)) : Int) != 46) = Bool.false, Decidable.decide ((↑(ByteArray.size x0) : Int) - x1 - 1 ≤ 1) = Bool.false, (0 : Int) ≤ (1 : Int), 1 ≤ (↑(ByteArray.size x0) : Int) - x1 - 1, (↑(ByteArray.size x0) : Int) - x1 - 1 ≤ (↑(ByteArray.size x0) : Int), P63 (ByteArray.extract x0 1 (Int.toNat ((↑(ByteArray.size x0) : Int) - x1 - 1))), InR IntKind.i64 ((↑(ByteArray.size x0) : Int) - x1 - 1 + 1), 0 ≤ (↑(ByteArray.size x0) : Int) - x1 - 1 + 1, (↑(ByteArray.size x0) : Int) - x1 - 1 + 1 ≤ (↑(ByteArray.size x0) : Int), P63 (ByteArray.extract x0 (Int.toNat ((↑(ByteArray.size x0) : Int) - x1 - 1 + 1)) (Int.toNat (↑(ByteArray.size x0) : Int))), (!g63_1 (ByteArray.extract x0 1 (Int.toNat ((↑(ByteArray.size x0) : Int) - x1 - 1)))) = Bool.true, Bool.true = Bool.true, Bool.true = Bool.true]) := by kernel_rfl
theorem p26_6 (x0 : ByteArray) (x1 : Int) : runF tab ext26 false 91 [] 2000 [] tys26 Tryd.f26.results [false, false, false, true, false, false, false, true, true] [.code b26] (entE 0 0 sig26 (x0, x1, ())) (entL sig26 (x0, x1, ())) = some ([Dyn.mk (Ty.int IntKind.i64) 0, Dyn.mk Ty.bool Bool.false], [], [True, (!g79_0 x1) = Bool.false, Decidable.decide ((↑(ByteArray.size x0) : Int) > 20) = Bool.false, InR IntKind.i64 (x1 + 2), Decidable.decide ((↑(ByteArray.size x0) : Int) < x1 + 2) = Bool.false, InR IntKind.i64 ((↑(ByteArray.size x0) : Int) - x1), InR IntKind.i64 ((↑(ByteArray.size x0) : Int) - x1 - 1), (0 : Int) ≤ (0 : Int), 0 < (↑(ByteArray.size x0) : Int), ((↑(UInt8.toNat (List.getD (Array.toList (ByteArray.data x0)) 0 0)) : Int) == 45) = Bool.true, 0 ≤ (↑(ByteArray.size x0) : Int) - x1 - 1, (↑(ByteArray.size x0) : Int) - x1 - 1 < (↑(ByteArray.size x0) : Int), ((↑(UInt8.toNat (List.getD (Array.toList (ByteArray.data x0)) (Int.toNat ((↑(ByteArray.size x0) : Int) - x1 - 1)) 0)) : Int) != 46) = Bool.false, Decidable.decide ((↑(ByteArray.size x0) : Int) - x1 - 1 ≤ 1) = Bool.false, (0 : Int) ≤ (1 : Int), 1 ≤ (↑(ByteArray.size x0) : Int) - x1 - 1, (↑(ByteArray.size x0) : Int) - x1 - 1 ≤ (↑(ByteArray.size x0) : Int), P63 (ByteArray.extract x0 1 (Int.toNat ((↑(ByteArray.size x0) : Int) - x1 - 1))), InR IntKind.i64 ((↑(ByteArray.size x0) : Int) - x1 - 1 + 1), 0 ≤ (↑(ByteArray.size x0) : Int) - x1 - 1 + 1, (↑(ByteArray.size x0) : Int) - x1 - 1 + 1 ≤ (↑(ByteArray.size x0) : Int), P63 (ByteArray.extract x0 (Int.toNat ((↑(ByteArray.size x0) : Int) - x1 - 1 + 1)) (Int.toNat (↑(ByteArray.size x0) : Int))), (!g63_1 (ByteArray.extract x0 1 (Int.toNat ((↑(ByteArray.size x0) : Int) - x1 - 1)))) = Bool.false, (!g63_1 (ByteArray.extract x0 (Int.toNat ((↑(ByteArray.size x0) : Int) - x1 - 1 + 1)) (Int.toNat (↑(ByteArray.size x0) : Int)))) = Bool.true, Bool.true = Bool.true]) := by kernel_rfl
theorem p26_7 (x0 : ByteArray) (x1 : Int) : runF tab ext26 false 91 [] 2000 [] tys26 Tryd.f26.results [false, false, false, true, false, false, false, false, true] [.code b26] (entE 0 0 sig26 (x0, x1, ())) (entL sig26 (x0, x1, ())) = some ([Dyn.mk (Ty.int IntKind.i64) 0, Dyn.mk Ty.bool Bool.false], [], [True, (!g79_0 x1) = Bool.false, Decidable.decide ((↑(ByteArray.size x0) : Int) > 20) = Bool.false, InR IntKind.i64 (x1 + 2), Decidable.decide ((↑(ByteArray.size x0) : Int) < x1 + 2) = Bool.false, InR IntKind.i64 ((↑(ByteArray.size x0) : Int) - x1), InR IntKind.i64 ((↑(ByteArray.size x0) : Int) - x1 - 1), (0 : Int) ≤ (0 : Int), 0 < (↑(ByteArray.size x0) : Int), ((↑(UInt8.toNat (List.getD (Array.toList (ByteArray.data x0)) 0 0)) : Int) == 45) = Bool.true, 0 ≤ (↑(ByteArray.size x0) : Int) - x1 - 1, (↑(ByteArray.size x0) : Int) - x1 - 1 < (↑(ByteArray.size x0) : Int), ((↑(UInt8.toNat (List.getD (Array.toList (ByteArray.data x0)) (Int.toNat ((↑(ByteArray.size x0) : Int) - x1 - 1)) 0)) : Int) != 46) = Bool.false, Decidable.decide ((↑(ByteArray.size x0) : Int) - x1 - 1 ≤ 1) = Bool.false, (0 : Int) ≤ (1 : Int), 1 ≤ (↑(ByteArray.size x0) : Int) - x1 - 1, (↑(ByteArray.size x0) : Int) - x1 - 1 ≤ (↑(ByteArray.size x0) : Int), P63 (ByteArray.extract x0 1 (Int.toNat ((↑(ByteArray.size x0) : Int) - x1 - 1))), InR IntKind.i64 ((↑(ByteArray.size x0) : Int) - x1 - 1 + 1), 0 ≤ (↑(ByteArray.size x0) : Int) - x1 - 1 + 1, (↑(ByteArray.size x0) : Int) - x1 - 1 + 1 ≤ (↑(ByteArray.size x0) : Int), P63 (ByteArray.extract x0 (Int.toNat ((↑(ByteArray.size x0) : Int) - x1 - 1 + 1)) (Int.toNat (↑(ByteArray.size x0) : Int))), (!g63_1 (ByteArray.extract x0 1 (Int.toNat ((↑(ByteArray.size x0) : Int) - x1 - 1)))) = Bool.false, (!g63_1 (ByteArray.extract x0 (Int.toNat ((↑(ByteArray.size x0) : Int) - x1 - 1 + 1)) (Int.toNat (↑(ByteArray.size x0) : Int)))) = Bool.false, Decidable.decide (g63_0 (ByteArray.extract x0 1 (Int.toNat ((↑(ByteArray.size x0) : Int) - x1 - 1))) > 1000000000) = Bool.true]) := by kernel_rfl
theorem p26_8 (x0 : ByteArray) (x1 : Int) : runF tab ext26 false 91 [] 2000 [] tys26 Tryd.f26.results [false, false, false, true, false, false, false, false, false, true, true] [.code b26] (entE 0 0 sig26 (x0, x1, ())) (entL sig26 (x0, x1, ())) = some ([Dyn.mk (Ty.int IntKind.i64) 0, Dyn.mk Ty.bool Bool.false], [], [True, (!g79_0 x1) = Bool.false, Decidable.decide ((↑(ByteArray.size x0) : Int) > 20) = Bool.false, InR IntKind.i64 (x1 + 2), Decidable.decide ((↑(ByteArray.size x0) : Int) < x1 + 2) = Bool.false, InR IntKind.i64 ((↑(ByteArray.size x0) : Int) - x1), InR IntKind.i64 ((↑(ByteArray.size x0) : Int) - x1 - 1), (0 : Int) ≤ (0 : Int), 0 < (↑(ByteArray.size x0) : Int), ((↑(UInt8.toNat (List.getD (Array.toList (ByteArray.data x0)) 0 0)) : Int) == 45) = Bool.true, 0 ≤ (↑(ByteArray.size x0) : Int) - x1 - 1, (↑(ByteArray.size x0) : Int) - x1 - 1 < (↑(ByteArray.size x0) : Int), ((↑(UInt8.toNat (List.getD (Array.toList (ByteArray.data x0)) (Int.toNat ((↑(ByteArray.size x0) : Int) - x1 - 1)) 0)) : Int) != 46) = Bool.false, Decidable.decide ((↑(ByteArray.size x0) : Int) - x1 - 1 ≤ 1) = Bool.false, (0 : Int) ≤ (1 : Int), 1 ≤ (↑(ByteArray.size x0) : Int) - x1 - 1, (↑(ByteArray.size x0) : Int) - x1 - 1 ≤ (↑(ByteArray.size x0) : Int), P63 (ByteArray.extract x0 1 (Int.toNat ((↑(ByteArray.size x0) : Int) - x1 - 1))), InR IntKind.i64 ((↑(ByteArray.size x0) : Int) - x1 - 1 + 1), 0 ≤ (↑(ByteArray.size x0) : Int) - x1 - 1 + 1, (↑(ByteArray.size x0) : Int) - x1 - 1 + 1 ≤ (↑(ByteArray.size x0) : Int), P63 (ByteArray.extract x0 (Int.toNat ((↑(ByteArray.size x0) : Int) - x1 - 1 + 1)) (Int.toNat (↑(ByteArray.size x0) : Int))), (!g63_1 (ByteArray.extract x0 1 (Int.toNat ((↑(ByteArray.size x0) : Int) - x1 - 1)))) = Bool.false, (!g63_1 (ByteArray.extract x0 (Int.toNat ((↑(ByteArray.size x0) : Int) - x1 - 1 + 1)) (Int.toNat (↑(ByteArray.size x0) : Int)))) = Bool.false, Decidable.decide (g63_0 (ByteArray.extract x0 1 (Int.toNat ((↑(ByteArray.size x0) : Int) - x1 - 1))) > 1000000000) = Bool.false, P80 x1, InR IntKind.i64 (g63_0 (ByteArray.extract x0 1 (Int.toNat ((↑(ByteArray.size x0) : Int) - x1 - 1))) * g80_0 x1), InR IntKind.i64 (g63_0 (ByteArray.extract x0 1 (Int.toNat ((↑(ByteArray.size x0) : Int) - x1 - 1))) * g80_0 x1 + g63_0 (ByteArray.extract x0 (Int.toNat ((↑(ByteArray.size x0) : Int) - x1 - 1 + 1)) (Int.toNat (↑(ByteArray.size x0) : Int)))), InR IntKind.i64 (-1 * (g63_0 (ByteArray.extract x0 1 (Int.toNat ((↑(ByteArray.size x0) : Int) - x1 - 1))) * g80_0 x1 + g63_0 (ByteArray.extract x0 (Int.toNat ((↑(ByteArray.size x0) : Int) - x1 - 1 + 1)) (Int.toNat (↑(ByteArray.size x0) : Int))))), True, (!g81_0 (-1 * (g63_0 (ByteArray.extract x0 1 (Int.toNat ((↑(ByteArray.size x0) : Int) - x1 - 1))) * g80_0 x1 + g63_0 (ByteArray.extract x0 (Int.toNat ((↑(ByteArray.size x0) : Int) - x1 - 1 + 1)) (Int.toNat (↑(ByteArray.size x0) : Int)))))) = Bool.true, Bool.true = Bool.true]) := by kernel_rfl
theorem p26_9 (x0 : ByteArray) (x1 : Int) : runF tab ext26 false 91 [] 2000 [] tys26 Tryd.f26.results [false, false, false, true, false, false, false, false, false, false, true] [.code b26] (entE 0 0 sig26 (x0, x1, ())) (entL sig26 (x0, x1, ())) = some ([Dyn.mk (Ty.int IntKind.i64) 0, Dyn.mk Ty.bool Bool.false], [], [True, (!g79_0 x1) = Bool.false, Decidable.decide ((↑(ByteArray.size x0) : Int) > 20) = Bool.false, InR IntKind.i64 (x1 + 2), Decidable.decide ((↑(ByteArray.size x0) : Int) < x1 + 2) = Bool.false, InR IntKind.i64 ((↑(ByteArray.size x0) : Int) - x1), InR IntKind.i64 ((↑(ByteArray.size x0) : Int) - x1 - 1), (0 : Int) ≤ (0 : Int), 0 < (↑(ByteArray.size x0) : Int), ((↑(UInt8.toNat (List.getD (Array.toList (ByteArray.data x0)) 0 0)) : Int) == 45) = Bool.true, 0 ≤ (↑(ByteArray.size x0) : Int) - x1 - 1, (↑(ByteArray.size x0) : Int) - x1 - 1 < (↑(ByteArray.size x0) : Int), ((↑(UInt8.toNat (List.getD (Array.toList (ByteArray.data x0)) (Int.toNat ((↑(ByteArray.size x0) : Int) - x1 - 1)) 0)) : Int) != 46) = Bool.false, Decidable.decide ((↑(ByteArray.size x0) : Int) - x1 - 1 ≤ 1) = Bool.false, (0 : Int) ≤ (1 : Int), 1 ≤ (↑(ByteArray.size x0) : Int) - x1 - 1, (↑(ByteArray.size x0) : Int) - x1 - 1 ≤ (↑(ByteArray.size x0) : Int), P63 (ByteArray.extract x0 1 (Int.toNat ((↑(ByteArray.size x0) : Int) - x1 - 1))), InR IntKind.i64 ((↑(ByteArray.size x0) : Int) - x1 - 1 + 1), 0 ≤ (↑(ByteArray.size x0) : Int) - x1 - 1 + 1, (↑(ByteArray.size x0) : Int) - x1 - 1 + 1 ≤ (↑(ByteArray.size x0) : Int), P63 (ByteArray.extract x0 (Int.toNat ((↑(ByteArray.size x0) : Int) - x1 - 1 + 1)) (Int.toNat (↑(ByteArray.size x0) : Int))), (!g63_1 (ByteArray.extract x0 1 (Int.toNat ((↑(ByteArray.size x0) : Int) - x1 - 1)))) = Bool.false, (!g63_1 (ByteArray.extract x0 (Int.toNat ((↑(ByteArray.size x0) : Int) - x1 - 1 + 1)) (Int.toNat (↑(ByteArray.size x0) : Int)))) = Bool.false, Decidable.decide (g63_0 (ByteArray.extract x0 1 (Int.toNat ((↑(ByteArray.size x0) : Int) - x1 - 1))) > 1000000000) = Bool.false, P80 x1, InR IntKind.i64 (g63_0 (ByteArray.extract x0 1 (Int.toNat ((↑(ByteArray.size x0) : Int) - x1 - 1))) * g80_0 x1), InR IntKind.i64 (g63_0 (ByteArray.extract x0 1 (Int.toNat ((↑(ByteArray.size x0) : Int) - x1 - 1))) * g80_0 x1 + g63_0 (ByteArray.extract x0 (Int.toNat ((↑(ByteArray.size x0) : Int) - x1 - 1 + 1)) (Int.toNat (↑(ByteArray.size x0) : Int)))), InR IntKind.i64 (-1 * (g63_0 (ByteArray.extract x0 1 (Int.toNat ((↑(ByteArray.size x0) : Int) - x1 - 1))) * g80_0 x1 + g63_0 (ByteArray.extract x0 (Int.toNat ((↑(ByteArray.size x0) : Int) - x1 - 1 + 1)) (Int.toNat (↑(ByteArray.size x0) : Int))))), True, (!g81_0 (-1 * (g63_0 (ByteArray.extract x0 1 (Int.toNat ((↑(ByteArray.size x0) : Int) - x1 - 1))) * g80_0 x1 + g63_0 (ByteArray.extract x0 (Int.toNat ((↑(ByteArray.size x0) : Int) - x1 - 1 + 1)) (Int.toNat (↑(ByteArray.size x0) : Int)))))) = Bool.false, P82 (-1 * (g63_0 (ByteArray.extract x0 1 (Int.toNat ((↑(ByteArray.size x0) : Int) - x1 - 1))) * g80_0 x1 + g63_0 (ByteArray.extract x0 (Int.toNat ((↑(ByteArray.size x0) : Int) - x1 - 1 + 1)) (Int.toNat (↑(ByteArray.size x0) : Int))))) x1, (!ByteArray.toList (g82_0 (-1 * (g63_0 (ByteArray.extract x0 1 (Int.toNat ((↑(ByteArray.size x0) : Int) - x1 - 1))) * g80_0 x1 + g63_0 (ByteArray.extract x0 (Int.toNat ((↑(ByteArray.size x0) : Int) - x1 - 1 + 1)) (Int.toNat (↑(ByteArray.size x0) : Int))))) x1) == ByteArray.toList x0) = Bool.true]) := by kernel_rfl
theorem p26_10 (x0 : ByteArray) (x1 : Int) : runF tab ext26 false 91 [] 2000 [] tys26 Tryd.f26.results [false, false, false, true, false, false, false, false, false, false, false] [.code b26] (entE 0 0 sig26 (x0, x1, ())) (entL sig26 (x0, x1, ())) = some ([Dyn.mk (Ty.int IntKind.i64) (-1 * (g63_0 (ByteArray.extract x0 1 (Int.toNat ((↑(ByteArray.size x0) : Int) - x1 - 1))) * g80_0 x1 + g63_0 (ByteArray.extract x0 (Int.toNat ((↑(ByteArray.size x0) : Int) - x1 - 1 + 1)) (Int.toNat (↑(ByteArray.size x0) : Int))))), Dyn.mk Ty.bool Bool.true], [], [True, (!g79_0 x1) = Bool.false, Decidable.decide ((↑(ByteArray.size x0) : Int) > 20) = Bool.false, InR IntKind.i64 (x1 + 2), Decidable.decide ((↑(ByteArray.size x0) : Int) < x1 + 2) = Bool.false, InR IntKind.i64 ((↑(ByteArray.size x0) : Int) - x1), InR IntKind.i64 ((↑(ByteArray.size x0) : Int) - x1 - 1), (0 : Int) ≤ (0 : Int), 0 < (↑(ByteArray.size x0) : Int), ((↑(UInt8.toNat (List.getD (Array.toList (ByteArray.data x0)) 0 0)) : Int) == 45) = Bool.true, 0 ≤ (↑(ByteArray.size x0) : Int) - x1 - 1, (↑(ByteArray.size x0) : Int) - x1 - 1 < (↑(ByteArray.size x0) : Int), ((↑(UInt8.toNat (List.getD (Array.toList (ByteArray.data x0)) (Int.toNat ((↑(ByteArray.size x0) : Int) - x1 - 1)) 0)) : Int) != 46) = Bool.false, Decidable.decide ((↑(ByteArray.size x0) : Int) - x1 - 1 ≤ 1) = Bool.false, (0 : Int) ≤ (1 : Int), 1 ≤ (↑(ByteArray.size x0) : Int) - x1 - 1, (↑(ByteArray.size x0) : Int) - x1 - 1 ≤ (↑(ByteArray.size x0) : Int), P63 (ByteArray.extract x0 1 (Int.toNat ((↑(ByteArray.size x0) : Int) - x1 - 1))), InR IntKind.i64 ((↑(ByteArray.size x0) : Int) - x1 - 1 + 1), 0 ≤ (↑(ByteArray.size x0) : Int) - x1 - 1 + 1, (↑(ByteArray.size x0) : Int) - x1 - 1 + 1 ≤ (↑(ByteArray.size x0) : Int), P63 (ByteArray.extract x0 (Int.toNat ((↑(ByteArray.size x0) : Int) - x1 - 1 + 1)) (Int.toNat (↑(ByteArray.size x0) : Int))), (!g63_1 (ByteArray.extract x0 1 (Int.toNat ((↑(ByteArray.size x0) : Int) - x1 - 1)))) = Bool.false, (!g63_1 (ByteArray.extract x0 (Int.toNat ((↑(ByteArray.size x0) : Int) - x1 - 1 + 1)) (Int.toNat (↑(ByteArray.size x0) : Int)))) = Bool.false, Decidable.decide (g63_0 (ByteArray.extract x0 1 (Int.toNat ((↑(ByteArray.size x0) : Int) - x1 - 1))) > 1000000000) = Bool.false, P80 x1, InR IntKind.i64 (g63_0 (ByteArray.extract x0 1 (Int.toNat ((↑(ByteArray.size x0) : Int) - x1 - 1))) * g80_0 x1), InR IntKind.i64 (g63_0 (ByteArray.extract x0 1 (Int.toNat ((↑(ByteArray.size x0) : Int) - x1 - 1))) * g80_0 x1 + g63_0 (ByteArray.extract x0 (Int.toNat ((↑(ByteArray.size x0) : Int) - x1 - 1 + 1)) (Int.toNat (↑(ByteArray.size x0) : Int)))), InR IntKind.i64 (-1 * (g63_0 (ByteArray.extract x0 1 (Int.toNat ((↑(ByteArray.size x0) : Int) - x1 - 1))) * g80_0 x1 + g63_0 (ByteArray.extract x0 (Int.toNat ((↑(ByteArray.size x0) : Int) - x1 - 1 + 1)) (Int.toNat (↑(ByteArray.size x0) : Int))))), True, (!g81_0 (-1 * (g63_0 (ByteArray.extract x0 1 (Int.toNat ((↑(ByteArray.size x0) : Int) - x1 - 1))) * g80_0 x1 + g63_0 (ByteArray.extract x0 (Int.toNat ((↑(ByteArray.size x0) : Int) - x1 - 1 + 1)) (Int.toNat (↑(ByteArray.size x0) : Int)))))) = Bool.false, P82 (-1 * (g63_0 (ByteArray.extract x0 1 (Int.toNat ((↑(ByteArray.size x0) : Int) - x1 - 1))) * g80_0 x1 + g63_0 (ByteArray.extract x0 (Int.toNat ((↑(ByteArray.size x0) : Int) - x1 - 1 + 1)) (Int.toNat (↑(ByteArray.size x0) : Int))))) x1, (!ByteArray.toList (g82_0 (-1 * (g63_0 (ByteArray.extract x0 1 (Int.toNat ((↑(ByteArray.size x0) : Int) - x1 - 1))) * g80_0 x1 + g63_0 (ByteArray.extract x0 (Int.toNat ((↑(ByteArray.size x0) : Int) - x1 - 1 + 1)) (Int.toNat (↑(ByteArray.size x0) : Int))))) x1) == ByteArray.toList x0) = Bool.false]) := by kernel_rfl
theorem p26_11 (x0 : ByteArray) (x1 : Int) : runF tab ext26 false 91 [] 2000 [] tys26 Tryd.f26.results [false, false, false, false, true, true] [.code b26] (entE 0 0 sig26 (x0, x1, ())) (entL sig26 (x0, x1, ())) = some ([Dyn.mk (Ty.int IntKind.i64) 0, Dyn.mk Ty.bool Bool.false], [], [True, (!g79_0 x1) = Bool.false, Decidable.decide ((↑(ByteArray.size x0) : Int) > 20) = Bool.false, InR IntKind.i64 (x1 + 2), Decidable.decide ((↑(ByteArray.size x0) : Int) < x1 + 2) = Bool.false, InR IntKind.i64 ((↑(ByteArray.size x0) : Int) - x1), InR IntKind.i64 ((↑(ByteArray.size x0) : Int) - x1 - 1), (0 : Int) ≤ (0 : Int), 0 < (↑(ByteArray.size x0) : Int), ((↑(UInt8.toNat (List.getD (Array.toList (ByteArray.data x0)) 0 0)) : Int) == 45) = Bool.false, 0 ≤ (↑(ByteArray.size x0) : Int) - x1 - 1, (↑(ByteArray.size x0) : Int) - x1 - 1 < (↑(ByteArray.size x0) : Int), ((↑(UInt8.toNat (List.getD (Array.toList (ByteArray.data x0)) (Int.toNat ((↑(ByteArray.size x0) : Int) - x1 - 1)) 0)) : Int) != 46) = Bool.true, Bool.true = Bool.true]) := by kernel_rfl
theorem p26_12 (x0 : ByteArray) (x1 : Int) : runF tab ext26 false 91 [] 2000 [] tys26 Tryd.f26.results [false, false, false, false, false, true] [.code b26] (entE 0 0 sig26 (x0, x1, ())) (entL sig26 (x0, x1, ())) = some ([Dyn.mk (Ty.int IntKind.i64) 0, Dyn.mk Ty.bool Bool.false], [], [True, (!g79_0 x1) = Bool.false, Decidable.decide ((↑(ByteArray.size x0) : Int) > 20) = Bool.false, InR IntKind.i64 (x1 + 2), Decidable.decide ((↑(ByteArray.size x0) : Int) < x1 + 2) = Bool.false, InR IntKind.i64 ((↑(ByteArray.size x0) : Int) - x1), InR IntKind.i64 ((↑(ByteArray.size x0) : Int) - x1 - 1), (0 : Int) ≤ (0 : Int), 0 < (↑(ByteArray.size x0) : Int), ((↑(UInt8.toNat (List.getD (Array.toList (ByteArray.data x0)) 0 0)) : Int) == 45) = Bool.false, 0 ≤ (↑(ByteArray.size x0) : Int) - x1 - 1, (↑(ByteArray.size x0) : Int) - x1 - 1 < (↑(ByteArray.size x0) : Int), ((↑(UInt8.toNat (List.getD (Array.toList (ByteArray.data x0)) (Int.toNat ((↑(ByteArray.size x0) : Int) - x1 - 1)) 0)) : Int) != 46) = Bool.false, Decidable.decide ((↑(ByteArray.size x0) : Int) - x1 - 1 ≤ 0) = Bool.true]) := by kernel_rfl
theorem p26_13 (x0 : ByteArray) (x1 : Int) : runF tab ext26 false 91 [] 2000 [] tys26 Tryd.f26.results [false, false, false, false, false, false, true, true, true] [.code b26] (entE 0 0 sig26 (x0, x1, ())) (entL sig26 (x0, x1, ())) = some ([Dyn.mk (Ty.int IntKind.i64) 0, Dyn.mk Ty.bool Bool.false], [], [True, (!g79_0 x1) = Bool.false, Decidable.decide ((↑(ByteArray.size x0) : Int) > 20) = Bool.false, InR IntKind.i64 (x1 + 2), Decidable.decide ((↑(ByteArray.size x0) : Int) < x1 + 2) = Bool.false, InR IntKind.i64 ((↑(ByteArray.size x0) : Int) - x1), InR IntKind.i64 ((↑(ByteArray.size x0) : Int) - x1 - 1), (0 : Int) ≤ (0 : Int), 0 < (↑(ByteArray.size x0) : Int), ((↑(UInt8.toNat (List.getD (Array.toList (ByteArray.data x0)) 0 0)) : Int) == 45) = Bool.false, 0 ≤ (↑(ByteArray.size x0) : Int) - x1 - 1, (↑(ByteArray.size x0) : Int) - x1 - 1 < (↑(ByteArray.size x0) : Int), ((↑(UInt8.toNat (List.getD (Array.toList (ByteArray.data x0)) (Int.toNat ((↑(ByteArray.size x0) : Int) - x1 - 1)) 0)) : Int) != 46) = Bool.false, Decidable.decide ((↑(ByteArray.size x0) : Int) - x1 - 1 ≤ 0) = Bool.false, (0 : Int) ≤ (0 : Int), 0 ≤ (↑(ByteArray.size x0) : Int) - x1 - 1, (↑(ByteArray.size x0) : Int) - x1 - 1 ≤ (↑(ByteArray.size x0) : Int), P63 (ByteArray.extract x0 0 (Int.toNat ((↑(ByteArray.size x0) : Int) - x1 - 1))), InR IntKind.i64 ((↑(ByteArray.size x0) : Int) - x1 - 1 + 1), 0 ≤ (↑(ByteArray.size x0) : Int) - x1 - 1 + 1, (↑(ByteArray.size x0) : Int) - x1 - 1 + 1 ≤ (↑(ByteArray.size x0) : Int), P63 (ByteArray.extract x0 (Int.toNat ((↑(ByteArray.size x0) : Int) - x1 - 1 + 1)) (Int.toNat (↑(ByteArray.size x0) : Int))), (!g63_1 (ByteArray.extract x0 0 (Int.toNat ((↑(ByteArray.size x0) : Int) - x1 - 1)))) = Bool.true, Bool.true = Bool.true, Bool.true = Bool.true]) := by kernel_rfl
theorem p26_14 (x0 : ByteArray) (x1 : Int) : runF tab ext26 false 91 [] 2000 [] tys26 Tryd.f26.results [false, false, false, false, false, false, false, true, true] [.code b26] (entE 0 0 sig26 (x0, x1, ())) (entL sig26 (x0, x1, ())) = some ([Dyn.mk (Ty.int IntKind.i64) 0, Dyn.mk Ty.bool Bool.false], [], [True, (!g79_0 x1) = Bool.false, Decidable.decide ((↑(ByteArray.size x0) : Int) > 20) = Bool.false, InR IntKind.i64 (x1 + 2), Decidable.decide ((↑(ByteArray.size x0) : Int) < x1 + 2) = Bool.false, InR IntKind.i64 ((↑(ByteArray.size x0) : Int) - x1), InR IntKind.i64 ((↑(ByteArray.size x0) : Int) - x1 - 1), (0 : Int) ≤ (0 : Int), 0 < (↑(ByteArray.size x0) : Int), ((↑(UInt8.toNat (List.getD (Array.toList (ByteArray.data x0)) 0 0)) : Int) == 45) = Bool.false, 0 ≤ (↑(ByteArray.size x0) : Int) - x1 - 1, (↑(ByteArray.size x0) : Int) - x1 - 1 < (↑(ByteArray.size x0) : Int), ((↑(UInt8.toNat (List.getD (Array.toList (ByteArray.data x0)) (Int.toNat ((↑(ByteArray.size x0) : Int) - x1 - 1)) 0)) : Int) != 46) = Bool.false, Decidable.decide ((↑(ByteArray.size x0) : Int) - x1 - 1 ≤ 0) = Bool.false, (0 : Int) ≤ (0 : Int), 0 ≤ (↑(ByteArray.size x0) : Int) - x1 - 1, (↑(ByteArray.size x0) : Int) - x1 - 1 ≤ (↑(ByteArray.size x0) : Int), P63 (ByteArray.extract x0 0 (Int.toNat ((↑(ByteArray.size x0) : Int) - x1 - 1))), InR IntKind.i64 ((↑(ByteArray.size x0) : Int) - x1 - 1 + 1), 0 ≤ (↑(ByteArray.size x0) : Int) - x1 - 1 + 1, (↑(ByteArray.size x0) : Int) - x1 - 1 + 1 ≤ (↑(ByteArray.size x0) : Int), P63 (ByteArray.extract x0 (Int.toNat ((↑(ByteArray.size x0) : Int) - x1 - 1 + 1)) (Int.toNat (↑(ByteArray.size x0) : Int))), (!g63_1 (ByteArray.extract x0 0 (Int.toNat ((↑(ByteArray.size x0) : Int) - x1 - 1)))) = Bool.false, (!g63_1 (ByteArray.extract x0 (Int.toNat ((↑(ByteArray.size x0) : Int) - x1 - 1 + 1)) (Int.toNat (↑(ByteArray.size x0) : Int)))) = Bool.true, Bool.true = Bool.true]) := by kernel_rfl
theorem p26_15 (x0 : ByteArray) (x1 : Int) : runF tab ext26 false 91 [] 2000 [] tys26 Tryd.f26.results [false, false, false, false, false, false, false, false, true] [.code b26] (entE 0 0 sig26 (x0, x1, ())) (entL sig26 (x0, x1, ())) = some ([Dyn.mk (Ty.int IntKind.i64) 0, Dyn.mk Ty.bool Bool.false], [], [True, (!g79_0 x1) = Bool.false, Decidable.decide ((↑(ByteArray.size x0) : Int) > 20) = Bool.false, InR IntKind.i64 (x1 + 2), Decidable.decide ((↑(ByteArray.size x0) : Int) < x1 + 2) = Bool.false, InR IntKind.i64 ((↑(ByteArray.size x0) : Int) - x1), InR IntKind.i64 ((↑(ByteArray.size x0) : Int) - x1 - 1), (0 : Int) ≤ (0 : Int), 0 < (↑(ByteArray.size x0) : Int), ((↑(UInt8.toNat (List.getD (Array.toList (ByteArray.data x0)) 0 0)) : Int) == 45) = Bool.false, 0 ≤ (↑(ByteArray.size x0) : Int) - x1 - 1, (↑(ByteArray.size x0) : Int) - x1 - 1 < (↑(ByteArray.size x0) : Int), ((↑(UInt8.toNat (List.getD (Array.toList (ByteArray.data x0)) (Int.toNat ((↑(ByteArray.size x0) : Int) - x1 - 1)) 0)) : Int) != 46) = Bool.false, Decidable.decide ((↑(ByteArray.size x0) : Int) - x1 - 1 ≤ 0) = Bool.false, (0 : Int) ≤ (0 : Int), 0 ≤ (↑(ByteArray.size x0) : Int) - x1 - 1, (↑(ByteArray.size x0) : Int) - x1 - 1 ≤ (↑(ByteArray.size x0) : Int), P63 (ByteArray.extract x0 0 (Int.toNat ((↑(ByteArray.size x0) : Int) - x1 - 1))), InR IntKind.i64 ((↑(ByteArray.size x0) : Int) - x1 - 1 + 1), 0 ≤ (↑(ByteArray.size x0) : Int) - x1 - 1 + 1, (↑(ByteArray.size x0) : Int) - x1 - 1 + 1 ≤ (↑(ByteArray.size x0) : Int), P63 (ByteArray.extract x0 (Int.toNat ((↑(ByteArray.size x0) : Int) - x1 - 1 + 1)) (Int.toNat (↑(ByteArray.size x0) : Int))), (!g63_1 (ByteArray.extract x0 0 (Int.toNat ((↑(ByteArray.size x0) : Int) - x1 - 1)))) = Bool.false, (!g63_1 (ByteArray.extract x0 (Int.toNat ((↑(ByteArray.size x0) : Int) - x1 - 1 + 1)) (Int.toNat (↑(ByteArray.size x0) : Int)))) = Bool.false, Decidable.decide (g63_0 (ByteArray.extract x0 0 (Int.toNat ((↑(ByteArray.size x0) : Int) - x1 - 1))) > 1000000000) = Bool.true]) := by kernel_rfl
theorem p26_16 (x0 : ByteArray) (x1 : Int) : runF tab ext26 false 91 [] 2000 [] tys26 Tryd.f26.results [false, false, false, false, false, false, false, false, false, true, true] [.code b26] (entE 0 0 sig26 (x0, x1, ())) (entL sig26 (x0, x1, ())) = some ([Dyn.mk (Ty.int IntKind.i64) 0, Dyn.mk Ty.bool Bool.false], [], [True, (!g79_0 x1) = Bool.false, Decidable.decide ((↑(ByteArray.size x0) : Int) > 20) = Bool.false, InR IntKind.i64 (x1 + 2), Decidable.decide ((↑(ByteArray.size x0) : Int) < x1 + 2) = Bool.false, InR IntKind.i64 ((↑(ByteArray.size x0) : Int) - x1), InR IntKind.i64 ((↑(ByteArray.size x0) : Int) - x1 - 1), (0 : Int) ≤ (0 : Int), 0 < (↑(ByteArray.size x0) : Int), ((↑(UInt8.toNat (List.getD (Array.toList (ByteArray.data x0)) 0 0)) : Int) == 45) = Bool.false, 0 ≤ (↑(ByteArray.size x0) : Int) - x1 - 1, (↑(ByteArray.size x0) : Int) - x1 - 1 < (↑(ByteArray.size x0) : Int), ((↑(UInt8.toNat (List.getD (Array.toList (ByteArray.data x0)) (Int.toNat ((↑(ByteArray.size x0) : Int) - x1 - 1)) 0)) : Int) != 46) = Bool.false, Decidable.decide ((↑(ByteArray.size x0) : Int) - x1 - 1 ≤ 0) = Bool.false, (0 : Int) ≤ (0 : Int), 0 ≤ (↑(ByteArray.size x0) : Int) - x1 - 1, (↑(ByteArray.size x0) : Int) - x1 - 1 ≤ (↑(ByteArray.size x0) : Int), P63 (ByteArray.extract x0 0 (Int.toNat ((↑(ByteArray.size x0) : Int) - x1 - 1))), InR IntKind.i64 ((↑(ByteArray.size x0) : Int) - x1 - 1 + 1), 0 ≤ (↑(ByteArray.size x0) : Int) - x1 - 1 + 1, (↑(ByteArray.size x0) : Int) - x1 - 1 + 1 ≤ (↑(ByteArray.size x0) : Int), P63 (ByteArray.extract x0 (Int.toNat ((↑(ByteArray.size x0) : Int) - x1 - 1 + 1)) (Int.toNat (↑(ByteArray.size x0) : Int))), (!g63_1 (ByteArray.extract x0 0 (Int.toNat ((↑(ByteArray.size x0) : Int) - x1 - 1)))) = Bool.false, (!g63_1 (ByteArray.extract x0 (Int.toNat ((↑(ByteArray.size x0) : Int) - x1 - 1 + 1)) (Int.toNat (↑(ByteArray.size x0) : Int)))) = Bool.false, Decidable.decide (g63_0 (ByteArray.extract x0 0 (Int.toNat ((↑(ByteArray.size x0) : Int) - x1 - 1))) > 1000000000) = Bool.false, P80 x1, InR IntKind.i64 (g63_0 (ByteArray.extract x0 0 (Int.toNat ((↑(ByteArray.size x0) : Int) - x1 - 1))) * g80_0 x1), InR IntKind.i64 (g63_0 (ByteArray.extract x0 0 (Int.toNat ((↑(ByteArray.size x0) : Int) - x1 - 1))) * g80_0 x1 + g63_0 (ByteArray.extract x0 (Int.toNat ((↑(ByteArray.size x0) : Int) - x1 - 1 + 1)) (Int.toNat (↑(ByteArray.size x0) : Int)))), InR IntKind.i64 (1 * (g63_0 (ByteArray.extract x0 0 (Int.toNat ((↑(ByteArray.size x0) : Int) - x1 - 1))) * g80_0 x1 + g63_0 (ByteArray.extract x0 (Int.toNat ((↑(ByteArray.size x0) : Int) - x1 - 1 + 1)) (Int.toNat (↑(ByteArray.size x0) : Int))))), True, (!g81_0 (1 * (g63_0 (ByteArray.extract x0 0 (Int.toNat ((↑(ByteArray.size x0) : Int) - x1 - 1))) * g80_0 x1 + g63_0 (ByteArray.extract x0 (Int.toNat ((↑(ByteArray.size x0) : Int) - x1 - 1 + 1)) (Int.toNat (↑(ByteArray.size x0) : Int)))))) = Bool.true, Bool.true = Bool.true]) := by kernel_rfl
theorem p26_17 (x0 : ByteArray) (x1 : Int) : runF tab ext26 false 91 [] 2000 [] tys26 Tryd.f26.results [false, false, false, false, false, false, false, false, false, false, true] [.code b26] (entE 0 0 sig26 (x0, x1, ())) (entL sig26 (x0, x1, ())) = some ([Dyn.mk (Ty.int IntKind.i64) 0, Dyn.mk Ty.bool Bool.false], [], [True, (!g79_0 x1) = Bool.false, Decidable.decide ((↑(ByteArray.size x0) : Int) > 20) = Bool.false, InR IntKind.i64 (x1 + 2), Decidable.decide ((↑(ByteArray.size x0) : Int) < x1 + 2) = Bool.false, InR IntKind.i64 ((↑(ByteArray.size x0) : Int) - x1), InR IntKind.i64 ((↑(ByteArray.size x0) : Int) - x1 - 1), (0 : Int) ≤ (0 : Int), 0 < (↑(ByteArray.size x0) : Int), ((↑(UInt8.toNat (List.getD (Array.toList (ByteArray.data x0)) 0 0)) : Int) == 45) = Bool.false, 0 ≤ (↑(ByteArray.size x0) : Int) - x1 - 1, (↑(ByteArray.size x0) : Int) - x1 - 1 < (↑(ByteArray.size x0) : Int), ((↑(UInt8.toNat (List.getD (Array.toList (ByteArray.data x0)) (Int.toNat ((↑(ByteArray.size x0) : Int) - x1 - 1)) 0)) : Int) != 46) = Bool.false, Decidable.decide ((↑(ByteArray.size x0) : Int) - x1 - 1 ≤ 0) = Bool.false, (0 : Int) ≤ (0 : Int), 0 ≤ (↑(ByteArray.size x0) : Int) - x1 - 1, (↑(ByteArray.size x0) : Int) - x1 - 1 ≤ (↑(ByteArray.size x0) : Int), P63 (ByteArray.extract x0 0 (Int.toNat ((↑(ByteArray.size x0) : Int) - x1 - 1))), InR IntKind.i64 ((↑(ByteArray.size x0) : Int) - x1 - 1 + 1), 0 ≤ (↑(ByteArray.size x0) : Int) - x1 - 1 + 1, (↑(ByteArray.size x0) : Int) - x1 - 1 + 1 ≤ (↑(ByteArray.size x0) : Int), P63 (ByteArray.extract x0 (Int.toNat ((↑(ByteArray.size x0) : Int) - x1 - 1 + 1)) (Int.toNat (↑(ByteArray.size x0) : Int))), (!g63_1 (ByteArray.extract x0 0 (Int.toNat ((↑(ByteArray.size x0) : Int) - x1 - 1)))) = Bool.false, (!g63_1 (ByteArray.extract x0 (Int.toNat ((↑(ByteArray.size x0) : Int) - x1 - 1 + 1)) (Int.toNat (↑(ByteArray.size x0) : Int)))) = Bool.false, Decidable.decide (g63_0 (ByteArray.extract x0 0 (Int.toNat ((↑(ByteArray.size x0) : Int) - x1 - 1))) > 1000000000) = Bool.false, P80 x1, InR IntKind.i64 (g63_0 (ByteArray.extract x0 0 (Int.toNat ((↑(ByteArray.size x0) : Int) - x1 - 1))) * g80_0 x1), InR IntKind.i64 (g63_0 (ByteArray.extract x0 0 (Int.toNat ((↑(ByteArray.size x0) : Int) - x1 - 1))) * g80_0 x1 + g63_0 (ByteArray.extract x0 (Int.toNat ((↑(ByteArray.size x0) : Int) - x1 - 1 + 1)) (Int.toNat (↑(ByteArray.size x0) : Int)))), InR IntKind.i64 (1 * (g63_0 (ByteArray.extract x0 0 (Int.toNat ((↑(ByteArray.size x0) : Int) - x1 - 1))) * g80_0 x1 + g63_0 (ByteArray.extract x0 (Int.toNat ((↑(ByteArray.size x0) : Int) - x1 - 1 + 1)) (Int.toNat (↑(ByteArray.size x0) : Int))))), True, (!g81_0 (1 * (g63_0 (ByteArray.extract x0 0 (Int.toNat ((↑(ByteArray.size x0) : Int) - x1 - 1))) * g80_0 x1 + g63_0 (ByteArray.extract x0 (Int.toNat ((↑(ByteArray.size x0) : Int) - x1 - 1 + 1)) (Int.toNat (↑(ByteArray.size x0) : Int)))))) = Bool.false, P82 (1 * (g63_0 (ByteArray.extract x0 0 (Int.toNat ((↑(ByteArray.size x0) : Int) - x1 - 1))) * g80_0 x1 + g63_0 (ByteArray.extract x0 (Int.toNat ((↑(ByteArray.size x0) : Int) - x1 - 1 + 1)) (Int.toNat (↑(ByteArray.size x0) : Int))))) x1, (!ByteArray.toList (g82_0 (1 * (g63_0 (ByteArray.extract x0 0 (Int.toNat ((↑(ByteArray.size x0) : Int) - x1 - 1))) * g80_0 x1 + g63_0 (ByteArray.extract x0 (Int.toNat ((↑(ByteArray.size x0) : Int) - x1 - 1 + 1)) (Int.toNat (↑(ByteArray.size x0) : Int))))) x1) == ByteArray.toList x0) = Bool.true]) := by kernel_rfl
theorem p26_18 (x0 : ByteArray) (x1 : Int) : runF tab ext26 false 91 [] 2000 [] tys26 Tryd.f26.results [false, false, false, false, false, false, false, false, false, false, false] [.code b26] (entE 0 0 sig26 (x0, x1, ())) (entL sig26 (x0, x1, ())) = some ([Dyn.mk (Ty.int IntKind.i64) (1 * (g63_0 (ByteArray.extract x0 0 (Int.toNat ((↑(ByteArray.size x0) : Int) - x1 - 1))) * g80_0 x1 + g63_0 (ByteArray.extract x0 (Int.toNat ((↑(ByteArray.size x0) : Int) - x1 - 1 + 1)) (Int.toNat (↑(ByteArray.size x0) : Int))))), Dyn.mk Ty.bool Bool.true], [], [True, (!g79_0 x1) = Bool.false, Decidable.decide ((↑(ByteArray.size x0) : Int) > 20) = Bool.false, InR IntKind.i64 (x1 + 2), Decidable.decide ((↑(ByteArray.size x0) : Int) < x1 + 2) = Bool.false, InR IntKind.i64 ((↑(ByteArray.size x0) : Int) - x1), InR IntKind.i64 ((↑(ByteArray.size x0) : Int) - x1 - 1), (0 : Int) ≤ (0 : Int), 0 < (↑(ByteArray.size x0) : Int), ((↑(UInt8.toNat (List.getD (Array.toList (ByteArray.data x0)) 0 0)) : Int) == 45) = Bool.false, 0 ≤ (↑(ByteArray.size x0) : Int) - x1 - 1, (↑(ByteArray.size x0) : Int) - x1 - 1 < (↑(ByteArray.size x0) : Int), ((↑(UInt8.toNat (List.getD (Array.toList (ByteArray.data x0)) (Int.toNat ((↑(ByteArray.size x0) : Int) - x1 - 1)) 0)) : Int) != 46) = Bool.false, Decidable.decide ((↑(ByteArray.size x0) : Int) - x1 - 1 ≤ 0) = Bool.false, (0 : Int) ≤ (0 : Int), 0 ≤ (↑(ByteArray.size x0) : Int) - x1 - 1, (↑(ByteArray.size x0) : Int) - x1 - 1 ≤ (↑(ByteArray.size x0) : Int), P63 (ByteArray.extract x0 0 (Int.toNat ((↑(ByteArray.size x0) : Int) - x1 - 1))), InR IntKind.i64 ((↑(ByteArray.size x0) : Int) - x1 - 1 + 1), 0 ≤ (↑(ByteArray.size x0) : Int) - x1 - 1 + 1, (↑(ByteArray.size x0) : Int) - x1 - 1 + 1 ≤ (↑(ByteArray.size x0) : Int), P63 (ByteArray.extract x0 (Int.toNat ((↑(ByteArray.size x0) : Int) - x1 - 1 + 1)) (Int.toNat (↑(ByteArray.size x0) : Int))), (!g63_1 (ByteArray.extract x0 0 (Int.toNat ((↑(ByteArray.size x0) : Int) - x1 - 1)))) = Bool.false, (!g63_1 (ByteArray.extract x0 (Int.toNat ((↑(ByteArray.size x0) : Int) - x1 - 1 + 1)) (Int.toNat (↑(ByteArray.size x0) : Int)))) = Bool.false, Decidable.decide (g63_0 (ByteArray.extract x0 0 (Int.toNat ((↑(ByteArray.size x0) : Int) - x1 - 1))) > 1000000000) = Bool.false, P80 x1, InR IntKind.i64 (g63_0 (ByteArray.extract x0 0 (Int.toNat ((↑(ByteArray.size x0) : Int) - x1 - 1))) * g80_0 x1), InR IntKind.i64 (g63_0 (ByteArray.extract x0 0 (Int.toNat ((↑(ByteArray.size x0) : Int) - x1 - 1))) * g80_0 x1 + g63_0 (ByteArray.extract x0 (Int.toNat ((↑(ByteArray.size x0) : Int) - x1 - 1 + 1)) (Int.toNat (↑(ByteArray.size x0) : Int)))), InR IntKind.i64 (1 * (g63_0 (ByteArray.extract x0 0 (Int.toNat ((↑(ByteArray.size x0) : Int) - x1 - 1))) * g80_0 x1 + g63_0 (ByteArray.extract x0 (Int.toNat ((↑(ByteArray.size x0) : Int) - x1 - 1 + 1)) (Int.toNat (↑(ByteArray.size x0) : Int))))), True, (!g81_0 (1 * (g63_0 (ByteArray.extract x0 0 (Int.toNat ((↑(ByteArray.size x0) : Int) - x1 - 1))) * g80_0 x1 + g63_0 (ByteArray.extract x0 (Int.toNat ((↑(ByteArray.size x0) : Int) - x1 - 1 + 1)) (Int.toNat (↑(ByteArray.size x0) : Int)))))) = Bool.false, P82 (1 * (g63_0 (ByteArray.extract x0 0 (Int.toNat ((↑(ByteArray.size x0) : Int) - x1 - 1))) * g80_0 x1 + g63_0 (ByteArray.extract x0 (Int.toNat ((↑(ByteArray.size x0) : Int) - x1 - 1 + 1)) (Int.toNat (↑(ByteArray.size x0) : Int))))) x1, (!ByteArray.toList (g82_0 (1 * (g63_0 (ByteArray.extract x0 0 (Int.toNat ((↑(ByteArray.size x0) : Int) - x1 - 1))) * g80_0 x1 + g63_0 (ByteArray.extract x0 (Int.toNat ((↑(ByteArray.size x0) : Int) - x1 - 1 + 1)) (Int.toNat (↑(ByteArray.size x0) : Int))))) x1) == ByteArray.toList x0) = Bool.false]) := by kernel_rfl
theorem at26 (x0 : ByteArray) (x1 : Int) (h : P26 x0 x1) (w0 : World) (O : List Nat) (q : Nat → Value) : AtV Tryd.prog 26 (PostR [⟨Ty.int IntKind.i64, g26_0 x0 x1⟩, ⟨Ty.bool, g26_1 x0 x1⟩] [] [] q w0 O) 91 w0 O q [] [.code b26] (entE 0 0 sig26 (x0, x1, ())) (entL sig26 (x0, x1, ())) := by
  unfold P26 at h
  unfold g26_0 g26_1
  by_cases b0 : (!g79_0 x1) = true
  · try simp only [if_pos b0] at h ⊢
    exact AtV.fin Tryd.func26 tabOk ext26Ok mixed (p26_0 x0 x1) ⟨trivial, b0, rfl, rfl, trivial⟩
  · try simp only [if_neg b0] at h ⊢
    replace b0 := Bool.eq_false_iff.2 b0
    by_cases b1 : (Decidable.decide ((↑(ByteArray.size x0) : Int) > 20)) = true
    · try simp only [if_pos b1] at h ⊢
      exact AtV.fin Tryd.func26 tabOk ext26Ok mixed (p26_1 x0 x1) ⟨trivial, b0, b1, rfl, trivial⟩
    · try simp only [if_neg b1] at h ⊢
      replace b1 := Bool.eq_false_iff.2 b1
      obtain ⟨s0, h⟩ := h
      by_cases b2 : (Decidable.decide ((↑(ByteArray.size x0) : Int) < x1 + 2)) = true
      · try simp only [if_pos b2] at h ⊢
        exact AtV.fin Tryd.func26 tabOk ext26Ok mixed (p26_2 x0 x1) ⟨trivial, b0, b1, s0, b2, trivial⟩
      · try simp only [if_neg b2] at h ⊢
        replace b2 := Bool.eq_false_iff.2 b2
        obtain ⟨s1, h⟩ := h
        obtain ⟨s2, h⟩ := h
        obtain ⟨s3, h⟩ := h
        by_cases b3 : ((↑(UInt8.toNat (List.getD (Array.toList (ByteArray.data x0)) 0 0)) : Int) == 45) = true
        · try simp only [if_pos b3] at h ⊢
          obtain ⟨s4, s5, h⟩ := h
          by_cases b4 : ((↑(UInt8.toNat (List.getD (Array.toList (ByteArray.data x0)) (Int.toNat ((↑(ByteArray.size x0) : Int) - x1 - 1)) 0)) : Int) != 46) = true
          · try simp only [if_pos b4] at h ⊢
            exact AtV.fin Tryd.func26 tabOk ext26Ok mixed (p26_3 x0 x1) ⟨trivial, b0, b1, s0, b2, s1, s2, (by decide), s3, b3, s4, s5, b4, rfl, trivial⟩
          · try simp only [if_neg b4] at h ⊢
            replace b4 := Bool.eq_false_iff.2 b4
            by_cases b5 : (Decidable.decide ((↑(ByteArray.size x0) : Int) - x1 - 1 ≤ 1)) = true
            · try simp only [if_pos b5] at h ⊢
              exact AtV.fin Tryd.func26 tabOk ext26Ok mixed (p26_4 x0 x1) ⟨trivial, b0, b1, s0, b2, s1, s2, (by decide), s3, b3, s4, s5, b4, b5, trivial⟩
            · try simp only [if_neg b5] at h ⊢
              replace b5 := Bool.eq_false_iff.2 b5
              obtain ⟨s6, s7, h⟩ := h
              obtain ⟨s8, h⟩ := h
              obtain ⟨s9, h⟩ := h
              obtain ⟨s10, s11, h⟩ := h
              obtain ⟨s12, h⟩ := h
              by_cases b6 : (!g63_1 (ByteArray.extract x0 1 (Int.toNat ((↑(ByteArray.size x0) : Int) - x1 - 1)))) = true
              · try simp only [if_pos b6] at h ⊢
                exact AtV.fin Tryd.func26 tabOk ext26Ok mixed (p26_5 x0 x1) ⟨trivial, b0, b1, s0, b2, s1, s2, (by decide), s3, b3, s4, s5, b4, b5, (by decide), s6, s7, s8, s9, s10, s11, s12, b6, rfl, rfl, trivial⟩
              · try simp only [if_neg b6] at h ⊢
                replace b6 := Bool.eq_false_iff.2 b6
                by_cases b7 : (!g63_1 (ByteArray.extract x0 (Int.toNat ((↑(ByteArray.size x0) : Int) - x1 - 1 + 1)) (Int.toNat (↑(ByteArray.size x0) : Int)))) = true
                · try simp only [if_pos b7] at h ⊢
                  exact AtV.fin Tryd.func26 tabOk ext26Ok mixed (p26_6 x0 x1) ⟨trivial, b0, b1, s0, b2, s1, s2, (by decide), s3, b3, s4, s5, b4, b5, (by decide), s6, s7, s8, s9, s10, s11, s12, b6, b7, rfl, trivial⟩
                · try simp only [if_neg b7] at h ⊢
                  replace b7 := Bool.eq_false_iff.2 b7
                  by_cases b8 : (Decidable.decide (g63_0 (ByteArray.extract x0 1 (Int.toNat ((↑(ByteArray.size x0) : Int) - x1 - 1))) > 1000000000)) = true
                  · try simp only [if_pos b8] at h ⊢
                    exact AtV.fin Tryd.func26 tabOk ext26Ok mixed (p26_7 x0 x1) ⟨trivial, b0, b1, s0, b2, s1, s2, (by decide), s3, b3, s4, s5, b4, b5, (by decide), s6, s7, s8, s9, s10, s11, s12, b6, b7, b8, trivial⟩
                  · try simp only [if_neg b8] at h ⊢
                    replace b8 := Bool.eq_false_iff.2 b8
                    obtain ⟨s13, h⟩ := h
                    obtain ⟨s14, h⟩ := h
                    obtain ⟨s15, h⟩ := h
                    obtain ⟨s16, h⟩ := h
                    by_cases b9 : (!g81_0 (-1 * (g63_0 (ByteArray.extract x0 1 (Int.toNat ((↑(ByteArray.size x0) : Int) - x1 - 1))) * g80_0 x1 + g63_0 (ByteArray.extract x0 (Int.toNat ((↑(ByteArray.size x0) : Int) - x1 - 1 + 1)) (Int.toNat (↑(ByteArray.size x0) : Int)))))) = true
                    · try simp only [if_pos b9] at h ⊢
                      exact AtV.fin Tryd.func26 tabOk ext26Ok mixed (p26_8 x0 x1) ⟨trivial, b0, b1, s0, b2, s1, s2, (by decide), s3, b3, s4, s5, b4, b5, (by decide), s6, s7, s8, s9, s10, s11, s12, b6, b7, b8, s13, s14, s15, s16, trivial, b9, rfl, trivial⟩
                    · try simp only [if_neg b9] at h ⊢
                      replace b9 := Bool.eq_false_iff.2 b9
                      obtain ⟨s17, h⟩ := h
                      by_cases b10 : (!ByteArray.toList (g82_0 (-1 * (g63_0 (ByteArray.extract x0 1 (Int.toNat ((↑(ByteArray.size x0) : Int) - x1 - 1))) * g80_0 x1 + g63_0 (ByteArray.extract x0 (Int.toNat ((↑(ByteArray.size x0) : Int) - x1 - 1 + 1)) (Int.toNat (↑(ByteArray.size x0) : Int))))) x1) == ByteArray.toList x0) = true
                      · try simp only [if_pos b10] at h ⊢
                        exact AtV.fin Tryd.func26 tabOk ext26Ok mixed (p26_9 x0 x1) ⟨trivial, b0, b1, s0, b2, s1, s2, (by decide), s3, b3, s4, s5, b4, b5, (by decide), s6, s7, s8, s9, s10, s11, s12, b6, b7, b8, s13, s14, s15, s16, trivial, b9, s17, b10, trivial⟩
                      · try simp only [if_neg b10] at h ⊢
                        replace b10 := Bool.eq_false_iff.2 b10
                        exact AtV.fin Tryd.func26 tabOk ext26Ok mixed (p26_10 x0 x1) ⟨trivial, b0, b1, s0, b2, s1, s2, (by decide), s3, b3, s4, s5, b4, b5, (by decide), s6, s7, s8, s9, s10, s11, s12, b6, b7, b8, s13, s14, s15, s16, trivial, b9, s17, b10, trivial⟩
        · try simp only [if_neg b3] at h ⊢
          replace b3 := Bool.eq_false_iff.2 b3
          obtain ⟨s4, s5, h⟩ := h
          by_cases b4 : ((↑(UInt8.toNat (List.getD (Array.toList (ByteArray.data x0)) (Int.toNat ((↑(ByteArray.size x0) : Int) - x1 - 1)) 0)) : Int) != 46) = true
          · try simp only [if_pos b4] at h ⊢
            exact AtV.fin Tryd.func26 tabOk ext26Ok mixed (p26_11 x0 x1) ⟨trivial, b0, b1, s0, b2, s1, s2, (by decide), s3, b3, s4, s5, b4, rfl, trivial⟩
          · try simp only [if_neg b4] at h ⊢
            replace b4 := Bool.eq_false_iff.2 b4
            by_cases b5 : (Decidable.decide ((↑(ByteArray.size x0) : Int) - x1 - 1 ≤ 0)) = true
            · try simp only [if_pos b5] at h ⊢
              exact AtV.fin Tryd.func26 tabOk ext26Ok mixed (p26_12 x0 x1) ⟨trivial, b0, b1, s0, b2, s1, s2, (by decide), s3, b3, s4, s5, b4, b5, trivial⟩
            · try simp only [if_neg b5] at h ⊢
              replace b5 := Bool.eq_false_iff.2 b5
              obtain ⟨s6, s7, h⟩ := h
              obtain ⟨s8, h⟩ := h
              obtain ⟨s9, h⟩ := h
              obtain ⟨s10, s11, h⟩ := h
              obtain ⟨s12, h⟩ := h
              by_cases b6 : (!g63_1 (ByteArray.extract x0 0 (Int.toNat ((↑(ByteArray.size x0) : Int) - x1 - 1)))) = true
              · try simp only [if_pos b6] at h ⊢
                exact AtV.fin Tryd.func26 tabOk ext26Ok mixed (p26_13 x0 x1) ⟨trivial, b0, b1, s0, b2, s1, s2, (by decide), s3, b3, s4, s5, b4, b5, (by decide), s6, s7, s8, s9, s10, s11, s12, b6, rfl, rfl, trivial⟩
              · try simp only [if_neg b6] at h ⊢
                replace b6 := Bool.eq_false_iff.2 b6
                by_cases b7 : (!g63_1 (ByteArray.extract x0 (Int.toNat ((↑(ByteArray.size x0) : Int) - x1 - 1 + 1)) (Int.toNat (↑(ByteArray.size x0) : Int)))) = true
                · try simp only [if_pos b7] at h ⊢
                  exact AtV.fin Tryd.func26 tabOk ext26Ok mixed (p26_14 x0 x1) ⟨trivial, b0, b1, s0, b2, s1, s2, (by decide), s3, b3, s4, s5, b4, b5, (by decide), s6, s7, s8, s9, s10, s11, s12, b6, b7, rfl, trivial⟩
                · try simp only [if_neg b7] at h ⊢
                  replace b7 := Bool.eq_false_iff.2 b7
                  by_cases b8 : (Decidable.decide (g63_0 (ByteArray.extract x0 0 (Int.toNat ((↑(ByteArray.size x0) : Int) - x1 - 1))) > 1000000000)) = true
                  · try simp only [if_pos b8] at h ⊢
                    exact AtV.fin Tryd.func26 tabOk ext26Ok mixed (p26_15 x0 x1) ⟨trivial, b0, b1, s0, b2, s1, s2, (by decide), s3, b3, s4, s5, b4, b5, (by decide), s6, s7, s8, s9, s10, s11, s12, b6, b7, b8, trivial⟩
                  · try simp only [if_neg b8] at h ⊢
                    replace b8 := Bool.eq_false_iff.2 b8
                    obtain ⟨s13, h⟩ := h
                    obtain ⟨s14, h⟩ := h
                    obtain ⟨s15, h⟩ := h
                    obtain ⟨s16, h⟩ := h
                    by_cases b9 : (!g81_0 (1 * (g63_0 (ByteArray.extract x0 0 (Int.toNat ((↑(ByteArray.size x0) : Int) - x1 - 1))) * g80_0 x1 + g63_0 (ByteArray.extract x0 (Int.toNat ((↑(ByteArray.size x0) : Int) - x1 - 1 + 1)) (Int.toNat (↑(ByteArray.size x0) : Int)))))) = true
                    · try simp only [if_pos b9] at h ⊢
                      exact AtV.fin Tryd.func26 tabOk ext26Ok mixed (p26_16 x0 x1) ⟨trivial, b0, b1, s0, b2, s1, s2, (by decide), s3, b3, s4, s5, b4, b5, (by decide), s6, s7, s8, s9, s10, s11, s12, b6, b7, b8, s13, s14, s15, s16, trivial, b9, rfl, trivial⟩
                    · try simp only [if_neg b9] at h ⊢
                      replace b9 := Bool.eq_false_iff.2 b9
                      obtain ⟨s17, h⟩ := h
                      by_cases b10 : (!ByteArray.toList (g82_0 (1 * (g63_0 (ByteArray.extract x0 0 (Int.toNat ((↑(ByteArray.size x0) : Int) - x1 - 1))) * g80_0 x1 + g63_0 (ByteArray.extract x0 (Int.toNat ((↑(ByteArray.size x0) : Int) - x1 - 1 + 1)) (Int.toNat (↑(ByteArray.size x0) : Int))))) x1) == ByteArray.toList x0) = true
                      · try simp only [if_pos b10] at h ⊢
                        exact AtV.fin Tryd.func26 tabOk ext26Ok mixed (p26_17 x0 x1) ⟨trivial, b0, b1, s0, b2, s1, s2, (by decide), s3, b3, s4, s5, b4, b5, (by decide), s6, s7, s8, s9, s10, s11, s12, b6, b7, b8, s13, s14, s15, s16, trivial, b9, s17, b10, trivial⟩
                      · try simp only [if_neg b10] at h ⊢
                        replace b10 := Bool.eq_false_iff.2 b10
                        exact AtV.fin Tryd.func26 tabOk ext26Ok mixed (p26_18 x0 x1) ⟨trivial, b0, b1, s0, b2, s1, s2, (by decide), s3, b3, s4, s5, b4, b5, (by decide), s6, s7, s8, s9, s10, s11, s12, b6, b7, b8, s13, s14, s15, s16, trivial, b9, s17, b10, trivial⟩

def S26 : Am.Spec := { sig := sig26, pre := fun ⟨x0, x1, _⟩ => P26 x0 x1, res := fun ⟨x0, x1, _⟩ => [⟨Ty.int IntKind.i64, g26_0 x0 x1⟩, ⟨Ty.bool, g26_1 x0 x1⟩] }
theorem con26 : Contract Tryd.prog 26 S26 := contract_of Tryd.func26 hb26 (Nat.le_of_ble_eq_true (by kernel_rfl)) (fun ⟨x0, x1, _⟩ h _ w0 O q => at26 x0 x1 h w0 O q)


end Go.Proofs.YtakodkjcmacofaaDoor

/- Function 69 (spec.l02Mass): its runs between cut points. Written by a program of this repo (gen). -/
set_option linter.unusedVariables false
set_option linter.unusedSimpArgs false
set_option maxRecDepth 100000
namespace Go.Proofs.YtakodkjcmacofaaDoor
open Go Go.Am Go.Proofs
def ext69 : Ext := [(124, S124)]
theorem call69_124 : Callable Tryd.prog 124 := ⟨Tryd.f124, Tryd.func124, by kernel_rfl, by kernel_rfl⟩
theorem ext69Ok : ExtOk Tryd.prog ext69 := ⟨⟨call69_124, con124⟩, trivial⟩
/-! Function 69. -/
noncomputable def b69 : Code := bodyOf Tryd.f69
theorem hb69 : Tryd.f69.body = some b69 := by kernel_rfl
def sig69 : List AT := [AT.v (Ty.int IntKind.i64)]
def tys69 : List Ty := [Ty.bool]
def P69 (x0 : Int) : Prop := True
def g69_0 (x0 : Int) : Bool := g124_0 x0 0 1000000000
theorem p69_0 (x0 : Int) : runF tab ext69 false 5 [] 2000 [] tys69 Tryd.f69.results [] [.code b69] (entE 0 0 sig69 (x0, ())) (entL sig69 (x0, ())) = some ([Dyn.mk Ty.bool (g124_0 x0 0 1000000000)], [], [True]) := by kernel_rfl
theorem at69 (x0 : Int) (h : P69 x0) (w0 : World) (O : List Nat) (q : Nat → Value) : AtV Tryd.prog 69 (PostR [⟨Ty.bool, g69_0 x0⟩] [] [] q w0 O) 5 w0 O q [] [.code b69] (entE 0 0 sig69 (x0, ())) (entL sig69 (x0, ())) := by
  unfold P69 at h
  unfold g69_0
  exact AtV.fin Tryd.func69 tabOk ext69Ok mixed (p69_0 x0) ⟨trivial, trivial⟩

def S69 : Am.Spec := { sig := sig69, pre := fun ⟨x0, _⟩ => P69 x0, res := fun ⟨x0, _⟩ => [⟨Ty.bool, g69_0 x0⟩] }
theorem con69 : Contract Tryd.prog 69 S69 := contract_of Tryd.func69 hb69 (Nat.le_of_ble_eq_true (by kernel_rfl)) (fun ⟨x0, _⟩ h _ w0 O q => at69 x0 h w0 O q)


end Go.Proofs.YtakodkjcmacofaaDoor

/- Function 28 (spec.ReadSpeed): its runs between cut points. Written by a program of this repo (gen). -/
set_option linter.unusedVariables false
set_option linter.unusedSimpArgs false
set_option maxRecDepth 100000
namespace Go.Proofs.YtakodkjcmacofaaDoor
open Go Go.Am Go.Proofs
def ext28 : Ext := [(26, S26), (69, S69)]
theorem call28_26 : Callable Tryd.prog 26 := ⟨Tryd.f26, Tryd.func26, by kernel_rfl, by kernel_rfl⟩
theorem call28_69 : Callable Tryd.prog 69 := ⟨Tryd.f69, Tryd.func69, by kernel_rfl, by kernel_rfl⟩
theorem ext28Ok : ExtOk Tryd.prog ext28 := ⟨⟨call28_26, con26⟩, ⟨call28_69, con69⟩, trivial⟩
/-! Function 28. -/
noncomputable def b28 : Code := bodyOf Tryd.f28
theorem hb28 : Tryd.f28.body = some b28 := by kernel_rfl
def sig28 : List AT := [AT.v (Ty.str)]
def tys28 : List Ty := [Ty.int IntKind.i64, Ty.bool]
def P28 (x0 : ByteArray) : Prop := ((InR IntKind.i64 ((↑(ByteArray.size x0) : Int) - 4)) ∧ (if (Decidable.decide ((↑(ByteArray.size x0) : Int) - 4 < 1)) = true then True else ((0 ≤ (↑(ByteArray.size x0) : Int) - 4) ∧ ((↑(ByteArray.size x0) : Int) - 4 ≤ (↑(ByteArray.size x0) : Int)) ∧ (if (!ByteArray.toList (ByteArray.extract x0 (Int.toNat ((↑(ByteArray.size x0) : Int) - 4)) (Int.toNat (↑(ByteArray.size x0) : Int))) == ByteArray.toList (ByteArray.mk #[32, 109, 47, 115])) = true then True else ((0 ≤ (↑(ByteArray.size x0) : Int) - 4) ∧ ((↑(ByteArray.size x0) : Int) - 4 ≤ (↑(ByteArray.size x0) : Int)) ∧ ((P26 (ByteArray.extract x0 0 (Int.toNat ((↑(ByteArray.size x0) : Int) - 4))) 3) ∧ True))))))
def g28_0 (x0 : ByteArray) : Int := (if (Decidable.decide ((↑(ByteArray.size x0) : Int) - 4 < 1)) = true then 0 else (if (!ByteArray.toList (ByteArray.extract x0 (Int.toNat ((↑(ByteArray.size x0) : Int) - 4)) (Int.toNat (↑(ByteArray.size x0) : Int))) == ByteArray.toList (ByteArray.mk #[32, 109, 47, 115])) = true then 0 else (if (!g26_1 (ByteArray.extract x0 0 (Int.toNat ((↑(ByteArray.size x0) : Int) - 4))) 3) = true then 0 else (if (!g69_0 (g26_0 (ByteArray.extract x0 0 (Int.toNat ((↑(ByteArray.size x0) : Int) - 4))) 3)) = true then 0 else g26_0 (ByteArray.extract x0 0 (Int.toNat ((↑(ByteArray.size x0) : Int) - 4))) 3))))
def g28_1 (x0 : ByteArray) : Bool := (if (Decidable.decide ((↑(ByteArray.size x0) : Int) - 4 < 1)) = true then Bool.false else (if (!ByteArray.toList (ByteArray.extract x0 (Int.toNat ((↑(ByteArray.size x0) : Int) - 4)) (Int.toNat (↑(ByteArray.size x0) : Int))) == ByteArray.toList (ByteArray.mk #[32, 109, 47, 115])) = true then Bool.false else (if (!g26_1 (ByteArray.extract x0 0 (Int.toNat ((↑(ByteArray.size x0) : Int) - 4))) 3) = true then Bool.false else (if (!g69_0 (g26_0 (ByteArray.extract x0 0 (Int.toNat ((↑(ByteArray.size x0) : Int) - 4))) 3)) = true then Bool.false else Bool.true))))
theorem p28_0 (x0 : ByteArray) : runF tab ext28 false 33 [] 2000 [] tys28 Tryd.f28.results [true, true] [.code b28] (entE 0 0 sig28 (x0, ())) (entL sig28 (x0, ())) = some ([Dyn.mk (Ty.int IntKind.i64) 0, Dyn.mk Ty.bool Bool.false], [], [InR IntKind.i64 ((↑(ByteArray.size x0) : Int) - 4), Decidable.decide ((↑(ByteArray.size x0) : Int) - 4 < 1) = Bool.true, Bool.true = Bool.true]) := by kernel_rfl
theorem p28_1 (x0 : ByteArray) : runF tab ext28 false 33 [] 2000 [] tys28 Tryd.f28.results [false, true] [.code b28] (entE 0 0 sig28 (x0, ())) (entL sig28 (x0, ())) = some ([Dyn.mk (Ty.int IntKind.i64) 0, Dyn.mk Ty.bool Bool.false], [], [InR IntKind.i64 ((↑(ByteArray.size x0) : Int) - 4), Decidable.decide ((↑(ByteArray.size x0) : Int) - 4 < 1) = Bool.false, 0 ≤ (↑(ByteArray.size x0) : Int) - 4, (↑(ByteArray.size x0) : Int) - 4 ≤ (↑(ByteArray.size x0) : Int), (!ByteArray.toList (ByteArray.extract x0 (Int.toNat ((↑(ByteArray.size x0) : Int) - 4)) (Int.toNat (↑(ByteArray.size x0) : Int))) == ByteArray.toList (ByteArray.mk #[32, 109, 47, 115])) = Bool.true]) := by kernel_rfl
theorem p28_2 (x0 : ByteArray) : runF tab ext28 false 33 [] 2000 [] tys28 Tryd.f28.results [false, false, true, true] [.code b28] (entE 0 0 sig28 (x0, ())) (entL sig28 (x0, ())) = some ([Dyn.mk (Ty.int IntKind.i64) 0, Dyn.mk Ty.bool Bool.false], [], [InR IntKind.i64 ((↑(ByteArray.size x0) : Int) - 4), Decidable.decide ((↑(ByteArray.size x0) : Int) - 4 < 1) = Bool.false, 0 ≤ (↑(ByteArray.size x0) : Int) - 4, (↑(ByteArray.size x0) : Int) - 4 ≤ (↑(ByteArray.size x0) : Int), (!ByteArray.toList (ByteArray.extract x0 (Int.toNat ((↑(ByteArray.size x0) : Int) - 4)) (Int.toNat (↑(ByteArray.size x0) : Int))) == ByteArray.toList (ByteArray.mk #[32, 109, 47, 115])) = Bool.false, 0 ≤ (↑(ByteArray.size x0) : Int) - 4, (↑(ByteArray.size x0) : Int) - 4 ≤ (↑(ByteArray.size x0) : Int), P26 (ByteArray.extract x0 0 (Int.toNat ((↑(ByteArray.size x0) : Int) - 4))) 3, (!g26_1 (ByteArray.extract x0 0 (Int.toNat ((↑(ByteArray.size x0) : Int) - 4))) 3) = Bool.true, Bool.true = Bool.true]) := by kernel_rfl
theorem p28_3 (x0 : ByteArray) : runF tab ext28 false 33 [] 2000 [] tys28 Tryd.f28.results [false, false, false, true] [.code b28] (entE 0 0 sig28 (x0, ())) (entL sig28 (x0, ())) = some ([Dyn.mk (Ty.int IntKind.i64) 0, Dyn.mk Ty.bool Bool.false], [], [InR IntKind.i64 ((↑(ByteArray.size x0) : Int) - 4), Decidable.decide ((↑(ByteArray.size x0) : Int) - 4 < 1) = Bool.false, 0 ≤ (↑(ByteArray.size x0) : Int) - 4, (↑(ByteArray.size x0) : Int) - 4 ≤ (↑(ByteArray.size x0) : Int), (!ByteArray.toList (ByteArray.extract x0 (Int.toNat ((↑(ByteArray.size x0) : Int) - 4)) (Int.toNat (↑(ByteArray.size x0) : Int))) == ByteArray.toList (ByteArray.mk #[32, 109, 47, 115])) = Bool.false, 0 ≤ (↑(ByteArray.size x0) : Int) - 4, (↑(ByteArray.size x0) : Int) - 4 ≤ (↑(ByteArray.size x0) : Int), P26 (ByteArray.extract x0 0 (Int.toNat ((↑(ByteArray.size x0) : Int) - 4))) 3, (!g26_1 (ByteArray.extract x0 0 (Int.toNat ((↑(ByteArray.size x0) : Int) - 4))) 3) = Bool.false, True, (!g69_0 (g26_0 (ByteArray.extract x0 0 (Int.toNat ((↑(ByteArray.size x0) : Int) - 4))) 3)) = Bool.true]) := by kernel_rfl
theorem p28_4 (x0 : ByteArray) : runF tab ext28 false 33 [] 2000 [] tys28 Tryd.f28.results [false, false, false, false] [.code b28] (entE 0 0 sig28 (x0, ())) (entL sig28 (x0, ())) = some ([Dyn.mk (Ty.int IntKind.i64) (g26_0 (ByteArray.extract x0 0 (Int.toNat ((↑(ByteArray.size x0) : Int) - 4))) 3), Dyn.mk Ty.bool Bool.true], [], [InR IntKind.i64 ((↑(ByteArray.size x0) : Int) - 4), Decidable.decide ((↑(ByteArray.size x0) : Int) - 4 < 1) = Bool.false, 0 ≤ (↑(ByteArray.size x0) : Int) - 4, (↑(ByteArray.size x0) : Int) - 4 ≤ (↑(ByteArray.size x0) : Int), (!ByteArray.toList (ByteArray.extract x0 (Int.toNat ((↑(ByteArray.size x0) : Int) - 4)) (Int.toNat (↑(ByteArray.size x0) : Int))) == ByteArray.toList (ByteArray.mk #[32, 109, 47, 115])) = Bool.false, 0 ≤ (↑(ByteArray.size x0) : Int) - 4, (↑(ByteArray.size x0) : Int) - 4 ≤ (↑(ByteArray.size x0) : Int), P26 (ByteArray.extract x0 0 (Int.toNat ((↑(ByteArray.size x0) : Int) - 4))) 3, (!g26_1 (ByteArray.extract x0 0 (Int.toNat ((↑(ByteArray.size x0) : Int) - 4))) 3) = Bool.false, True, (!g69_0 (g26_0 (ByteArray.extract x0 0 (Int.toNat ((↑(ByteArray.size x0) : Int) - 4))) 3)) = Bool.false]) := by kernel_rfl
theorem at28 (x0 : ByteArray) (h : P28 x0) (w0 : World) (O : List Nat) (q : Nat → Value) : AtV Tryd.prog 28 (PostR [⟨Ty.int IntKind.i64, g28_0 x0⟩, ⟨Ty.bool, g28_1 x0⟩] [] [] q w0 O) 33 w0 O q [] [.code b28] (entE 0 0 sig28 (x0, ())) (entL sig28 (x0, ())) := by
  unfold P28 at h
  unfold g28_0 g28_1
  obtain ⟨s0, h⟩ := h
  by_cases b0 : (Decidable.decide ((↑(ByteArray.size x0) : Int) - 4 < 1)) = true
  · try simp only [if_pos b0] at h ⊢
    exact AtV.fin Tryd.func28 tabOk ext28Ok mixed (p28_0 x0) ⟨s0, b0, rfl, trivial⟩
  · try simp only [if_neg b0] at h ⊢
    replace b0 := Bool.eq_false_iff.2 b0
    obtain ⟨s1, s2, h⟩ := h
    by_cases b1 : (!ByteArray.toList (ByteArray.extract x0 (Int.toNat ((↑(ByteArray.size x0) : Int) - 4)) (Int.toNat (↑(ByteArray.size x0) : Int))) == ByteArray.toList (ByteArray.mk #[32, 109, 47, 115])) = true
    · try simp only [if_pos b1] at h ⊢
      exact AtV.fin Tryd.func28 tabOk ext28Ok mixed (p28_1 x0) ⟨s0, b0, s1, s2, b1, trivial⟩
    · try simp only [if_neg b1] at h ⊢
      replace b1 := Bool.eq_false_iff.2 b1
      obtain ⟨s3, s4, h⟩ := h
      obtain ⟨s5, h⟩ := h
      by_cases b2 : (!g26_1 (ByteArray.extract x0 0 (Int.toNat ((↑(ByteArray.size x0) : Int) - 4))) 3) = true
      · try simp only [if_pos b2] at h ⊢
        exact AtV.fin Tryd.func28 tabOk ext28Ok mixed (p28_2 x0) ⟨s0, b0, s1, s2, b1, s3, s4, s5, b2, rfl, trivial⟩
      · try simp only [if_neg b2] at h ⊢
        replace b2 := Bool.eq_false_iff.2 b2
        by_cases b3 : (!g69_0 (g26_0 (ByteArray.extract x0 0 (Int.toNat ((↑(ByteArray.size x0) : Int) - 4))) 3)) = true
        · try simp only [if_pos b3] at h ⊢
          exact AtV.fin Tryd.func28 tabOk ext28Ok mixed (p28_3 x0) ⟨s0, b0, s1, s2, b1, s3, s4, s5, b2, trivial, b3, trivial⟩
        · try simp only [if_neg b3] at h ⊢
          replace b3 := Bool.eq_false_iff.2 b3
          exact AtV.fin Tryd.func28 tabOk ext28Ok mixed (p28_4 x0) ⟨s0, b0, s1, s2, b1, s3, s4, s5, b2, trivial, b3, trivial⟩

def S28 : Am.Spec := { sig := sig28, pre := fun ⟨x0, _⟩ => P28 x0, res := fun ⟨x0, _⟩ => [⟨Ty.int IntKind.i64, g28_0 x0⟩, ⟨Ty.bool, g28_1 x0⟩] }
theorem con28 : Contract Tryd.prog 28 S28 := contract_of Tryd.func28 hb28 (Nat.le_of_ble_eq_true (by kernel_rfl)) (fun ⟨x0, _⟩ h _ w0 O q => at28 x0 h w0 O q)


end Go.Proofs.YtakodkjcmacofaaDoor

/- The contracts of the library that this program uses, laid at this program. Written by a tool of the kit. -/
set_option linter.unusedVariables false
set_option maxRecDepth 100000
namespace Go.Proofs
open Go.Shelf
def Tryd.lays156_ren : Go.Shelf.Ren := ⟨fun | 156 => 157 | 165 => 169 | 166 => 93 | 169 => 97 | 240 => 140 | 241 => 187 | 276 => 166 | 277 => 196 | n => n, fun | 31 => 67 | 9 => 9 | 3 => 3 | 4 => 4 | 0 => 0 | 20 => 20 | 72 => 95 | 76 => 98 | 70 => 93 | 37 => 45 | 75 => 97 | 127 => 133 | 164 => 143 | 5 => 5 | 80 => 102 | n => n, fun | n => n⟩
theorem Tryd.lays156 : Go.Proofs.Lays.n156 Tryd.prog Tryd.lays156_ren := {
  mixed := by kernel_rfl
  f156 := Tryd.func157.trans (congrArg some (by kernel_rfl))
  f165 := Tryd.func169.trans (congrArg some (by kernel_rfl))
  f166 := Tryd.func93.trans (congrArg some (by kernel_rfl))
  f169 := Tryd.func97.trans (congrArg some (by kernel_rfl))
  f240 := Tryd.func140.trans (congrArg some (by kernel_rfl))
  f241 := Tryd.func187.trans (congrArg some (by kernel_rfl))
  f276 := Tryd.func166.trans (congrArg some (by kernel_rfl))
  f277 := Tryd.func196.trans (congrArg some (by kernel_rfl))
  t0 := Tryd.underlying0
  a0 := Tryd.isAgg0
  z0 := Tryd.sizeOf0
  v0 := Tryd.zeroValue0
  t3 := Tryd.underlying3
  a3 := Tryd.isAgg3
  z3 := Tryd.sizeOf3
  v3 := Tryd.zeroValue3
  t4 := Tryd.underlying4
  a4 := Tryd.isAgg4
  z4 := Tryd.sizeOf4
  v4 := Tryd.zeroValue4
  t9 := Tryd.underlying9
  a9 := Tryd.isAgg9
  z9 := Tryd.sizeOf9
  v9 := Tryd.zeroValue9
  t20 := Tryd.underlying20
  a20 := Tryd.isAgg20
  z20 := Tryd.sizeOf20
  v20 := Tryd.zeroValue20
  t31 := Tryd.underlying67
  a31 := Tryd.isAgg67
  z31 := Tryd.sizeOf67
  v31 := Tryd.zeroValue67
  t37 := Tryd.underlying45
  a37 := Tryd.isAgg45
  z37 := Tryd.sizeOf45
  v37 := Tryd.zeroValue45
  t70 := Tryd.underlying93
  a70 := Tryd.isAgg93
  z70 := Tryd.sizeOf93
  v70 := Tryd.zeroValue93
  t72 := Tryd.underlying95
  a72 := Tryd.isAgg95
  z72 := Tryd.sizeOf95
  v72 := Tryd.zeroValue95
  t75 := Tryd.underlying97
  a75 := Tryd.isAgg97
  z75 := Tryd.sizeOf97
  v75 := Tryd.zeroValue97
  t76 := Tryd.underlying98
  a76 := Tryd.isAgg98
  z76 := Tryd.sizeOf98
  v76 := Tryd.zeroValue98
  t127 := Tryd.underlying133
  a127 := Tryd.isAgg133
  z127 := Tryd.sizeOf133
  v127 := Tryd.zeroValue133
  t164 := Tryd.underlying143
  a164 := Tryd.isAgg143
  z164 := Tryd.sizeOf143
  v164 := Tryd.zeroValue143 }
theorem Tryd.Builder_Extra_156 : Builder.Extra Tryd.prog Tryd.lays156_ren := {
  sizeBuilder := by kernel_rfl
  liesBuilder := by kernel_rfl
  t5 := Tryd.underlying5
  a5 := Tryd.isAgg5
  z5 := Tryd.sizeOf5
  v5 := Tryd.zeroValue5
  infoByte := by kernel_rfl
  cellsByte := by kernel_rfl
  sizeByte := by kernel_rfl
  neB5 := by decide }
open Go.RowKit in theorem Tryd.strings_Join_none (a : Option Addr) (c : Nat) (sep : ByteArray) (w : World) :
    Calls Tryd.prog 157 #[.slice a 0 c, .string sep] w fun e w' => e = .returned (.string ⟨#[]⟩) ∧ w' = w := Any.strings_Join_none Tryd.lays156 Tryd.Builder_Extra_156 a c sep w
open Go.RowKit in theorem Tryd.strings_Join (bk o c : Nat) (xs : List ByteArray) (sep : ByteArray) (w : World) (hcells : ∀ (j : Nat) x, xs[j]? = some x → w.cell? ⟨bk, o + j, none⟩ = some (.string x)) (hbk : bk < w.heap.size) (hN : xs.length ≤ 140737488355328) (hcap : xs.length ≤ c) (hlen : (Lib.join (xs.map (·.data.toList)) sep.data.toList).length ≤ 140737488355328) :
    Calls Tryd.prog 157 #[.slice (some ⟨bk, o, none⟩) xs.length c, .string sep] w fun e w' => e = .returned (.string ⟨(Lib.join (xs.map (·.data.toList)) sep.data.toList).toArray⟩) ∧ Below w.heap.size w w' := Any.strings_Join Tryd.lays156 Tryd.Builder_Extra_156 bk o c xs sep w hcells hbk hN hcap hlen
def Tryd.laysM173_ren : Go.Shelf.Ren := ⟨fun | 173 => 141 | 246 => 167 | 283 => 181 | 284 => 182 | 285 => 183 | 286 => 184 | 129 => 192 | 317 => 191 | 318 => 193 | 319 => 194 | 320 => 195 | 337 => 197 | 338 => 198 | n => n, fun | 2 => 2 | 3 => 3 | 9 => 9 | 4 => 4 | 171 => 157 | 0 => 0 | 53 => 134 | 37 => 45 | 5 => 5 | 173 => 160 | 212 => 169 | 51 => 162 | 20 => 20 | 213 => 170 | 46 => 145 | 232 => 179 | 233 => 180 | n => n, fun | 17 => 1 | 18 => 4 | 19 => 5 | n => n⟩
theorem Tryd.laysM173 : Go.Proofs.LaysM.n173 Tryd.prog Tryd.laysM173_ren := {
  mixed := by kernel_rfl
  f129 := Tryd.func192.trans (congrArg some (by kernel_rfl))
  f173 := Tryd.func141.trans (congrArg some (by kernel_rfl))
  f246 := Tryd.func167.trans (congrArg some (by kernel_rfl))
  f283 := Tryd.func181.trans (congrArg some (by kernel_rfl))
  f284 := Tryd.func182.trans (congrArg some (by kernel_rfl))
  f285 := Tryd.func183.trans (congrArg some (by kernel_rfl))
  f286 := Tryd.func184.trans (congrArg some (by kernel_rfl))
  f317 := Tryd.func191.trans (congrArg some (by kernel_rfl))
  f318 := Tryd.func193.trans (congrArg some (by kernel_rfl))
  f319 := Tryd.func194.trans (congrArg some (by kernel_rfl))
  f320 := Tryd.func195.trans (congrArg some (by kernel_rfl))
  f337 := Tryd.func197.trans (congrArg some (by kernel_rfl))
  f338 := Tryd.func198.trans (congrArg some (by kernel_rfl))
  t0 := Tryd.underlying0
  a0 := Tryd.isAgg0
  z0 := Tryd.sizeOf0
  v0 := Tryd.zeroValue0
  t2 := Tryd.underlying2
  a2 := Tryd.isAgg2
  z2 := Tryd.sizeOf2
  v2 := Tryd.zeroValue2
  t3 := Tryd.underlying3
  a3 := Tryd.isAgg3
  z3 := Tryd.sizeOf3
  v3 := Tryd.zeroValue3
  t4 := Tryd.underlying4
  a4 := Tryd.isAgg4
  z4 := Tryd.sizeOf4
  v4 := Tryd.zeroValue4
  t5 := Tryd.underlying5
  a5 := Tryd.isAgg5
  z5 := Tryd.sizeOf5
  v5 := Tryd.zeroValue5
  t9 := Tryd.underlying9
  a9 := Tryd.isAgg9
  z9 := Tryd.sizeOf9
  v9 := Tryd.zeroValue9
  t20 := Tryd.underlying20
  a20 := Tryd.isAgg20
  z20 := Tryd.sizeOf20
  v20 := Tryd.zeroValue20
  t37 := Tryd.underlying45
  a37 := Tryd.isAgg45
  z37 := Tryd.sizeOf45
  v37 := Tryd.zeroValue45
  t46 := Tryd.underlying145
  a46 := Tryd.isAgg145
  z46 := Tryd.sizeOf145
  v46 := Tryd.zeroValue145
  t51 := Tryd.underlying162
  a51 := Tryd.isAgg162
  z51 := Tryd.sizeOf162
  v51 := Tryd.zeroValue162
  t53 := Tryd.underlying134
  a53 := Tryd.isAgg134
  z53 := Tryd.sizeOf134
  v53 := Tryd.zeroValue134
  t171 := Tryd.underlying157
  a171 := Tryd.isAgg157
  z171 := Tryd.sizeOf157
  v171 := Tryd.zeroValue157
  t173 := Tryd.underlying160
  a173 := Tryd.isAgg160
  z173 := Tryd.sizeOf160
  v173 := Tryd.zeroValue160
  t212 := Tryd.underlying169
  a212 := Tryd.isAgg169
  z212 := Tryd.sizeOf169
  v212 := Tryd.zeroValue169
  t213 := Tryd.underlying170
  a213 := Tryd.isAgg170
  z213 := Tryd.sizeOf170
  t232 := Tryd.underlying179
  a232 := Tryd.isAgg179
  z232 := Tryd.sizeOf179
  v232 := Tryd.zeroValue179
  t233 := Tryd.underlying180
  a233 := Tryd.isAgg180
  z233 := Tryd.sizeOf180
  v233 := Tryd.zeroValue180
  g17 := by kernel_rfl
  g18 := by kernel_rfl
  g19 := by kernel_rfl
  i0 := by kernel_rfl
  i2 := by kernel_rfl
  i3 := by kernel_rfl
  i4 := by kernel_rfl
  i5 := by kernel_rfl
  i9 := by kernel_rfl
  i20 := by kernel_rfl
  i37 := by kernel_rfl
  i46 := by kernel_rfl
  i51 := by kernel_rfl
  i53 := by kernel_rfl
  i171 := by kernel_rfl
  i173 := by kernel_rfl
  i212 := by kernel_rfl
  i232 := by kernel_rfl
  i233 := by kernel_rfl
  m17 := by kernel_rfl
  m18 := by kernel_rfl
  m19 := by kernel_rfl }
open Go.RowKit Go.Sort Go.Lib in theorem Tryd.strconv_FormatInt_10 (n : Int) (h0 : -9223372036854775808 ≤ n) (h1 : n ≤ 9223372036854775807) (w : World) (htab : Lib.TabIs Tryd.prog w "internal/strconv.uint64pow10" .u64 Lib.pow10Tab) :
    Calls Tryd.prog 141 #[.int .i64 n, .int .i64 10] w fun e w' => e = .returned (.string ⟨(Lib.itoa n).toArray⟩) ∧ ∃ k os, w' = grow (w.drewN k) os := Any.strconv_FormatInt_10 Tryd.laysM173 n h0 h1 w htab
def Tryd.lays144_ren : Go.Shelf.Ren := ⟨fun | 144 => 163 | 143 => 162 | 219 => 147 | 217 => 171 | 225 => 172 | 224 => 173 | 267 => 174 | 266 => 188 | 314 => 189 | n => n, fun | 9 => 9 | 4 => 4 | 3 => 3 | 5 => 5 | 46 => 145 | 146 => 163 | 51 => 162 | n => n, fun | 1 => 0 | n => n⟩
theorem Tryd.lays144 : Go.Proofs.Lays.n144 Tryd.prog Tryd.lays144_ren := {
  mixed := by kernel_rfl
  f143 := Tryd.func162.trans (congrArg some (by kernel_rfl))
  f144 := Tryd.func163.trans (congrArg some (by kernel_rfl))
  f217 := Tryd.func171.trans (congrArg some (by kernel_rfl))
  f219 := Tryd.func147.trans (congrArg some (by kernel_rfl))
  f224 := Tryd.func173.trans (congrArg some (by kernel_rfl))
  f225 := Tryd.func172.trans (congrArg some (by kernel_rfl))
  f266 := Tryd.func188.trans (congrArg some (by kernel_rfl))
  f267 := Tryd.func174.trans (congrArg some (by kernel_rfl))
  f314 := Tryd.func189.trans (congrArg some (by kernel_rfl))
  t3 := Tryd.underlying3
  a3 := Tryd.isAgg3
  z3 := Tryd.sizeOf3
  v3 := Tryd.zeroValue3
  t4 := Tryd.underlying4
  a4 := Tryd.isAgg4
  z4 := Tryd.sizeOf4
  v4 := Tryd.zeroValue4
  t5 := Tryd.underlying5
  a5 := Tryd.isAgg5
  z5 := Tryd.sizeOf5
  v5 := Tryd.zeroValue5
  t9 := Tryd.underlying9
  a9 := Tryd.isAgg9
  z9 := Tryd.sizeOf9
  v9 := Tryd.zeroValue9
  t46 := Tryd.underlying145
  a46 := Tryd.isAgg145
  z46 := Tryd.sizeOf145
  v46 := Tryd.zeroValue145
  t51 := Tryd.underlying162
  a51 := Tryd.isAgg162
  z51 := Tryd.sizeOf162
  v51 := Tryd.zeroValue162
  t146 := Tryd.underlying163
  a146 := Tryd.isAgg163
  z146 := Tryd.sizeOf163
  v146 := Tryd.zeroValue163
  g1 := by kernel_rfl }
open Go.RowKit Go.Lib in theorem Tryd.strings_Contains (s sub : ByteArray) (m : Int) (w : World) (hs : s.size < 4294967281) (hm : w.cell? ⟨0, 0, none⟩ = some (.int .i64 m)) :
    Calls Tryd.prog 163 #[.string s, .string sub] w fun e w' => e = .returned (.bool (Lib.contains s.data.toList sub.data.toList)) ∧ w' = w := Any.strings_Contains Tryd.lays144 s sub m w hs hm
def Tryd.lays145_ren : Go.Shelf.Ren := ⟨fun | 145 => 64 | 220 => 123 | 219 => 147 | 217 => 171 | 225 => 172 | 224 => 173 | 267 => 174 | 266 => 188 | 314 => 189 | n => n, fun | 9 => 9 | 4 => 4 | 59 => 64 | 3 => 3 | 5 => 5 | 46 => 145 | 146 => 163 | 51 => 162 | n => n, fun | 1 => 0 | n => n⟩
theorem Tryd.lays145 : Go.Proofs.Lays.n145 Tryd.prog Tryd.lays145_ren := {
  mixed := by kernel_rfl
  f145 := Tryd.func64.trans (congrArg some (by kernel_rfl))
  f217 := Tryd.func171.trans (congrArg some (by kernel_rfl))
  f219 := Tryd.func147.trans (congrArg some (by kernel_rfl))
  f220 := Tryd.func123.trans (congrArg some (by kernel_rfl))
  f224 := Tryd.func173.trans (congrArg some (by kernel_rfl))
  f225 := Tryd.func172.trans (congrArg some (by kernel_rfl))
  f266 := Tryd.func188.trans (congrArg some (by kernel_rfl))
  f267 := Tryd.func174.trans (congrArg some (by kernel_rfl))
  f314 := Tryd.func189.trans (congrArg some (by kernel_rfl))
  t3 := Tryd.underlying3
  a3 := Tryd.isAgg3
  z3 := Tryd.sizeOf3
  v3 := Tryd.zeroValue3
  t4 := Tryd.underlying4
  a4 := Tryd.isAgg4
  z4 := Tryd.sizeOf4
  v4 := Tryd.zeroValue4
  t5 := Tryd.underlying5
  a5 := Tryd.isAgg5
  z5 := Tryd.sizeOf5
  v5 := Tryd.zeroValue5
  t9 := Tryd.underlying9
  a9 := Tryd.isAgg9
  z9 := Tryd.sizeOf9
  v9 := Tryd.zeroValue9
  t46 := Tryd.underlying145
  a46 := Tryd.isAgg145
  z46 := Tryd.sizeOf145
  v46 := Tryd.zeroValue145
  t51 := Tryd.underlying162
  a51 := Tryd.isAgg162
  z51 := Tryd.sizeOf162
  v51 := Tryd.zeroValue162
  t59 := Tryd.underlying64
  a59 := Tryd.isAgg64
  z59 := Tryd.sizeOf64
  v59 := Tryd.zeroValue64
  t146 := Tryd.underlying163
  a146 := Tryd.isAgg163
  z146 := Tryd.sizeOf163
  v146 := Tryd.zeroValue163
  g1 := by kernel_rfl }
open Go.RowKit Go.Lib in theorem Tryd.strings_Cut (s sep : ByteArray) (m : Int) (w : World) (hs : s.size < 4294967281) (hm : w.cell? ⟨0, 0, none⟩ = some (.int .i64 m)) :
    Calls Tryd.prog 64 #[.string s, .string sep] w fun e w' => e = .returned (.tuple #[.string ⟨(Lib.cut s.data.toList sep.data.toList).1.toArray⟩, .string ⟨(Lib.cut s.data.toList sep.data.toList).2.1.toArray⟩, .bool (Lib.cut s.data.toList sep.data.toList).2.2]) ∧ ∃ n, w' = w.drewN n := Any.strings_Cut Tryd.lays145 s sep m w hs hm
def Tryd.lays99_ren : Go.Shelf.Ren := ⟨fun | 99 => 84 | 206 => 131 | n => n, fun | 9 => 9 | 4 => 4 | 3 => 3 | n => n, fun | n => n⟩
theorem Tryd.lays99 : Go.Proofs.Lays.n99 Tryd.prog Tryd.lays99_ren := {
  mixed := by kernel_rfl
  f99 := Tryd.func84.trans (congrArg some (by kernel_rfl))
  f206 := Tryd.func131.trans (congrArg some (by kernel_rfl))
  t3 := Tryd.underlying3
  a3 := Tryd.isAgg3
  z3 := Tryd.sizeOf3
  v3 := Tryd.zeroValue3
  t4 := Tryd.underlying4
  a4 := Tryd.isAgg4
  z4 := Tryd.sizeOf4
  v4 := Tryd.zeroValue4
  t9 := Tryd.underlying9
  a9 := Tryd.isAgg9
  z9 := Tryd.sizeOf9
  v9 := Tryd.zeroValue9 }
open Go.RowKit Go.Lib in theorem Tryd.strings_HasPrefix (s p : ByteArray) (w : World) :
    Calls Tryd.prog 84 #[.string s, .string p] w fun e w' => e = .returned (.bool (Lib.hasPrefix s.data.toList p.data.toList)) ∧ w' = w := Any.strings_HasPrefix Tryd.lays99 s p w
def Tryd.lays101_ren : Go.Shelf.Ren := ⟨fun | 101 => 83 | 208 => 130 | 206 => 131 | n => n, fun | 9 => 9 | 4 => 4 | 3 => 3 | n => n, fun | n => n⟩
theorem Tryd.lays101 : Go.Proofs.Lays.n101 Tryd.prog Tryd.lays101_ren := {
  mixed := by kernel_rfl
  f101 := Tryd.func83.trans (congrArg some (by kernel_rfl))
  f206 := Tryd.func131.trans (congrArg some (by kernel_rfl))
  f208 := Tryd.func130.trans (congrArg some (by kernel_rfl))
  t3 := Tryd.underlying3
  a3 := Tryd.isAgg3
  z3 := Tryd.sizeOf3
  v3 := Tryd.zeroValue3
  t4 := Tryd.underlying4
  a4 := Tryd.isAgg4
  z4 := Tryd.sizeOf4
  v4 := Tryd.zeroValue4
  t9 := Tryd.underlying9
  a9 := Tryd.isAgg9
  z9 := Tryd.sizeOf9
  v9 := Tryd.zeroValue9 }
open Go.RowKit Go.Lib in theorem Tryd.strings_TrimPrefix (s p : ByteArray) (w : World) :
    Calls Tryd.prog 83 #[.string s, .string p] w fun e w' => e = .returned (.string ⟨(Lib.trimPrefix s.data.toList p.data.toList).toArray⟩) ∧ w' = w := Any.strings_TrimPrefix Tryd.lays101 s p w
def Tryd.lays102_ren : Go.Shelf.Ren := ⟨fun | 102 => 85 | 209 => 132 | 207 => 158 | n => n, fun | 9 => 9 | 4 => 4 | 3 => 3 | n => n, fun | n => n⟩
theorem Tryd.lays102 : Go.Proofs.Lays.n102 Tryd.prog Tryd.lays102_ren := {
  mixed := by kernel_rfl
  f102 := Tryd.func85.trans (congrArg some (by kernel_rfl))
  f207 := Tryd.func158.trans (congrArg some (by kernel_rfl))
  f209 := Tryd.func132.trans (congrArg some (by kernel_rfl))
  t3 := Tryd.underlying3
  a3 := Tryd.isAgg3
  z3 := Tryd.sizeOf3
  v3 := Tryd.zeroValue3
  t4 := Tryd.underlying4
  a4 := Tryd.isAgg4
  z4 := Tryd.sizeOf4
  v4 := Tryd.zeroValue4
  t9 := Tryd.underlying9
  a9 := Tryd.isAgg9
  z9 := Tryd.sizeOf9
  v9 := Tryd.zeroValue9 }
open Go.RowKit Go.Lib in theorem Tryd.strings_TrimSuffix (s p : ByteArray) (w : World) (hs : s.size ≤ 9223372036854775807) :
    Calls Tryd.prog 85 #[.string s, .string p] w fun e w' => e = .returned (.string ⟨(Lib.trimSuffix s.data.toList p.data.toList).toArray⟩) ∧ w' = w := Any.strings_TrimSuffix Tryd.lays102 s p w hs
def Tryd.lays146_ren : Go.Shelf.Ren := ⟨fun | 146 => 87 | 221 => 134 | 268 => 160 | 138 => 161 | 143 => 162 | 195 => 177 | 197 => 178 | 218 => 179 | 219 => 147 | 260 => 190 | 217 => 171 | 225 => 172 | 224 => 173 | 267 => 174 | 266 => 188 | 314 => 189 | n => n, fun | 9 => 9 | 31 => 67 | 3 => 3 | 4 => 4 | 0 => 0 | 105 => 154 | 21 => 21 | 5 => 5 | 46 => 145 | 119 => 174 | 139 => 177 | 138 => 176 | 146 => 163 | 51 => 162 | n => n, fun | 1 => 0 | 3 => 2 | 4 => 3 | n => n⟩
theorem Tryd.lays146 : Go.Proofs.Lays.n146 Tryd.prog Tryd.lays146_ren := {
  mixed := by kernel_rfl
  f138 := Tryd.func161.trans (congrArg some (by kernel_rfl))
  f143 := Tryd.func162.trans (congrArg some (by kernel_rfl))
  f146 := Tryd.func87.trans (congrArg some (by kernel_rfl))
  f195 := Tryd.func177.trans (congrArg some (by kernel_rfl))
  f197 := Tryd.func178.trans (congrArg some (by kernel_rfl))
  f217 := Tryd.func171.trans (congrArg some (by kernel_rfl))
  f218 := Tryd.func179.trans (congrArg some (by kernel_rfl))
  f219 := Tryd.func147.trans (congrArg some (by kernel_rfl))
  f221 := Tryd.func134.trans (congrArg some (by kernel_rfl))
  f224 := Tryd.func173.trans (congrArg some (by kernel_rfl))
  f225 := Tryd.func172.trans (congrArg some (by kernel_rfl))
  f260 := Tryd.func190.trans (congrArg some (by kernel_rfl))
  f266 := Tryd.func188.trans (congrArg some (by kernel_rfl))
  f267 := Tryd.func174.trans (congrArg some (by kernel_rfl))
  f268 := Tryd.func160.trans (congrArg some (by kernel_rfl))
  f314 := Tryd.func189.trans (congrArg some (by kernel_rfl))
  t0 := Tryd.underlying0
  a0 := Tryd.isAgg0
  z0 := Tryd.sizeOf0
  v0 := Tryd.zeroValue0
  t3 := Tryd.underlying3
  a3 := Tryd.isAgg3
  z3 := Tryd.sizeOf3
  v3 := Tryd.zeroValue3
  t4 := Tryd.underlying4
  a4 := Tryd.isAgg4
  z4 := Tryd.sizeOf4
  v4 := Tryd.zeroValue4
  t5 := Tryd.underlying5
  a5 := Tryd.isAgg5
  z5 := Tryd.sizeOf5
  v5 := Tryd.zeroValue5
  t9 := Tryd.underlying9
  a9 := Tryd.isAgg9
  z9 := Tryd.sizeOf9
  v9 := Tryd.zeroValue9
  t21 := Tryd.underlying21
  a21 := Tryd.isAgg21
  z21 := Tryd.sizeOf21
  v21 := Tryd.zeroValue21
  t31 := Tryd.underlying67
  a31 := Tryd.isAgg67
  z31 := Tryd.sizeOf67
  v31 := Tryd.zeroValue67
  t46 := Tryd.underlying145
  a46 := Tryd.isAgg145
  z46 := Tryd.sizeOf145
  v46 := Tryd.zeroValue145
  t51 := Tryd.underlying162
  a51 := Tryd.isAgg162
  z51 := Tryd.sizeOf162
  v51 := Tryd.zeroValue162
  t105 := Tryd.underlying154
  a105 := Tryd.isAgg154
  z105 := Tryd.sizeOf154
  v105 := Tryd.zeroValue154
  t119 := Tryd.underlying174
  a119 := Tryd.isAgg174
  z119 := Tryd.sizeOf174
  t138 := Tryd.underlying176
  a138 := Tryd.isAgg176
  z138 := Tryd.sizeOf176
  v138 := Tryd.zeroValue176
  t139 := Tryd.underlying177
  a139 := Tryd.isAgg177
  z139 := Tryd.sizeOf177
  v139 := Tryd.zeroValue177
  t146 := Tryd.underlying163
  a146 := Tryd.isAgg163
  z146 := Tryd.sizeOf163
  v146 := Tryd.zeroValue163
  g1 := by kernel_rfl
  g3 := by kernel_rfl
  g4 := by kernel_rfl }
open Go.RowKit Go.Lib in theorem Tryd.strings_Split (s sep : ByteArray) (m : Int) (w : World) (hs : s.size < 4294967281) (hm : w.cell? ⟨0, 0, none⟩ = some (.int .i64 m)) (h1 : 1 ≤ sep.size) :
    Calls Tryd.prog 87 #[.string s, .string sep] w fun e w' =>
      e = .returned (.slice (some ⟨w.heap.size, 0, none⟩) (Lib.countB s sep + 1) (Lib.countB s sep + 1)) ∧ w' = w.alloc (.cells ((Lib.splitB sep 0 (Lib.countB s sep) s).map Value.string).toArray 9) := Any.strings_Split Tryd.lays146 (by kernel_rfl) s sep m w hs hm h1
def Tryd.lays105_ren : Go.Shelf.Ren := ⟨fun | 105 => 143 | 212 => 168 | 99 => 84 | 165 => 169 | 166 => 93 | 170 => 170 | 169 => 97 | 263 => 185 | 264 => 186 | 206 => 131 | 240 => 140 | 241 => 187 | 276 => 166 | 277 => 196 | n => n, fun | 9 => 9 | 3 => 3 | 4 => 4 | 20 => 20 | 0 => 0 | 46 => 145 | 109 => 146 | 5 => 5 | 72 => 95 | 76 => 98 | 51 => 162 | 146 => 163 | 53 => 134 | 148 => 165 | 70 => 93 | 37 => 45 | 75 => 97 | 127 => 133 | 164 => 143 | 80 => 102 | n => n, fun | n => n⟩
theorem Tryd.lays105 : Go.Proofs.Lays.n105 Tryd.prog Tryd.lays105_ren := {
  mixed := by kernel_rfl
  f99 := Tryd.func84.trans (congrArg some (by kernel_rfl))
  f105 := Tryd.func143.trans (congrArg some (by kernel_rfl))
  f165 := Tryd.func169.trans (congrArg some (by kernel_rfl))
  f166 := Tryd.func93.trans (congrArg some (by kernel_rfl))
  f169 := Tryd.func97.trans (congrArg some (by kernel_rfl))
  f170 := Tryd.func170.trans (congrArg some (by kernel_rfl))
  f206 := Tryd.func131.trans (congrArg some (by kernel_rfl))
  f212 := Tryd.func168.trans (congrArg some (by kernel_rfl))
  f240 := Tryd.func140.trans (congrArg some (by kernel_rfl))
  f241 := Tryd.func187.trans (congrArg some (by kernel_rfl))
  f263 := Tryd.func185.trans (congrArg some (by kernel_rfl))
  f264 := Tryd.func186.trans (congrArg some (by kernel_rfl))
  f276 := Tryd.func166.trans (congrArg some (by kernel_rfl))
  f277 := Tryd.func196.trans (congrArg some (by kernel_rfl))
  t0 := Tryd.underlying0
  a0 := Tryd.isAgg0
  z0 := Tryd.sizeOf0
  v0 := Tryd.zeroValue0
  t3 := Tryd.underlying3
  a3 := Tryd.isAgg3
  z3 := Tryd.sizeOf3
  v3 := Tryd.zeroValue3
  t4 := Tryd.underlying4
  a4 := Tryd.isAgg4
  z4 := Tryd.sizeOf4
  v4 := Tryd.zeroValue4
  t5 := Tryd.underlying5
  a5 := Tryd.isAgg5
  z5 := Tryd.sizeOf5
  v5 := Tryd.zeroValue5
  t9 := Tryd.underlying9
  a9 := Tryd.isAgg9
  z9 := Tryd.sizeOf9
  v9 := Tryd.zeroValue9
  t20 := Tryd.underlying20
  a20 := Tryd.isAgg20
  z20 := Tryd.sizeOf20
  v20 := Tryd.zeroValue20
  t37 := Tryd.underlying45
  a37 := Tryd.isAgg45
  z37 := Tryd.sizeOf45
  v37 := Tryd.zeroValue45
  t46 := Tryd.underlying145
  a46 := Tryd.isAgg145
  z46 := Tryd.sizeOf145
  v46 := Tryd.zeroValue145
  t51 := Tryd.underlying162
  a51 := Tryd.isAgg162
  z51 := Tryd.sizeOf162
  v51 := Tryd.zeroValue162
  t53 := Tryd.underlying134
  a53 := Tryd.isAgg134
  z53 := Tryd.sizeOf134
  v53 := Tryd.zeroValue134
  t70 := Tryd.underlying93
  a70 := Tryd.isAgg93
  z70 := Tryd.sizeOf93
  v70 := Tryd.zeroValue93
  t72 := Tryd.underlying95
  a72 := Tryd.isAgg95
  z72 := Tryd.sizeOf95
  v72 := Tryd.zeroValue95
  t75 := Tryd.underlying97
  a75 := Tryd.isAgg97
  z75 := Tryd.sizeOf97
  v75 := Tryd.zeroValue97
  t76 := Tryd.underlying98
  a76 := Tryd.isAgg98
  z76 := Tryd.sizeOf98
  v76 := Tryd.zeroValue98
  t109 := Tryd.underlying146
  a109 := Tryd.isAgg146
  z109 := Tryd.sizeOf146
  v109 := Tryd.zeroValue146
  t127 := Tryd.underlying133
  a127 := Tryd.isAgg133
  z127 := Tryd.sizeOf133
  v127 := Tryd.zeroValue133
  t146 := Tryd.underlying163
  a146 := Tryd.isAgg163
  z146 := Tryd.sizeOf163
  v146 := Tryd.zeroValue163
  t148 := Tryd.underlying165
  a148 := Tryd.isAgg165
  z148 := Tryd.sizeOf165
  v148 := Tryd.zeroValue165
  t164 := Tryd.underlying143
  a164 := Tryd.isAgg143
  z164 := Tryd.sizeOf143
  v164 := Tryd.zeroValue143 }
theorem Tryd.Builder_Extra_105 : Builder.Extra Tryd.prog Tryd.lays105_ren := {
  sizeBuilder := by kernel_rfl
  liesBuilder := by kernel_rfl
  t5 := Tryd.underlying5
  a5 := Tryd.isAgg5
  z5 := Tryd.sizeOf5
  v5 := Tryd.zeroValue5
  infoByte := by kernel_rfl
  cellsByte := by kernel_rfl
  sizeByte := by kernel_rfl
  neB5 := by decide }
open Go.RowKit Go.Lib in theorem Tryd.strings_Repeat (s : ByteArray) (c : Nat) (w : World) (hc : c ≤ 9223372036854775807) (hlen : s.size * c ≤ 140737488355328) :
    Calls Tryd.prog 143 #[.string s, .int .i64 c] w fun e w' => e = .returned (.string ⟨(Lib.repeatL s.data.toList c).toArray⟩) ∧ Below w.heap.size w w' := Any.strings_Repeat Tryd.lays105 Tryd.Builder_Extra_105 s c w hc hlen
end Go.Proofs

/- Function 85 (strings.TrimSuffix): its contract, off what is known of the library. -/
set_option linter.unusedVariables false
set_option linter.unusedSimpArgs false
set_option maxRecDepth 100000
namespace Go.Proofs.YtakodkjcmacofaaDoor
open Go Go.Am Go.Proofs
def sig85 : List AT := [AT.v Ty.str, AT.v Ty.str]
def g85_0 (x0 x1 : ByteArray) : ByteArray := ⟨(Lib.trimSuffix x0.data.toList x1.data.toList).toArray⟩
def P85 (x0 x1 : ByteArray) : Prop := True
def S85 : Am.Spec := { sig := sig85, pre := fun ⟨x0, x1, _⟩ => P85 x0 x1, res := fun ⟨x0, x1, _⟩ => [⟨Ty.str, g85_0 x0 x1⟩] }
theorem con85 : Contract Tryd.prog 85 S85 := contract_flat rfl fun w ⟨x0, x1, _⟩ vs bss hg hp hw ha => by
  obtain ⟨v0, s0, _, _, rfl, _, ⟨_, rfl, _⟩, v1, s1, _, _, rfl, _, ⟨_, rfl, _⟩, rfl, _⟩ := ha
  have hi : x0.size ≤ maxLen := hw.1
  refine ⟨fun d hd => ?_, ?_⟩
  · rw [List.mem_singleton.1 hd]
    refine ⟨rfl, ?_⟩
    show (List.toArray _).size ≤ maxLen
    rw [List.size_toArray]
    have e : x0.data.toList.length = x0.size := rfl
    unfold Lib.trimSuffix
    split
    · rw [List.length_take]; omega
    · omega
  · refine (Tryd.strings_TrimSuffix x0 x1 w hi).mono ?_
    rintro e w' ⟨rfl, rfl⟩
    exact ⟨rfl, Kept.refl _ _⟩

end Go.Proofs.YtakodkjcmacofaaDoor

/- Function 83 (strings.TrimPrefix): its contract, off what is known of the library. -/
set_option linter.unusedVariables false
set_option linter.unusedSimpArgs false
set_option maxRecDepth 100000
namespace Go.Proofs.YtakodkjcmacofaaDoor
open Go Go.Am Go.Proofs
def sig83 : List AT := [AT.v Ty.str, AT.v Ty.str]
def g83_0 (x0 x1 : ByteArray) : ByteArray := ⟨(Lib.trimPrefix x0.data.toList x1.data.toList).toArray⟩
def P83 (x0 x1 : ByteArray) : Prop := True
def S83 : Am.Spec := { sig := sig83, pre := fun ⟨x0, x1, _⟩ => P83 x0 x1, res := fun ⟨x0, x1, _⟩ => [⟨Ty.str, g83_0 x0 x1⟩] }
theorem con83 : Contract Tryd.prog 83 S83 := contract_flat rfl fun w ⟨x0, x1, _⟩ vs bss hg hp hw ha => by
  obtain ⟨v0, s0, _, _, rfl, _, ⟨_, rfl, _⟩, v1, s1, _, _, rfl, _, ⟨_, rfl, _⟩, rfl, _⟩ := ha
  have hi : x0.size ≤ maxLen := hw.1
  refine ⟨fun d hd => ?_, ?_⟩
  · rw [List.mem_singleton.1 hd]
    refine ⟨rfl, ?_⟩
    show (List.toArray _).size ≤ maxLen
    rw [List.size_toArray]
    have e : x0.data.toList.length = x0.size := rfl
    unfold Lib.trimPrefix
    split
    · rw [List.length_drop]; omega
    · omega
  · refine (Tryd.strings_TrimPrefix x0 x1 w).mono ?_
    rintro e w' ⟨rfl, rfl⟩
    exact ⟨rfl, Kept.refl _ _⟩

end Go.Proofs.YtakodkjcmacofaaDoor

/- Function 64 (strings.Cut): its contract, off what is known of the library. -/
set_option linter.unusedVariables false
set_option linter.unusedSimpArgs false
set_option maxRecDepth 100000
namespace Go.Proofs.YtakodkjcmacofaaDoor
open Go Go.Am Go.Proofs

def sig64 : List AT := [AT.v Ty.str, AT.v Ty.str]
def g64_0 (x0 x1 : ByteArray) : ByteArray := ⟨(Lib.cut x0.data.toList x1.data.toList).1.toArray⟩
def g64_1 (x0 x1 : ByteArray) : ByteArray := ⟨(Lib.cut x0.data.toList x1.data.toList).2.1.toArray⟩
def g64_2 (x0 x1 : ByteArray) : Bool := (Lib.cut x0.data.toList x1.data.toList).2.2
def P64 (x0 x1 : ByteArray) : Prop := x0.size < 4294967281
def S64 : Am.Spec := { sig := sig64, pre := fun ⟨x0, x1, _⟩ => P64 x0 x1, res := fun ⟨x0, x1, _⟩ => [⟨Ty.str, g64_0 x0 x1⟩, ⟨Ty.str, g64_1 x0 x1⟩, ⟨Ty.bool, g64_2 x0 x1⟩] }
theorem cutLen64 (s sep : List UInt8) : (Lib.cut s sep).1.length ≤ s.length ∧ (Lib.cut s sep).2.1.length ≤ s.length := by
  unfold Lib.cut
  split
  · exact ⟨by simp; omega, by simp⟩
  · exact ⟨Nat.le_refl _, Nat.zero_le _⟩
theorem con64 : Contract Tryd.prog 64 S64 := contract_flat rfl fun w ⟨x0, x1, _⟩ vs bss hg hp hw ha => by
  obtain ⟨v0, s0, _, _, rfl, _, ⟨_, rfl, _⟩, v1, s1, _, _, rfl, _, ⟨_, rfl, _⟩, rfl, _⟩ := ha
  have hp : x0.size < 4294967281 := hp
  obtain ⟨l1, l2⟩ := cutLen64 x0.data.toList x1.data.toList
  have e : x0.data.toList.length = x0.size := rfl
  refine ⟨fun d hd => ?_, ?_⟩
  · simp only [S64, List.mem_cons, List.mem_nil_iff, or_false] at hd
    rcases hd with rfl | rfl | rfl
    · refine ⟨rfl, ?_⟩
      show (List.toArray _).size ≤ maxLen
      rw [List.size_toArray]; unfold maxLen; omega
    · refine ⟨rfl, ?_⟩
      show (List.toArray _).size ≤ maxLen
      rw [List.size_toArray]; unfold maxLen; omega
    · exact ⟨rfl, trivial⟩
  · obtain ⟨m, hm⟩ := maxLenG hg
    refine (Tryd.strings_Cut x0 x1 m w hp hm).mono ?_
    rintro e w' ⟨rfl, n, rfl⟩
    exact ⟨rfl, ⟨rfl, rfl, rfl, Nat.le_refl _, fun _ _ _ => rfl⟩⟩

end Go.Proofs.YtakodkjcmacofaaDoor

/- Function 65 (impl.number): its runs between cut points. Written by a program of this repo (gen). -/
set_option linter.unusedVariables false
set_option linter.unusedSimpArgs false
set_option maxRecDepth 100000
namespace Go.Proofs.YtakodkjcmacofaaDoor
open Go Go.Am Go.Proofs
def ext65 : Ext := []
theorem ext65Ok : ExtOk Tryd.prog ext65 := trivial
/-! Function 65. -/
noncomputable def b65 : Code := bodyOf Tryd.f65
theorem hb65 : Tryd.f65.body = some b65 := by kernel_rfl
def sig65 : List AT := [AT.v (Ty.str)]
def tys65 : List Ty := [Ty.int IntKind.i64]
def E65_5 (v3 : Int) (v17 : Int) (x0 : ByteArray) : Env := [(3, PV.a (Atom.val (Value.int IntKind.i64 v3))), (15, PV.a (Atom.osl 0 Option.none)), (16, PV.a (Atom.val (Value.int IntKind.i64 (↑(List.length (bytesOf x0)) : Int)))), (17, PV.a (Atom.val (Value.int IntKind.i64 v17)))]
def L65_5 (v3 : Int) (v17 : Int) (x0 : ByteArray) : Heap := [Option.some (Arr.mk (Ty.int IntKind.u8) (bytesOf x0) Bool.false)]
mutual
def R65 : Nat → ByteArray → List Dyn → Prop
  | 0, _, _ => False
  | n + 1, x0, ds => (if (Decidable.decide ((↑(ByteArray.size x0) : Int) < 1)) = true then (ds = [Dyn.mk (Ty.int IntKind.i64) (-1)]) else (if (Decidable.decide ((↑(ByteArray.size x0) : Int) > 12)) = true then (ds = [Dyn.mk (Ty.int IntKind.i64) (-1)]) else (R65_5 n (0) (0) (x0) ds)))
def R65_5 : Nat → Int → Int → ByteArray → List Dyn → Prop
  | 0, _, _, _, _ => False
  | n + 1, v3, v17, x0, ds => (if (Decidable.decide (v17 < (↑(List.length (bytesOf x0)) : Int))) = true then ((0 ≤ v17) ∧ (v17 < (↑(List.length (bytesOf x0)) : Int)) ∧ (if (Decidable.decide (List.getD (bytesOf x0) (Int.toNat v17) 0 < 48)) = true then (ds = [Dyn.mk (Ty.int IntKind.i64) (-1)]) else (if (Decidable.decide (List.getD (bytesOf x0) (Int.toNat v17) 0 > 57)) = true then (ds = [Dyn.mk (Ty.int IntKind.i64) (-1)]) else ((InR IntKind.i64 (10 * v3)) ∧ ((InR IntKind.u8 (List.getD (bytesOf x0) (Int.toNat v17) 0 - 48)) ∧ ((InR IntKind.i64 (List.getD (bytesOf x0) (Int.toNat v17) 0 - 48)) ∧ ((InR IntKind.i64 (10 * v3 + (List.getD (bytesOf x0) (Int.toNat v17) 0 - 48))) ∧ ((InR IntKind.i64 (v17 + 1)) ∧ (R65_5 n (10 * v3 + (List.getD (bytesOf x0) (Int.toNat v17) 0 - 48)) (v17 + 1) (x0) ds))))))))) else (ds = [Dyn.mk (Ty.int IntKind.i64) v3]))
end
theorem p65_0 (x0 : ByteArray) : runF tab ext65 false 35 [] 2000 [] tys65 Tryd.f65.results [true, true] [.code b65] (entE 0 0 sig65 (x0, ())) (entL sig65 (x0, ())) = some ([Dyn.mk (Ty.int IntKind.i64) (-1)], [], [Decidable.decide ((↑(ByteArray.size x0) : Int) < 1) = Bool.true, Bool.true = Bool.true]) := by kernel_rfl
theorem p65_1 (x0 : ByteArray) : runF tab ext65 false 35 [] 2000 [] tys65 Tryd.f65.results [false, true] [.code b65] (entE 0 0 sig65 (x0, ())) (entL sig65 (x0, ())) = some ([Dyn.mk (Ty.int IntKind.i64) (-1)], [], [Decidable.decide ((↑(ByteArray.size x0) : Int) < 1) = Bool.false, Decidable.decide ((↑(ByteArray.size x0) : Int) > 12) = Bool.true]) := by kernel_rfl
theorem p65_2 (x0 : ByteArray) : Am.runN tab ext65 false 35 [] 2000 [] [] [3, 15, 16, 17] [0] [false, false] [.code b65] (entE 0 0 sig65 (x0, ())) (entL sig65 (x0, ())) = some (cutAt b65 5, E65_5 (0) (0) (x0), L65_5 (0) (0) (x0), [Decidable.decide ((↑(ByteArray.size x0) : Int) < 1) = Bool.false, Decidable.decide ((↑(ByteArray.size x0) : Int) > 12) = Bool.false]) := by kernel_rfl
theorem p65_3 (v3 : Int) (v17 : Int) (x0 : ByteArray) : runF tab ext65 false 35 [] 2000 [] tys65 Tryd.f65.results [true, true, true] (cutAt b65 5) (E65_5 v3 v17 x0) (L65_5 v3 v17 x0) = some ([Dyn.mk (Ty.int IntKind.i64) (-1)], [], [Decidable.decide (v17 < (↑(List.length (bytesOf x0)) : Int)) = Bool.true, 0 ≤ v17, v17 < (↑(List.length (bytesOf x0)) : Int), Decidable.decide (List.getD (bytesOf x0) (Int.toNat v17) 0 < 48) = Bool.true, Bool.true = Bool.true]) := by kernel_rfl
theorem p65_4 (v3 : Int) (v17 : Int) (x0 : ByteArray) : runF tab ext65 false 35 [] 2000 [] tys65 Tryd.f65.results [true, false, true] (cutAt b65 5) (E65_5 v3 v17 x0) (L65_5 v3 v17 x0) = some ([Dyn.mk (Ty.int IntKind.i64) (-1)], [], [Decidable.decide (v17 < (↑(List.length (bytesOf x0)) : Int)) = Bool.true, 0 ≤ v17, v17 < (↑(List.length (bytesOf x0)) : Int), Decidable.decide (List.getD (bytesOf x0) (Int.toNat v17) 0 < 48) = Bool.false, Decidable.decide (List.getD (bytesOf x0) (Int.toNat v17) 0 > 57) = Bool.true]) := by kernel_rfl
theorem p65_5 (v3 : Int) (v17 : Int) (x0 : ByteArray) : Am.runN tab ext65 false 35 [] 2000 [] [] [3, 15, 16, 17] [0] [true, false, false] (cutAt b65 5) (E65_5 v3 v17 x0) (L65_5 v3 v17 x0) = some (cutAt b65 5, E65_5 (10 * v3 + (List.getD (bytesOf x0) (Int.toNat v17) 0 - 48)) (v17 + 1) (x0), L65_5 (10 * v3 + (List.getD (bytesOf x0) (Int.toNat v17) 0 - 48)) (v17 + 1) (x0), [Decidable.decide (v17 < (↑(List.length (bytesOf x0)) : Int)) = Bool.true, 0 ≤ v17, v17 < (↑(List.length (bytesOf x0)) : Int), Decidable.decide (List.getD (bytesOf x0) (Int.toNat v17) 0 < 48) = Bool.false, Decidable.decide (List.getD (bytesOf x0) (Int.toNat v17) 0 > 57) = Bool.false, InR IntKind.i64 (10 * v3), InR IntKind.u8 (List.getD (bytesOf x0) (Int.toNat v17) 0 - 48), InR IntKind.i64 (List.getD (bytesOf x0) (Int.toNat v17) 0 - 48), InR IntKind.i64 (10 * v3 + (List.getD (bytesOf x0) (Int.toNat v17) 0 - 48)), InR IntKind.i64 (v17 + 1)]) := by kernel_rfl
theorem p65_6 (v3 : Int) (v17 : Int) (x0 : ByteArray) : runF tab ext65 false 35 [] 2000 [] tys65 Tryd.f65.results [false] (cutAt b65 5) (E65_5 v3 v17 x0) (L65_5 v3 v17 x0) = some ([Dyn.mk (Ty.int IntKind.i64) v3], [], [Decidable.decide (v17 < (↑(List.length (bytesOf x0)) : Int)) = Bool.false]) := by kernel_rfl
theorem snd65 : ∀ n, (∀ (x0 : ByteArray) ds, R65 n x0 ds → ∀ w0 O q, AtV Tryd.prog 65 (PostR ds [] [] q w0 O) 35 w0 O q [] [.code b65] (entE 0 0 sig65 (x0, ())) (entL sig65 (x0, ()))) ∧ (∀ (v3 : Int) (v17 : Int) (x0 : ByteArray) ds, R65_5 n v3 v17 x0 ds → ∀ w0 O q, AtV Tryd.prog 65 (PostR ds [] [] q w0 O) 35 w0 O q [] (cutAt b65 5) (E65_5 v3 v17 x0) (L65_5 v3 v17 x0)) := by
  intro n
  induction n with
  | zero => exact ⟨fun _ _ h => by simp only [R65] at h, fun _ _ _ _ h => by simp only [R65_5] at h⟩
  | succ n ih =>
  obtain ⟨ih, ih5⟩ := ih
  refine ⟨?_, ?_⟩
  · intro x0 ds h w0 O q
    rw [R65] at h
    by_cases b0 : (Decidable.decide ((↑(ByteArray.size x0) : Int) < 1)) = true
    · rw [if_pos b0] at h
      subst h
      exact AtV.fin Tryd.func65 tabOk ext65Ok mixed (p65_0 x0) ⟨b0, rfl, trivial⟩
    · rw [if_neg b0] at h
      replace b0 := Bool.eq_false_iff.2 b0
      by_cases b1 : (Decidable.decide ((↑(ByteArray.size x0) : Int) > 12)) = true
      · rw [if_pos b1] at h
        subst h
        exact AtV.fin Tryd.func65 tabOk ext65Ok mixed (p65_1 x0) ⟨b0, b1, trivial⟩
      · rw [if_neg b1] at h
        replace b1 := Bool.eq_false_iff.2 b1
        exact AtV.runN tabOk ext65Ok mixed (p65_2 x0) ⟨b0, b1, trivial⟩ (ih5 _ _ _ _ h w0 O q)

  · intro v3 v17 x0 ds h w0 O q
    rw [R65_5] at h
    by_cases b0 : (Decidable.decide (v17 < (↑(List.length (bytesOf x0)) : Int))) = true
    · rw [if_pos b0] at h
      obtain ⟨s0, s1, h⟩ := h
      by_cases b1 : (Decidable.decide (List.getD (bytesOf x0) (Int.toNat v17) 0 < 48)) = true
      · rw [if_pos b1] at h
        subst h
        exact AtV.fin Tryd.func65 tabOk ext65Ok mixed (p65_3 v3 v17 x0) ⟨b0, s0, s1, b1, rfl, trivial⟩
      · rw [if_neg b1] at h
        replace b1 := Bool.eq_false_iff.2 b1
        by_cases b2 : (Decidable.decide (List.getD (bytesOf x0) (Int.toNat v17) 0 > 57)) = true
        · rw [if_pos b2] at h
          subst h
          exact AtV.fin Tryd.func65 tabOk ext65Ok mixed (p65_4 v3 v17 x0) ⟨b0, s0, s1, b1, b2, trivial⟩
        · rw [if_neg b2] at h
          replace b2 := Bool.eq_false_iff.2 b2
          obtain ⟨s2, h⟩ := h
          obtain ⟨s3, h⟩ := h
          obtain ⟨s4, h⟩ := h
          obtain ⟨s5, h⟩ := h
          obtain ⟨s6, h⟩ := h
          exact AtV.runN tabOk ext65Ok mixed (p65_5 v3 v17 x0) ⟨b0, s0, s1, b1, b2, s2, s3, s4, s5, s6, trivial⟩ (ih5 _ _ _ _ h w0 O q)
    · rw [if_neg b0] at h
      replace b0 := Bool.eq_false_iff.2 b0
      subst h
      exact AtV.fin Tryd.func65 tabOk ext65Ok mixed (p65_6 v3 v17 x0) ⟨b0, trivial⟩



def num65 : List UInt8 → Int → Int
  | [], n => n
  | b :: r, n => if decide (48 ≤ b.toNat) && decide (b.toNat ≤ 57) then num65 r (10 * n + ((b.toNat : Int) - 48)) else -1
def g65_0 (x0 : ByteArray) : Int := if x0.size < 1 ∨ 12 < x0.size then -1 else num65 x0.data.toList 0
def P65 (x0 : ByteArray) : Prop := True

theorem run65 (x0 : ByteArray) (hs : x0.size ≤ 12) : ∀ (k i m : Nat), i + k = x0.size → m < 10 ^ i →
    R65_5 (k + 1) (m : Int) (i : Int) x0 [⟨.int .i64, num65 (x0.data.toList.drop i) (m : Int)⟩] := by
  intro k
  have hll : x0.data.toList.length = x0.size := rfl
  have hbl : (bytesOf x0).length = x0.size := by unfold bytesOf; rw [List.length_map]; rfl
  induction k with
  | zero =>
    intro i m hi hm
    rw [R65_5, if_neg (by rw [hbl]; simp; omega), List.drop_of_length_le (by omega)]
    rfl
  | succ k ih =>
    intro i m hi hm
    have hlt : i < x0.data.toList.length := by rw [hll]; omega
    have hcons : x0.data.toList.drop i = x0.data.toList.getD i 0 :: x0.data.toList.drop (i + 1) := drop_get _ i 0 hlt
    have hbyte : (bytesOf x0).getD i 0 = ((x0.data.toList.getD i 0).toNat : Int) := by
      unfold bytesOf
      rw [List.getD_eq_getElem?_getD, List.getD_eq_getElem?_getD, List.getElem?_map, List.getElem?_eq_getElem hlt]
      rfl
    rw [R65_5, if_pos (by rw [hbl]; simp; omega), hcons]
    simp only [Int.toNat_natCast, hbyte, hbl]
    generalize x0.data.toList.getD i 0 = b at *
    refine ⟨by omega, by omega, ?_⟩
    unfold num65
    by_cases h1 : b.toNat < 48
    · have h1' : (b.toNat : Int) < 48 := by omega
      have h1'' : ¬ 48 ≤ b.toNat := by omega
      simp [h1', h1'']
    · have h1' : ¬ (b.toNat : Int) < 48 := by omega
      have h1'' : 48 ≤ b.toNat := by omega
      by_cases h2 : b.toNat > 57
      · have h2' : (b.toNat : Int) > 57 := by omega
        have h2'' : ¬ b.toNat ≤ 57 := by omega
        simp [h1', h2', h2'']
      · have h2' : ¬ (b.toNat : Int) > 57 := by omega
        have h2'' : b.toNat ≤ 57 := by omega
        have hp : 10 ^ i ≤ 10 ^ 11 := Nat.pow_le_pow_right (by decide) (by omega)
        have hm2 : m < 100000000000 := Nat.lt_of_lt_of_le hm hp
        simp only [h1', h1'', h2', h2'', decide_true, decide_false, Bool.and_self, Bool.false_eq_true, if_false, if_true]
        refine ⟨by rw [i64_iff]; omega, by rw [u8_iff]; omega, by rw [i64_iff]; omega, by rw [i64_iff]; omega, by rw [i64_iff]; omega, ?_⟩
        have e1 : 10 * (m : Int) + ((b.toNat : Int) - 48) = ((10 * m + (b.toNat - 48) : Nat) : Int) := by omega
        have e2 : (i : Int) + 1 = ((i + 1 : Nat) : Int) := by omega
        rw [e1, e2]
        exact ih (i + 1) (10 * m + (b.toNat - 48)) (by omega) (by rw [Nat.pow_succ]; omega)

theorem top65 (x0 : ByteArray) : R65 (x0.size + 1 + 1) x0 [⟨.int .i64, g65_0 x0⟩] := by
  rw [R65]
  unfold g65_0
  by_cases h1 : x0.size < 1
  · rw [if_pos (by simp; omega), if_pos (.inl h1)]
  · rw [if_neg (by simp; omega)]
    by_cases h2 : 12 < x0.size
    · rw [if_pos (by simp; omega), if_pos (.inr h2)]
    · rw [if_neg (by simp; omega), if_neg (by omega)]
      exact run65 x0 (by omega) x0.size 0 0 (by omega) (by decide)

def S65 : Am.Spec := { sig := sig65, pre := fun ⟨x0, _⟩ => P65 x0, res := fun ⟨x0, _⟩ => [⟨.int .i64, g65_0 x0⟩] }
theorem con65 : Contract Tryd.prog 65 S65 := contract_of Tryd.func65 hb65 (Nat.le_of_ble_eq_true (by kernel_rfl)) (fun ⟨x0, _⟩ h hwf w0 O q =>
  (snd65 _).1 x0 _ (top65 x0) w0 O q)

end Go.Proofs.YtakodkjcmacofaaDoor

/- Function 84 (strings.HasPrefix): its contract, off what is known of the library. -/
set_option linter.unusedVariables false
set_option linter.unusedSimpArgs false
set_option maxRecDepth 100000
namespace Go.Proofs.YtakodkjcmacofaaDoor
open Go Go.Am Go.Proofs
def sig84 : List AT := [AT.v Ty.str, AT.v Ty.str]
def g84_0 (x0 x1 : ByteArray) : Bool := Lib.hasPrefix x0.data.toList x1.data.toList
def P84 (x0 x1 : ByteArray) : Prop := True
def S84 : Am.Spec := { sig := sig84, pre := fun ⟨x0, x1, _⟩ => P84 x0 x1, res := fun ⟨x0, x1, _⟩ => [⟨Ty.bool, g84_0 x0 x1⟩] }
theorem con84 : Contract Tryd.prog 84 S84 := contract_flat rfl fun w ⟨x0, x1, _⟩ vs bss hg hp hw ha => by
  obtain ⟨v0, s0, _, _, rfl, _, ⟨_, rfl, _⟩, v1, s1, _, _, rfl, _, ⟨_, rfl, _⟩, rfl, _⟩ := ha
  refine ⟨fun d hd => ?_, ?_⟩
  · rw [List.mem_singleton.1 hd]
    exact ⟨rfl, trivial⟩
  · refine (Tryd.strings_HasPrefix x0 x1 w).mono ?_
    rintro e w' ⟨rfl, rfl⟩
    exact ⟨rfl, Kept.refl _ _⟩

end Go.Proofs.YtakodkjcmacofaaDoor

/- Function 102 (impl.within): its runs between cut points. Written by a program of this repo (gen). -/
set_option linter.unusedVariables false
set_option linter.unusedSimpArgs false
set_option maxRecDepth 100000
namespace Go.Proofs.YtakodkjcmacofaaDoor
open Go Go.Am Go.Proofs
def ext102 : Ext := []
theorem ext102Ok : ExtOk Tryd.prog ext102 := trivial
/-! Function 102. -/
noncomputable def b102 : Code := bodyOf Tryd.f102
theorem hb102 : Tryd.f102.body = some b102 := by kernel_rfl
def sig102 : List AT := [AT.v (Ty.int IntKind.i64), AT.v (Ty.int IntKind.i64), AT.v (Ty.int IntKind.i64)]
def tys102 : List Ty := [Ty.bool]
def P102 (x0 : Int) (x1 : Int) (x2 : Int) : Prop := True
def g102_0 (x0 : Int) (x1 : Int) (x2 : Int) : Bool := (if (Decidable.decide (x0 ≥ x1)) = true then Decidable.decide (x0 ≤ x2) else Bool.false)
theorem p102_0 (x0 : Int) (x1 : Int) (x2 : Int) : runF tab ext102 false 15 [] 2000 [] tys102 Tryd.f102.results [true] [.code b102] (entE 0 0 sig102 (x0, x1, x2, ())) (entL sig102 (x0, x1, x2, ())) = some ([Dyn.mk Ty.bool (Decidable.decide (x0 ≤ x2))], [], [Decidable.decide (x0 ≥ x1) = Bool.true]) := by kernel_rfl
theorem p102_1 (x0 : Int) (x1 : Int) (x2 : Int) : runF tab ext102 false 15 [] 2000 [] tys102 Tryd.f102.results [false] [.code b102] (entE 0 0 sig102 (x0, x1, x2, ())) (entL sig102 (x0, x1, x2, ())) = some ([Dyn.mk Ty.bool Bool.false], [], [Decidable.decide (x0 ≥ x1) = Bool.false]) := by kernel_rfl
theorem at102 (x0 : Int) (x1 : Int) (x2 : Int) (h : P102 x0 x1 x2) (w0 : World) (O : List Nat) (q : Nat → Value) : AtV Tryd.prog 102 (PostR [⟨Ty.bool, g102_0 x0 x1 x2⟩] [] [] q w0 O) 15 w0 O q [] [.code b102] (entE 0 0 sig102 (x0, x1, x2, ())) (entL sig102 (x0, x1, x2, ())) := by
  unfold P102 at h
  unfold g102_0
  by_cases b0 : (Decidable.decide (x0 ≥ x1)) = true
  · try simp only [if_pos b0] at h ⊢
    exact AtV.fin Tryd.func102 tabOk ext102Ok mixed (p102_0 x0 x1 x2) ⟨b0, trivial⟩
  · try simp only [if_neg b0] at h ⊢
    replace b0 := Bool.eq_false_iff.2 b0
    exact AtV.fin Tryd.func102 tabOk ext102Ok mixed (p102_1 x0 x1 x2) ⟨b0, trivial⟩

def S102 : Am.Spec := { sig := sig102, pre := fun ⟨x0, x1, x2, _⟩ => P102 x0 x1 x2, res := fun ⟨x0, x1, x2, _⟩ => [⟨Ty.bool, g102_0 x0 x1 x2⟩] }
theorem con102 : Contract Tryd.prog 102 S102 := contract_of Tryd.func102 hb102 (Nat.le_of_ble_eq_true (by kernel_rfl)) (fun ⟨x0, x1, x2, _⟩ h _ w0 O q => at102 x0 x1 x2 h w0 O q)


end Go.Proofs.YtakodkjcmacofaaDoor

/- Function 106 (impl.abs): its runs between cut points. Written by a program of this repo (gen). -/
set_option linter.unusedVariables false
set_option linter.unusedSimpArgs false
set_option maxRecDepth 100000
namespace Go.Proofs.YtakodkjcmacofaaDoor
open Go Go.Am Go.Proofs
def ext106 : Ext := []
theorem ext106Ok : ExtOk Tryd.prog ext106 := trivial
/-! Function 106. -/
noncomputable def b106 : Code := bodyOf Tryd.f106
theorem hb106 : Tryd.f106.body = some b106 := by kernel_rfl
def sig106 : List AT := [AT.v (Ty.int IntKind.i64)]
def tys106 : List Ty := [Ty.int IntKind.i64]
def P106 (x0 : Int) : Prop := (if (Decidable.decide (x0 < 0)) = true then ((InR IntKind.i64 (0 - x0)) ∧ True) else True)
def g106_0 (x0 : Int) : Int := (if (Decidable.decide (x0 < 0)) = true then 0 - x0 else x0)
theorem p106_0 (x0 : Int) : runF tab ext106 false 8 [] 2000 [] tys106 Tryd.f106.results [true] [.code b106] (entE 0 0 sig106 (x0, ())) (entL sig106 (x0, ())) = some ([Dyn.mk (Ty.int IntKind.i64) (0 - x0)], [], [Decidable.decide (x0 < 0) = Bool.true, InR IntKind.i64 (0 - x0)]) := by kernel_rfl
theorem p106_1 (x0 : Int) : runF tab ext106 false 8 [] 2000 [] tys106 Tryd.f106.results [false] [.code b106] (entE 0 0 sig106 (x0, ())) (entL sig106 (x0, ())) = some ([Dyn.mk (Ty.int IntKind.i64) x0], [], [Decidable.decide (x0 < 0) = Bool.false]) := by kernel_rfl
theorem at106 (x0 : Int) (h : P106 x0) (w0 : World) (O : List Nat) (q : Nat → Value) : AtV Tryd.prog 106 (PostR [⟨Ty.int IntKind.i64, g106_0 x0⟩] [] [] q w0 O) 8 w0 O q [] [.code b106] (entE 0 0 sig106 (x0, ())) (entL sig106 (x0, ())) := by
  unfold P106 at h
  unfold g106_0
  by_cases b0 : (Decidable.decide (x0 < 0)) = true
  · try simp only [if_pos b0] at h ⊢
    obtain ⟨s0, h⟩ := h
    exact AtV.fin Tryd.func106 tabOk ext106Ok mixed (p106_0 x0) ⟨b0, s0, trivial⟩
  · try simp only [if_neg b0] at h ⊢
    replace b0 := Bool.eq_false_iff.2 b0
    exact AtV.fin Tryd.func106 tabOk ext106Ok mixed (p106_1 x0) ⟨b0, trivial⟩

def S106 : Am.Spec := { sig := sig106, pre := fun ⟨x0, _⟩ => P106 x0, res := fun ⟨x0, _⟩ => [⟨Ty.int IntKind.i64, g106_0 x0⟩] }
theorem con106 : Contract Tryd.prog 106 S106 := contract_of Tryd.func106 hb106 (Nat.le_of_ble_eq_true (by kernel_rfl)) (fun ⟨x0, _⟩ h _ w0 O q => at106 x0 h w0 O q)


end Go.Proofs.YtakodkjcmacofaaDoor

/- Function 141 (strconv.FormatInt): its contract, off what is known of the library. -/
set_option linter.unusedVariables false
set_option linter.unusedSimpArgs false
set_option maxRecDepth 100000
namespace Go.Proofs.YtakodkjcmacofaaDoor
open Go Go.Am Go.Proofs

def sig141 : List AT := [AT.v (Ty.int .i64), AT.v (Ty.int .i64)]
def g141_0 (x0 x1 : Int) : ByteArray := numB x0
def P141 (x0 x1 : Int) : Prop := x1 = 10
def S141 : Am.Spec := { sig := sig141, pre := fun ⟨x0, x1, _⟩ => P141 x0 x1, res := fun ⟨x0, x1, _⟩ => [⟨Ty.str, g141_0 x0 x1⟩] }
theorem con141 : Contract Tryd.prog 141 S141 := contract_flat rfl fun w ⟨x0, x1, _⟩ vs bss hg hp hw ha => by
  obtain ⟨v0, s0, _, _, rfl, _, ⟨_, rfl, hi⟩, v1, s1, _, _, rfl, _, ⟨_, rfl, _⟩, rfl, _⟩ := ha
  obtain rfl : x1 = 10 := hp
  have hi : InR .i64 x0 := hi
  rw [i64_iff] at hi
  refine ⟨fun d hd => ?_, ?_⟩
  · rw [List.mem_singleton.1 hd]
    refine ⟨rfl, ?_⟩
    show (numB x0).size ≤ maxLen
    have := numB_size x0 hi.1 hi.2
    unfold maxLen; omega
  · refine (Tryd.strconv_FormatInt_10 x0 hi.1 hi.2 w (pow10G hg)).mono ?_
    rintro e w' ⟨rfl, n, os, rfl⟩
    exact ⟨rfl, kept_grow _ _ _⟩

end Go.Proofs.YtakodkjcmacofaaDoor

/- Function 94 (impl.Decimal): its runs between cut points. Written by a program of this repo (gen). -/
set_option linter.unusedVariables false
set_option linter.unusedSimpArgs false
set_option maxRecDepth 100000
namespace Go.Proofs.YtakodkjcmacofaaDoor
open Go Go.Am Go.Proofs
def ext94 : Ext := [(141, S141)]
theorem call94_141 : Callable Tryd.prog 141 := ⟨Tryd.f141, Tryd.func141, by kernel_rfl, by kernel_rfl⟩
theorem ext94Ok : ExtOk Tryd.prog ext94 := ⟨⟨call94_141, con141⟩, trivial⟩
/-! Function 94. -/
noncomputable def b94 : Code := bodyOf Tryd.f94
theorem hb94 : Tryd.f94.body = some b94 := by kernel_rfl
def sig94 : List AT := [AT.v (Ty.int IntKind.i64)]
def tys94 : List Ty := [Ty.str]
def P94 (x0 : Int) : Prop := ((P141 x0 10) ∧ True)
def g94_0 (x0 : Int) : ByteArray := g141_0 x0 10
theorem p94_0 (x0 : Int) : runF tab ext94 false 5 [] 2000 [] tys94 Tryd.f94.results [] [.code b94] (entE 0 0 sig94 (x0, ())) (entL sig94 (x0, ())) = some ([Dyn.mk Ty.str (g141_0 x0 10)], [], [P141 x0 10]) := by kernel_rfl
theorem at94 (x0 : Int) (h : P94 x0) (w0 : World) (O : List Nat) (q : Nat → Value) : AtV Tryd.prog 94 (PostR [⟨Ty.str, g94_0 x0⟩] [] [] q w0 O) 5 w0 O q [] [.code b94] (entE 0 0 sig94 (x0, ())) (entL sig94 (x0, ())) := by
  unfold P94 at h
  unfold g94_0
  obtain ⟨s0, h⟩ := h
  exact AtV.fin Tryd.func94 tabOk ext94Ok mixed (p94_0 x0) ⟨s0, trivial⟩

def S94 : Am.Spec := { sig := sig94, pre := fun ⟨x0, _⟩ => P94 x0, res := fun ⟨x0, _⟩ => [⟨Ty.str, g94_0 x0⟩] }
theorem con94 : Contract Tryd.prog 94 S94 := contract_of Tryd.func94 hb94 (Nat.le_of_ble_eq_true (by kernel_rfl)) (fun ⟨x0, _⟩ h _ w0 O q => at94 x0 h w0 O q)


end Go.Proofs.YtakodkjcmacofaaDoor

/- Function 143 (strings.Repeat): its contract, off what is known of the library. -/
set_option linter.unusedVariables false
set_option linter.unusedSimpArgs false
set_option maxRecDepth 100000
namespace Go.Proofs.YtakodkjcmacofaaDoor
open Go Go.Am Go.Proofs

def sig143 : List AT := [AT.v Ty.str, AT.v (Ty.int .i64)]
def g143_0 (x0 : ByteArray) (x1 : Int) : ByteArray := ⟨(Lib.repeatL x0.data.toList x1.toNat).toArray⟩
def P143 (x0 : ByteArray) (x1 : Int) : Prop := 0 ≤ x1 ∧ (x0.size : Int) * x1 ≤ 140737488355328
def S143 : Am.Spec := { sig := sig143, pre := fun ⟨x0, x1, _⟩ => P143 x0 x1, res := fun ⟨x0, x1, _⟩ => [⟨Ty.str, g143_0 x0 x1⟩] }
theorem con143 : Contract Tryd.prog 143 S143 := contract_flat rfl fun w ⟨x0, x1, _⟩ vs bss hg hp hw ha => by
  obtain ⟨v0, s0, _, _, rfl, _, ⟨_, rfl, _⟩, v1, s1, _, _, rfl, _, ⟨_, rfl, _⟩, rfl, _⟩ := ha
  obtain ⟨h0, h1⟩ := hp
  obtain ⟨c, rfl⟩ : ∃ c : Nat, x1 = (c : Int) := Int.eq_ofNat_of_zero_le h0
  have hi : InR .i64 (c : Int) := hw.2.1
  rw [i64_iff] at hi
  have hm : x0.size * c ≤ 140737488355328 := by
    have : ((x0.size * c : Nat) : Int) = (x0.size : Int) * (c : Int) := Int.natCast_mul _ _
    omega
  refine ⟨fun d hd => ?_, ?_⟩
  · rw [List.mem_singleton.1 hd]
    refine ⟨rfl, ?_⟩
    show (ByteArray.mk (Lib.repeatL x0.data.toList c).toArray).size ≤ maxLen
    have : (ByteArray.mk (Lib.repeatL x0.data.toList c).toArray).size = c * x0.data.toList.length := by
      show (Lib.repeatL x0.data.toList c).toArray.size = _
      rw [List.size_toArray, Lib.repeatL_length]
    rw [this, Nat.mul_comm]
    have e : x0.data.toList.length = x0.size := rfl
    rw [e]
    unfold maxLen
    omega
  · refine (Tryd.strings_Repeat x0 c w (by omega) hm).mono ?_
    rintro e w' ⟨rfl, hb⟩
    exact ⟨rfl, Kept.of_below hb⟩

end Go.Proofs.YtakodkjcmacofaaDoor

/- Function 103 (impl.padded): its runs between cut points. Written by a program of this repo (gen). -/
set_option linter.unusedVariables false
set_option linter.unusedSimpArgs false
set_option maxRecDepth 100000
namespace Go.Proofs.YtakodkjcmacofaaDoor
open Go Go.Am Go.Proofs
def ext103 : Ext := [(94, S94), (143, S143)]
theorem call103_94 : Callable Tryd.prog 94 := ⟨Tryd.f94, Tryd.func94, by kernel_rfl, by kernel_rfl⟩
theorem call103_143 : Callable Tryd.prog 143 := ⟨Tryd.f143, Tryd.func143, by kernel_rfl, by kernel_rfl⟩
theorem ext103Ok : ExtOk Tryd.prog ext103 := ⟨⟨call103_94, con94⟩, ⟨call103_143, con143⟩, trivial⟩
/-! Function 103. -/
noncomputable def b103 : Code := bodyOf Tryd.f103
theorem hb103 : Tryd.f103.body = some b103 := by kernel_rfl
def sig103 : List AT := [AT.v (Ty.int IntKind.i64), AT.v (Ty.int IntKind.i64)]
def tys103 : List Ty := [Ty.str]
def P103 (x0 : Int) (x1 : Int) : Prop := ((P94 x0) ∧ ((InR IntKind.i64 (x1 - (↑(ByteArray.size (g94_0 x0)) : Int))) ∧ ((P143 (ByteArray.mk #[48]) (if 0 < x1 - (↑(ByteArray.size (g94_0 x0)) : Int) then x1 - (↑(ByteArray.size (g94_0 x0)) : Int) else 0)) ∧ ((ByteArray.size (g143_0 (ByteArray.mk #[48]) (if 0 < x1 - (↑(ByteArray.size (g94_0 x0)) : Int) then x1 - (↑(ByteArray.size (g94_0 x0)) : Int) else 0)) + ByteArray.size (g94_0 x0) ≤ 9223372036854775807) ∧ True))))
def g103_0 (x0 : Int) (x1 : Int) : ByteArray := g143_0 (ByteArray.mk #[48]) (if 0 < x1 - (↑(ByteArray.size (g94_0 x0)) : Int) then x1 - (↑(ByteArray.size (g94_0 x0)) : Int) else 0) ++ g94_0 x0
theorem p103_0 (x0 : Int) (x1 : Int) : runF tab ext103 false 16 [] 2000 [] tys103 Tryd.f103.results [] [.code b103] (entE 0 0 sig103 (x0, x1, ())) (entL sig103 (x0, x1, ())) = some ([Dyn.mk Ty.str (g143_0 (ByteArray.mk #[48]) (if 0 < x1 - (↑(ByteArray.size (g94_0 x0)) : Int) then x1 - (↑(ByteArray.size (g94_0 x0)) : Int) else 0) ++ g94_0 x0)], [], [P94 x0, InR IntKind.i64 (x1 - (↑(ByteArray.size (g94_0 x0)) : Int)), P143 (ByteArray.mk #[48]) (if 0 < x1 - (↑(ByteArray.size (g94_0 x0)) : Int) then x1 - (↑(ByteArray.size (g94_0 x0)) : Int) else 0), ByteArray.size (g143_0 (ByteArray.mk #[48]) (if 0 < x1 - (↑(ByteArray.size (g94_0 x0)) : Int) then x1 - (↑(ByteArray.size (g94_0 x0)) : Int) else 0)) + ByteArray.size (g94_0 x0) ≤ 9223372036854775807]) := by kernel_rfl
theorem at103 (x0 : Int) (x1 : Int) (h : P103 x0 x1) (w0 : World) (O : List Nat) (q : Nat → Value) : AtV Tryd.prog 103 (PostR [⟨Ty.str, g103_0 x0 x1⟩] [] [] q w0 O) 16 w0 O q [] [.code b103] (entE 0 0 sig103 (x0, x1, ())) (entL sig103 (x0, x1, ())) := by
  unfold P103 at h
  unfold g103_0
  obtain ⟨s0, h⟩ := h
  obtain ⟨s1, h⟩ := h
  obtain ⟨s2, h⟩ := h
  obtain ⟨s3, h⟩ := h
  exact AtV.fin Tryd.func103 tabOk ext103Ok mixed (p103_0 x0 x1) ⟨s0, s1, s2, s3, trivial⟩

def S103 : Am.Spec := { sig := sig103, pre := fun ⟨x0, x1, _⟩ => P103 x0 x1, res := fun ⟨x0, x1, _⟩ => [⟨Ty.str, g103_0 x0 x1⟩] }
theorem con103 : Contract Tryd.prog 103 S103 := contract_of Tryd.func103 hb103 (Nat.le_of_ble_eq_true (by kernel_rfl)) (fun ⟨x0, x1, _⟩ h _ w0 O q => at103 x0 x1 h w0 O q)


end Go.Proofs.YtakodkjcmacofaaDoor

/- Function 40 (impl.FixedText): its runs between cut points. Written by a program of this repo (gen). -/
set_option linter.unusedVariables false
set_option linter.unusedSimpArgs false
set_option maxRecDepth 100000
namespace Go.Proofs.YtakodkjcmacofaaDoor
open Go Go.Am Go.Proofs
def ext40 : Ext := [(102, S102), (106, S106), (94, S94), (103, S103)]
theorem call40_102 : Callable Tryd.prog 102 := ⟨Tryd.f102, Tryd.func102, by kernel_rfl, by kernel_rfl⟩
theorem call40_106 : Callable Tryd.prog 106 := ⟨Tryd.f106, Tryd.func106, by kernel_rfl, by kernel_rfl⟩
theorem call40_94 : Callable Tryd.prog 94 := ⟨Tryd.f94, Tryd.func94, by kernel_rfl, by kernel_rfl⟩
theorem call40_103 : Callable Tryd.prog 103 := ⟨Tryd.f103, Tryd.func103, by kernel_rfl, by kernel_rfl⟩
theorem ext40Ok : ExtOk Tryd.prog ext40 := ⟨⟨call40_102, con102⟩, ⟨call40_106, con106⟩, ⟨call40_94, con94⟩, ⟨call40_103, con103⟩, trivial⟩
/-! Function 40. -/
noncomputable def b40 : Code := bodyOf Tryd.f40
theorem hb40 : Tryd.f40.body = some b40 := by kernel_rfl
def sig40 : List AT := [AT.v (Ty.int IntKind.i64), AT.v (Ty.int IntKind.i64)]
def tys40 : List Ty := [Ty.str]
def E40_5 (v5 : Int) (v16 : Int) (x0 : Int) (x1 : Int) : Env := [(0, PV.a (Atom.val (Value.int IntKind.i64 x0))), (1, PV.a (Atom.val (Value.int IntKind.i64 x1))), (5, PV.a (Atom.val (Value.int IntKind.i64 v5))), (15, PV.a (Atom.val (Value.int IntKind.i64 x1))), (16, PV.a (Atom.val (Value.int IntKind.i64 v16)))]
def L40_5 (v5 : Int) (v16 : Int) (x0 : Int) (x1 : Int) : Heap := []
mutual
def R40 : Nat → Int → Int → List Dyn → Prop
  | 0, _, _, _ => False
  | n + 1, x0, x1, ds => (if (!g102_0 x0 (-1000000000) 1000000000) = true then (ds = [Dyn.mk Ty.str (ByteArray.mk #[])]) else (if (!g102_0 x1 1 6) = true then (ds = [Dyn.mk Ty.str (ByteArray.mk #[])]) else (R40_5 n (1) (0) (x0) (x1) ds)))
def R40_5 : Nat → Int → Int → Int → Int → List Dyn → Prop
  | 0, _, _, _, _, _ => False
  | n + 1, v5, v16, x0, x1, ds => (if (Decidable.decide (v16 < x1)) = true then ((InR IntKind.i64 (v5 * 10)) ∧ ((InR IntKind.i64 (v16 + 1)) ∧ (R40_5 n (v5 * 10) (v16 + 1) (x0) (x1) ds))) else (if (Decidable.decide (x0 < 0)) = true then ((P106 x0) ∧ ((v5 ≠ 0) ∧ (InR IntKind.i64 (Int.tdiv (g106_0 x0) v5)) ∧ ((P94 (Int.tdiv (g106_0 x0) v5)) ∧ ((1 + ByteArray.size (g94_0 (Int.tdiv (g106_0 x0) v5)) ≤ 9223372036854775807) ∧ ((ByteArray.size (ByteArray.mk #[45] ++ g94_0 (Int.tdiv (g106_0 x0) v5)) + 1 ≤ 9223372036854775807) ∧ ((P106 x0) ∧ ((v5 ≠ 0) ∧ (InR IntKind.i64 (Int.tmod (g106_0 x0) v5)) ∧ ((P103 (Int.tmod (g106_0 x0) v5) x1) ∧ ((ByteArray.size (ByteArray.mk #[45] ++ g94_0 (Int.tdiv (g106_0 x0) v5) ++ ByteArray.mk #[46]) + ByteArray.size (g103_0 (Int.tmod (g106_0 x0) v5) x1) ≤ 9223372036854775807) ∧ (ds = [Dyn.mk Ty.str (ByteArray.mk #[45] ++ g94_0 (Int.tdiv (g106_0 x0) v5) ++ ByteArray.mk #[46] ++ g103_0 (Int.tmod (g106_0 x0) v5) x1)])))))))))) else ((P106 x0) ∧ ((v5 ≠ 0) ∧ (InR IntKind.i64 (Int.tdiv (g106_0 x0) v5)) ∧ ((P94 (Int.tdiv (g106_0 x0) v5)) ∧ ((0 + ByteArray.size (g94_0 (Int.tdiv (g106_0 x0) v5)) ≤ 9223372036854775807) ∧ ((ByteArray.size (ByteArray.mk #[] ++ g94_0 (Int.tdiv (g106_0 x0) v5)) + 1 ≤ 9223372036854775807) ∧ ((P106 x0) ∧ ((v5 ≠ 0) ∧ (InR IntKind.i64 (Int.tmod (g106_0 x0) v5)) ∧ ((P103 (Int.tmod (g106_0 x0) v5) x1) ∧ ((ByteArray.size (ByteArray.mk #[] ++ g94_0 (Int.tdiv (g106_0 x0) v5) ++ ByteArray.mk #[46]) + ByteArray.size (g103_0 (Int.tmod (g106_0 x0) v5) x1) ≤ 9223372036854775807) ∧ (ds = [Dyn.mk Ty.str (ByteArray.mk #[] ++ g94_0 (Int.tdiv (g106_0 x0) v5) ++ ByteArray.mk #[46] ++ g103_0 (Int.tmod (g106_0 x0) v5) x1)]))))))))))))
end
theorem p40_0 (x0 : Int) (x1 : Int) : runF tab ext40 false 38 [] 2000 [] tys40 Tryd.f40.results [true, true] [.code b40] (entE 0 0 sig40 (x0, x1, ())) (entL sig40 (x0, x1, ())) = some ([Dyn.mk Ty.str (ByteArray.mk #[])], [], [True, (!g102_0 x0 (-1000000000) 1000000000) = Bool.true, Bool.true = Bool.true]) := by kernel_rfl
theorem p40_1 (x0 : Int) (x1 : Int) : runF tab ext40 false 38 [] 2000 [] tys40 Tryd.f40.results [false, true] [.code b40] (entE 0 0 sig40 (x0, x1, ())) (entL sig40 (x0, x1, ())) = some ([Dyn.mk Ty.str (ByteArray.mk #[])], [], [True, (!g102_0 x0 (-1000000000) 1000000000) = Bool.false, True, (!g102_0 x1 1 6) = Bool.true]) := by kernel_rfl
theorem p40_2 (x0 : Int) (x1 : Int) : Am.runN tab ext40 false 38 [] 2000 [] [] [0, 1, 5, 15, 16] [] [false, false] [.code b40] (entE 0 0 sig40 (x0, x1, ())) (entL sig40 (x0, x1, ())) = some (cutAt b40 5, E40_5 (1) (0) (x0) (x1), L40_5 (1) (0) (x0) (x1), [True, (!g102_0 x0 (-1000000000) 1000000000) = Bool.false, True, (!g102_0 x1 1 6) = Bool.false]) := by kernel_rfl
theorem p40_3 (v5 : Int) (v16 : Int) (x0 : Int) (x1 : Int) : Am.runN tab ext40 false 38 [] 2000 [] [] [0, 1, 5, 15, 16] [] [true] (cutAt b40 5) (E40_5 v5 v16 x0 x1) (L40_5 v5 v16 x0 x1) = some (cutAt b40 5, E40_5 (v5 * 10) (v16 + 1) (x0) (x1), L40_5 (v5 * 10) (v16 + 1) (x0) (x1), [Decidable.decide (v16 < x1) = Bool.true, InR IntKind.i64 (v5 * 10), InR IntKind.i64 (v16 + 1)]) := by kernel_rfl
theorem p40_4 (v5 : Int) (v16 : Int) (x0 : Int) (x1 : Int) : runF tab ext40 false 38 [] 2000 [] tys40 Tryd.f40.results [false, true] (cutAt b40 5) (E40_5 v5 v16 x0 x1) (L40_5 v5 v16 x0 x1) = some ([Dyn.mk Ty.str (ByteArray.mk #[45] ++ g94_0 (Int.tdiv (g106_0 x0) v5) ++ ByteArray.mk #[46] ++ g103_0 (Int.tmod (g106_0 x0) v5) x1)], [], [Decidable.decide (v16 < x1) = Bool.false, Decidable.decide (x0 < 0) = Bool.true, P106 x0, v5 ≠ 0, InR IntKind.i64 (Int.tdiv (g106_0 x0) v5), P94 (Int.tdiv (g106_0 x0) v5), 1 + ByteArray.size (g94_0 (Int.tdiv (g106_0 x0) v5)) ≤ 9223372036854775807, ByteArray.size (ByteArray.mk #[45] ++ g94_0 (Int.tdiv (g106_0 x0) v5)) + 1 ≤ 9223372036854775807, P106 x0, v5 ≠ 0, InR IntKind.i64 (Int.tmod (g106_0 x0) v5), P103 (Int.tmod (g106_0 x0) v5) x1, ByteArray.size (ByteArray.mk #[45] ++ g94_0 (Int.tdiv (g106_0 x0) v5) ++ ByteArray.mk #[46]) + ByteArray.size (g103_0 (Int.tmod (g106_0 x0) v5) x1) ≤ 9223372036854775807]) := by kernel_rfl
theorem p40_5 (v5 : Int) (v16 : Int) (x0 : Int) (x1 : Int) : runF tab ext40 false 38 [] 2000 [] tys40 Tryd.f40.results [false, false] (cutAt b40 5) (E40_5 v5 v16 x0 x1) (L40_5 v5 v16 x0 x1) = some ([Dyn.mk Ty.str (ByteArray.mk #[] ++ g94_0 (Int.tdiv (g106_0 x0) v5) ++ ByteArray.mk #[46] ++ g103_0 (Int.tmod (g106_0 x0) v5) x1)], [], [Decidable.decide (v16 < x1) = Bool.false, Decidable.decide (x0 < 0) = Bool.false, P106 x0, v5 ≠ 0, InR IntKind.i64 (Int.tdiv (g106_0 x0) v5), P94 (Int.tdiv (g106_0 x0) v5), 0 + ByteArray.size (g94_0 (Int.tdiv (g106_0 x0) v5)) ≤ 9223372036854775807, ByteArray.size (ByteArray.mk #[] ++ g94_0 (Int.tdiv (g106_0 x0) v5)) + 1 ≤ 9223372036854775807, P106 x0, v5 ≠ 0, InR IntKind.i64 (Int.tmod (g106_0 x0) v5), P103 (Int.tmod (g106_0 x0) v5) x1, ByteArray.size (ByteArray.mk #[] ++ g94_0 (Int.tdiv (g106_0 x0) v5) ++ ByteArray.mk #[46]) + ByteArray.size (g103_0 (Int.tmod (g106_0 x0) v5) x1) ≤ 9223372036854775807]) := by kernel_rfl
theorem snd40 : ∀ n, (∀ (x0 : Int) (x1 : Int) ds, R40 n x0 x1 ds → ∀ w0 O q, AtV Tryd.prog 40 (PostR ds [] [] q w0 O) 38 w0 O q [] [.code b40] (entE 0 0 sig40 (x0, x1, ())) (entL sig40 (x0, x1, ()))) ∧ (∀ (v5 : Int) (v16 : Int) (x0 : Int) (x1 : Int) ds, R40_5 n v5 v16 x0 x1 ds → ∀ w0 O q, AtV Tryd.prog 40 (PostR ds [] [] q w0 O) 38 w0 O q [] (cutAt b40 5) (E40_5 v5 v16 x0 x1) (L40_5 v5 v16 x0 x1)) := by
  intro n
  induction n with
  | zero => exact ⟨fun _ _ _ h => by simp only [R40] at h, fun _ _ _ _ _ h => by simp only [R40_5] at h⟩
  | succ n ih =>
  obtain ⟨ih, ih5⟩ := ih
  refine ⟨?_, ?_⟩
  · intro x0 x1 ds h w0 O q
    rw [R40] at h
    by_cases b0 : (!g102_0 x0 (-1000000000) 1000000000) = true
    · rw [if_pos b0] at h
      subst h
      exact AtV.fin Tryd.func40 tabOk ext40Ok mixed (p40_0 x0 x1) ⟨trivial, b0, rfl, trivial⟩
    · rw [if_neg b0] at h
      replace b0 := Bool.eq_false_iff.2 b0
      by_cases b1 : (!g102_0 x1 1 6) = true
      · rw [if_pos b1] at h
        subst h
        exact AtV.fin Tryd.func40 tabOk ext40Ok mixed (p40_1 x0 x1) ⟨trivial, b0, trivial, b1, trivial⟩
      · rw [if_neg b1] at h
        replace b1 := Bool.eq_false_iff.2 b1
        exact AtV.runN tabOk ext40Ok mixed (p40_2 x0 x1) ⟨trivial, b0, trivial, b1, trivial⟩ (ih5 _ _ _ _ _ h w0 O q)

  · intro v5 v16 x0 x1 ds h w0 O q
    rw [R40_5] at h
    by_cases b0 : (Decidable.decide (v16 < x1)) = true
    · rw [if_pos b0] at h
      obtain ⟨s0, h⟩ := h
      obtain ⟨s1, h⟩ := h
      exact AtV.runN tabOk ext40Ok mixed (p40_3 v5 v16 x0 x1) ⟨b0, s0, s1, trivial⟩ (ih5 _ _ _ _ _ h w0 O q)
    · rw [if_neg b0] at h
      replace b0 := Bool.eq_false_iff.2 b0
      by_cases b1 : (Decidable.decide (x0 < 0)) = true
      · rw [if_pos b1] at h
        obtain ⟨s0, h⟩ := h
        obtain ⟨s1, s2, h⟩ := h
        obtain ⟨s3, h⟩ := h
        obtain ⟨s4, h⟩ := h
        obtain ⟨s5, h⟩ := h
        obtain ⟨s6, h⟩ := h
        obtain ⟨s7, s8, h⟩ := h
        obtain ⟨s9, h⟩ := h
        obtain ⟨s10, h⟩ := h
        subst h
        exact AtV.fin Tryd.func40 tabOk ext40Ok mixed (p40_4 v5 v16 x0 x1) ⟨b0, b1, s0, s1, s2, s3, s4, s5, s6, s7, s8, s9, s10, trivial⟩
      · rw [if_neg b1] at h
        replace b1 := Bool.eq_false_iff.2 b1
        obtain ⟨s0, h⟩ := h
        obtain ⟨s1, s2, h⟩ := h
        obtain ⟨s3, h⟩ := h
        obtain ⟨s4, h⟩ := h
        obtain ⟨s5, h⟩ := h
        obtain ⟨s6, h⟩ := h
        obtain ⟨s7, s8, h⟩ := h
        obtain ⟨s9, h⟩ := h
        obtain ⟨s10, h⟩ := h
        subst h
        exact AtV.fin Tryd.func40 tabOk ext40Ok mixed (p40_5 v5 v16 x0 x1) ⟨b0, b1, s0, s1, s2, s3, s4, s5, s6, s7, s8, s9, s10, trivial⟩



def u40 (x1 : Int) : Nat := 10 ^ x1.toNat
def g40_0 (x0 x1 : Int) : ByteArray := if (!g102_0 x0 (-1000000000) 1000000000) = true then ⟨#[]⟩ else if (!g102_0 x1 1 6) = true then ⟨#[]⟩ else
  (if x0 < 0 then ByteArray.mk #[45] else ByteArray.mk #[]) ++ g94_0 ((x0.natAbs / u40 x1 : Nat) : Int) ++ ByteArray.mk #[46] ++ g103_0 ((x0.natAbs % u40 x1 : Nat) : Int) x1
def P40 (x0 x1 : Int) : Prop := True

theorem win40 {x a b : Int} (h : ¬ (!g102_0 x a b) = true) : a ≤ x ∧ x ≤ b := by
  unfold g102_0 at h
  by_cases c1 : x ≥ a
  · by_cases c2 : x ≤ b
    · exact ⟨c1, c2⟩
    · simp [c1, c2] at h
  · simp [c1] at h

theorem abs40 {x : Int} (h : -1000000000 ≤ x ∧ x ≤ 1000000000) : P106 x ∧ g106_0 x = ((x.natAbs : Nat) : Int) := by
  unfold P106 g106_0
  by_cases c : x < 0
  · simp only [c, decide_true, if_true, i64_iff]
    constructor
    · first | omega | (refine ⟨?_, trivial⟩; omega)
    · omega
  · simp only [c, decide_false, Bool.false_eq_true, if_false]
    constructor
    · first | trivial | omega
    · omega

theorem dec40 {k : Nat} (h : k ≤ 1000000000) : P94 (k : Int) ∧ (g94_0 (k : Int)).size ≤ 21 :=
  ⟨⟨rfl, trivial⟩, numB_size _ (by omega) (by omega)⟩

theorem pad40 {k : Nat} {d : Int} (h : k ≤ 1000000000) (h1 : 1 ≤ d) (h6 : d ≤ 6) : P103 (k : Int) d ∧ (g103_0 (k : Int) d).size ≤ 27 := by
  obtain ⟨p, hs⟩ := dec40 h
  unfold P103 g103_0
  generalize g94_0 (k : Int) = t at *
  have hm : 0 ≤ (if 0 < d - (t.size : Int) then d - (t.size : Int) else 0) ∧ (if 0 < d - (t.size : Int) then d - (t.size : Int) else 0) ≤ 6 := by
    split <;> omega
  generalize (if 0 < d - (t.size : Int) then d - (t.size : Int) else 0) = c at *
  have hr : (g143_0 (ByteArray.mk #[48]) c).size = c.toNat := by
    show (Lib.repeatL [48] c.toNat).toArray.size = _
    rw [List.size_toArray, Lib.repeatL_length]
    simp
  have h1 : ((ByteArray.mk #[48]).size : Int) = 1 := rfl
  refine ⟨⟨p, by rw [i64_iff]; omega, ⟨hm.1, by rw [h1]; omega⟩, by omega, trivial⟩, ?_⟩
  rw [ByteArray.size_append]
  omega

theorem run40 (x0 x1 : Int) (h0 : -1000000000 ≤ x0 ∧ x0 ≤ 1000000000) (h1 : 1 ≤ x1 ∧ x1 ≤ 6) : ∀ (k i : Nat), (i : Int) + k = x1 → R40_5 (k + 1) ((10 ^ i : Nat) : Int) (i : Int) x0 x1 [⟨.str, (if x0 < 0 then ByteArray.mk #[45] else ByteArray.mk #[]) ++ g94_0 ((x0.natAbs / u40 x1 : Nat) : Int) ++ ByteArray.mk #[46] ++ g103_0 ((x0.natAbs % u40 x1 : Nat) : Int) x1⟩]
  | 0, i, hi => by
    have e : x1.toNat = i := by omega
    have hu : u40 x1 = 10 ^ i := by unfold u40; rw [e]
    rw [R40_5, if_neg (by simp only [decide_eq_true_eq]; omega), hu]
    obtain ⟨pa, ea⟩ := abs40 h0
    rw [ea]
    have hp : 1 ≤ 10 ^ i := Nat.one_le_pow _ _ (by decide)
    have hp6 : 10 ^ i ≤ 10 ^ 6 := Nat.pow_le_pow_right (by decide) (by omega)
    generalize 10 ^ i = q at *
    have hA : x0.natAbs ≤ 1000000000 := by omega
    generalize x0.natAbs = A at *
    have t1 : Int.tdiv (A : Int) (q : Int) = ((A / q : Nat) : Int) := rfl
    have t2 : Int.tmod (A : Int) (q : Int) = ((A % q : Nat) : Int) := rfl
    have b1 : A / q ≤ 1000000000 := Nat.le_trans (Nat.div_le_self _ _) hA
    have b2 : A % q ≤ 1000000000 := Nat.le_trans (Nat.mod_le _ _) hA
    rw [t1, t2]
    clear t1 t2
    generalize A / q = k1 at *
    generalize A % q = k2 at *
    obtain ⟨d1, d2⟩ := dec40 b1
    obtain ⟨e1, e2⟩ := pad40 b2 h1.1 h1.2
    have z1 : (ByteArray.mk #[45]).size = 1 := rfl
    have z2 : (ByteArray.mk #[46]).size = 1 := rfl
    have z0 : (ByteArray.mk #[]).size = 0 := rfl
    by_cases hx : x0 < 0
    · simp only [hx, decide_true, if_true]
      exact ⟨pa, by omega, by rw [i64_iff]; omega, d1, by omega, by rw [ByteArray.size_append]; omega, pa, by omega, by rw [i64_iff]; omega, e1, by rw [ByteArray.size_append, ByteArray.size_append]; omega, trivial⟩
    · simp only [hx, decide_false, Bool.false_eq_true, if_false]
      exact ⟨pa, by omega, by rw [i64_iff]; omega, d1, by omega, by rw [ByteArray.size_append]; omega, pa, by omega, by rw [i64_iff]; omega, e1, by rw [ByteArray.size_append, ByteArray.size_append]; omega, trivial⟩
  | k + 1, i, hi => by
    rw [R40_5, if_pos (by simp only [decide_eq_true_eq]; omega)]
    have hp : 10 ^ i ≤ 10 ^ 17 := Nat.pow_le_pow_right (by decide) (by omega)
    have hp2 : 10 ^ i ≤ 100000000000000000 := hp
    have ih := run40 x0 x1 h0 h1 k (i + 1) (by omega)
    have e1 : ((10 ^ i : Nat) : Int) * 10 = ((10 ^ (i + 1) : Nat) : Int) := by rw [Nat.pow_succ, Int.natCast_mul]; rfl
    have e2 : (i : Int) + 1 = ((i + 1 : Nat) : Int) := by omega
    rw [e1, e2]
    refine ⟨?_, by rw [i64_iff]; omega, ih⟩
    rw [← e1, i64_iff]
    generalize 10 ^ i = q at *
    omega

theorem top40 (x0 x1 : Int) : ∃ n, R40 n x0 x1 [⟨.str, g40_0 x0 x1⟩] := by
  unfold g40_0
  by_cases c0 : (!g102_0 x0 (-1000000000) 1000000000) = true
  · exact ⟨1, by rw [R40, if_pos c0, if_pos c0]⟩
  · by_cases c1 : (!g102_0 x1 1 6) = true
    · exact ⟨1, by rw [R40, if_neg c0, if_pos c1, if_neg c0, if_pos c1]⟩
    · have w1 := win40 c1
      refine ⟨x1.toNat + 1 + 1, ?_⟩
      rw [R40, if_neg c0, if_neg c1, if_neg c0, if_neg c1]
      exact run40 x0 x1 (win40 c0) w1 x1.toNat 0 (by omega)

def S40 : Am.Spec := { sig := sig40, pre := fun ⟨x0, x1, _⟩ => P40 x0 x1, res := fun ⟨x0, x1, _⟩ => [⟨.str, g40_0 x0 x1⟩] }
theorem con40 : Contract Tryd.prog 40 S40 := contract_of Tryd.func40 hb40 (Nat.le_of_ble_eq_true (by kernel_rfl)) (fun ⟨x0, x1, _⟩ h hwf w0 O q => by
  obtain ⟨n, hn⟩ := top40 x0 x1
  exact (snd40 n).1 x0 x1 _ hn w0 O q)

end Go.Proofs.YtakodkjcmacofaaDoor

/- Function 27 (impl.ReadFixed): its runs between cut points. Written by a program of this repo (gen). -/
set_option linter.unusedVariables false
set_option linter.unusedSimpArgs false
set_option maxRecDepth 100000
namespace Go.Proofs.YtakodkjcmacofaaDoor
open Go Go.Am Go.Proofs
def ext27 : Ext := [(83, S83), (64, S64), (65, S65), (84, S84), (40, S40)]
theorem call27_83 : Callable Tryd.prog 83 := ⟨Tryd.f83, Tryd.func83, by kernel_rfl, by kernel_rfl⟩
theorem call27_64 : Callable Tryd.prog 64 := ⟨Tryd.f64, Tryd.func64, by kernel_rfl, by kernel_rfl⟩
theorem call27_65 : Callable Tryd.prog 65 := ⟨Tryd.f65, Tryd.func65, by kernel_rfl, by kernel_rfl⟩
theorem call27_84 : Callable Tryd.prog 84 := ⟨Tryd.f84, Tryd.func84, by kernel_rfl, by kernel_rfl⟩
theorem call27_40 : Callable Tryd.prog 40 := ⟨Tryd.f40, Tryd.func40, by kernel_rfl, by kernel_rfl⟩
theorem ext27Ok : ExtOk Tryd.prog ext27 := ⟨⟨call27_83, con83⟩, ⟨call27_64, con64⟩, ⟨call27_65, con65⟩, ⟨call27_84, con84⟩, ⟨call27_40, con40⟩, trivial⟩
/-! Function 27. -/
noncomputable def b27 : Code := bodyOf Tryd.f27
theorem hb27 : Tryd.f27.body = some b27 := by kernel_rfl
def sig27 : List AT := [AT.v (Ty.str), AT.v (Ty.int IntKind.i64)]
def tys27 : List Ty := [Ty.int IntKind.i64, Ty.bool]
def P27 (x0 : ByteArray) (x1 : Int) : Prop := ((P64 (g83_0 x0 (ByteArray.mk #[45])) (ByteArray.mk #[46])) ∧ ((ByteArray.size (g64_0 (g83_0 x0 (ByteArray.mk #[45])) (ByteArray.mk #[46])) + ByteArray.size (g64_1 (g83_0 x0 (ByteArray.mk #[45])) (ByteArray.mk #[46])) ≤ 9223372036854775807) ∧ (if (g84_0 x0 (ByteArray.mk #[45])) = true then ((InR IntKind.i64 (0 - g65_0 (g64_0 (g83_0 x0 (ByteArray.mk #[45])) (ByteArray.mk #[46]) ++ g64_1 (g83_0 x0 (ByteArray.mk #[45])) (ByteArray.mk #[46])))) ∧ True) else True)))
def g27_0 (x0 : ByteArray) (x1 : Int) : Int := (if (g84_0 x0 (ByteArray.mk #[45])) = true then (if (ByteArray.toList x0 == ByteArray.toList (ByteArray.mk #[])) = true then 0 else (if (!ByteArray.toList (g40_0 (0 - g65_0 (g64_0 (g83_0 x0 (ByteArray.mk #[45])) (ByteArray.mk #[46]) ++ g64_1 (g83_0 x0 (ByteArray.mk #[45])) (ByteArray.mk #[46]))) x1) == ByteArray.toList x0) = true then 0 else 0 - g65_0 (g64_0 (g83_0 x0 (ByteArray.mk #[45])) (ByteArray.mk #[46]) ++ g64_1 (g83_0 x0 (ByteArray.mk #[45])) (ByteArray.mk #[46])))) else (if (ByteArray.toList x0 == ByteArray.toList (ByteArray.mk #[])) = true then 0 else (if (!ByteArray.toList (g40_0 (g65_0 (g64_0 (g83_0 x0 (ByteArray.mk #[45])) (ByteArray.mk #[46]) ++ g64_1 (g83_0 x0 (ByteArray.mk #[45])) (ByteArray.mk #[46]))) x1) == ByteArray.toList x0) = true then 0 else g65_0 (g64_0 (g83_0 x0 (ByteArray.mk #[45])) (ByteArray.mk #[46]) ++ g64_1 (g83_0 x0 (ByteArray.mk #[45])) (ByteArray.mk #[46])))))
def g27_1 (x0 : ByteArray) (x1 : Int) : Bool := (if (g84_0 x0 (ByteArray.mk #[45])) = true then (if (ByteArray.toList x0 == ByteArray.toList (ByteArray.mk #[])) = true then Bool.false else (if (!ByteArray.toList (g40_0 (0 - g65_0 (g64_0 (g83_0 x0 (ByteArray.mk #[45])) (ByteArray.mk #[46]) ++ g64_1 (g83_0 x0 (ByteArray.mk #[45])) (ByteArray.mk #[46]))) x1) == ByteArray.toList x0) = true then Bool.false else Bool.true)) else (if (ByteArray.toList x0 == ByteArray.toList (ByteArray.mk #[])) = true then Bool.false else (if (!ByteArray.toList (g40_0 (g65_0 (g64_0 (g83_0 x0 (ByteArray.mk #[45])) (ByteArray.mk #[46]) ++ g64_1 (g83_0 x0 (ByteArray.mk #[45])) (ByteArray.mk #[46]))) x1) == ByteArray.toList x0) = true then Bool.false else Bool.true)))
theorem p27_0 (x0 : ByteArray) (x1 : Int) : runF tab ext27 false 35 [] 2000 [] tys27 Tryd.f27.results [true, true, true] [.code b27] (entE 0 0 sig27 (x0, x1, ())) (entL sig27 (x0, x1, ())) = some ([Dyn.mk (Ty.int IntKind.i64) 0, Dyn.mk Ty.bool Bool.false], [], [True, P64 (g83_0 x0 (ByteArray.mk #[45])) (ByteArray.mk #[46]), ByteArray.size (g64_0 (g83_0 x0 (ByteArray.mk #[45])) (ByteArray.mk #[46])) + ByteArray.size (g64_1 (g83_0 x0 (ByteArray.mk #[45])) (ByteArray.mk #[46])) ≤ 9223372036854775807, True, True, g84_0 x0 (ByteArray.mk #[45]) = Bool.true, InR IntKind.i64 (0 - g65_0 (g64_0 (g83_0 x0 (ByteArray.mk #[45])) (ByteArray.mk #[46]) ++ g64_1 (g83_0 x0 (ByteArray.mk #[45])) (ByteArray.mk #[46]))), (ByteArray.toList x0 == ByteArray.toList (ByteArray.mk #[])) = Bool.true, Bool.true = Bool.true]) := by kernel_rfl
theorem p27_1 (x0 : ByteArray) (x1 : Int) : runF tab ext27 false 35 [] 2000 [] tys27 Tryd.f27.results [true, false, true] [.code b27] (entE 0 0 sig27 (x0, x1, ())) (entL sig27 (x0, x1, ())) = some ([Dyn.mk (Ty.int IntKind.i64) 0, Dyn.mk Ty.bool Bool.false], [], [True, P64 (g83_0 x0 (ByteArray.mk #[45])) (ByteArray.mk #[46]), ByteArray.size (g64_0 (g83_0 x0 (ByteArray.mk #[45])) (ByteArray.mk #[46])) + ByteArray.size (g64_1 (g83_0 x0 (ByteArray.mk #[45])) (ByteArray.mk #[46])) ≤ 9223372036854775807, True, True, g84_0 x0 (ByteArray.mk #[45]) = Bool.true, InR IntKind.i64 (0 - g65_0 (g64_0 (g83_0 x0 (ByteArray.mk #[45])) (ByteArray.mk #[46]) ++ g64_1 (g83_0 x0 (ByteArray.mk #[45])) (ByteArray.mk #[46]))), (ByteArray.toList x0 == ByteArray.toList (ByteArray.mk #[])) = Bool.false, True, (!ByteArray.toList (g40_0 (0 - g65_0 (g64_0 (g83_0 x0 (ByteArray.mk #[45])) (ByteArray.mk #[46]) ++ g64_1 (g83_0 x0 (ByteArray.mk #[45])) (ByteArray.mk #[46]))) x1) == ByteArray.toList x0) = Bool.true]) := by kernel_rfl
theorem p27_2 (x0 : ByteArray) (x1 : Int) : runF tab ext27 false 35 [] 2000 [] tys27 Tryd.f27.results [true, false, false] [.code b27] (entE 0 0 sig27 (x0, x1, ())) (entL sig27 (x0, x1, ())) = some ([Dyn.mk (Ty.int IntKind.i64) (0 - g65_0 (g64_0 (g83_0 x0 (ByteArray.mk #[45])) (ByteArray.mk #[46]) ++ g64_1 (g83_0 x0 (ByteArray.mk #[45])) (ByteArray.mk #[46]))), Dyn.mk Ty.bool Bool.true], [], [True, P64 (g83_0 x0 (ByteArray.mk #[45])) (ByteArray.mk #[46]), ByteArray.size (g64_0 (g83_0 x0 (ByteArray.mk #[45])) (ByteArray.mk #[46])) + ByteArray.size (g64_1 (g83_0 x0 (ByteArray.mk #[45])) (ByteArray.mk #[46])) ≤ 9223372036854775807, True, True, g84_0 x0 (ByteArray.mk #[45]) = Bool.true, InR IntKind.i64 (0 - g65_0 (g64_0 (g83_0 x0 (ByteArray.mk #[45])) (ByteArray.mk #[46]) ++ g64_1 (g83_0 x0 (ByteArray.mk #[45])) (ByteArray.mk #[46]))), (ByteArray.toList x0 == ByteArray.toList (ByteArray.mk #[])) = Bool.false, True, (!ByteArray.toList (g40_0 (0 - g65_0 (g64_0 (g83_0 x0 (ByteArray.mk #[45])) (ByteArray.mk #[46]) ++ g64_1 (g83_0 x0 (ByteArray.mk #[45])) (ByteArray.mk #[46]))) x1) == ByteArray.toList x0) = Bool.false]) := by kernel_rfl
theorem p27_3 (x0 : ByteArray) (x1 : Int) : runF tab ext27 false 35 [] 2000 [] tys27 Tryd.f27.results [false, true, true] [.code b27] (entE 0 0 sig27 (x0, x1, ())) (entL sig27 (x0, x1, ())) = some ([Dyn.mk (Ty.int IntKind.i64) 0, Dyn.mk Ty.bool Bool.false], [], [True, P64 (g83_0 x0 (ByteArray.mk #[45])) (ByteArray.mk #[46]), ByteArray.size (g64_0 (g83_0 x0 (ByteArray.mk #[45])) (ByteArray.mk #[46])) + ByteArray.size (g64_1 (g83_0 x0 (ByteArray.mk #[45])) (ByteArray.mk #[46])) ≤ 9223372036854775807, True, True, g84_0 x0 (ByteArray.mk #[45]) = Bool.false, (ByteArray.toList x0 == ByteArray.toList (ByteArray.mk #[])) = Bool.true, Bool.true = Bool.true]) := by kernel_rfl
theorem p27_4 (x0 : ByteArray) (x1 : Int) : runF tab ext27 false 35 [] 2000 [] tys27 Tryd.f27.results [false, false, true] [.code b27] (entE 0 0 sig27 (x0, x1, ())) (entL sig27 (x0, x1, ())) = some ([Dyn.mk (Ty.int IntKind.i64) 0, Dyn.mk Ty.bool Bool.false], [], [True, P64 (g83_0 x0 (ByteArray.mk #[45])) (ByteArray.mk #[46]), ByteArray.size (g64_0 (g83_0 x0 (ByteArray.mk #[45])) (ByteArray.mk #[46])) + ByteArray.size (g64_1 (g83_0 x0 (ByteArray.mk #[45])) (ByteArray.mk #[46])) ≤ 9223372036854775807, True, True, g84_0 x0 (ByteArray.mk #[45]) = Bool.false, (ByteArray.toList x0 == ByteArray.toList (ByteArray.mk #[])) = Bool.false, True, (!ByteArray.toList (g40_0 (g65_0 (g64_0 (g83_0 x0 (ByteArray.mk #[45])) (ByteArray.mk #[46]) ++ g64_1 (g83_0 x0 (ByteArray.mk #[45])) (ByteArray.mk #[46]))) x1) == ByteArray.toList x0) = Bool.true]) := by kernel_rfl
theorem p27_5 (x0 : ByteArray) (x1 : Int) : runF tab ext27 false 35 [] 2000 [] tys27 Tryd.f27.results [false, false, false] [.code b27] (entE 0 0 sig27 (x0, x1, ())) (entL sig27 (x0, x1, ())) = some ([Dyn.mk (Ty.int IntKind.i64) (g65_0 (g64_0 (g83_0 x0 (ByteArray.mk #[45])) (ByteArray.mk #[46]) ++ g64_1 (g83_0 x0 (ByteArray.mk #[45])) (ByteArray.mk #[46]))), Dyn.mk Ty.bool Bool.true], [], [True, P64 (g83_0 x0 (ByteArray.mk #[45])) (ByteArray.mk #[46]), ByteArray.size (g64_0 (g83_0 x0 (ByteArray.mk #[45])) (ByteArray.mk #[46])) + ByteArray.size (g64_1 (g83_0 x0 (ByteArray.mk #[45])) (ByteArray.mk #[46])) ≤ 9223372036854775807, True, True, g84_0 x0 (ByteArray.mk #[45]) = Bool.false, (ByteArray.toList x0 == ByteArray.toList (ByteArray.mk #[])) = Bool.false, True, (!ByteArray.toList (g40_0 (g65_0 (g64_0 (g83_0 x0 (ByteArray.mk #[45])) (ByteArray.mk #[46]) ++ g64_1 (g83_0 x0 (ByteArray.mk #[45])) (ByteArray.mk #[46]))) x1) == ByteArray.toList x0) = Bool.false]) := by kernel_rfl
theorem at27 (x0 : ByteArray) (x1 : Int) (h : P27 x0 x1) (w0 : World) (O : List Nat) (q : Nat → Value) : AtV Tryd.prog 27 (PostR [⟨Ty.int IntKind.i64, g27_0 x0 x1⟩, ⟨Ty.bool, g27_1 x0 x1⟩] [] [] q w0 O) 35 w0 O q [] [.code b27] (entE 0 0 sig27 (x0, x1, ())) (entL sig27 (x0, x1, ())) := by
  unfold P27 at h
  unfold g27_0 g27_1
  obtain ⟨s0, h⟩ := h
  obtain ⟨s1, h⟩ := h
  by_cases b0 : (g84_0 x0 (ByteArray.mk #[45])) = true
  · try simp only [if_pos b0] at h ⊢
    obtain ⟨s2, h⟩ := h
    by_cases b1 : (ByteArray.toList x0 == ByteArray.toList (ByteArray.mk #[])) = true
    · try simp only [if_pos b1] at h ⊢
      exact AtV.fin Tryd.func27 tabOk ext27Ok mixed (p27_0 x0 x1) ⟨trivial, s0, s1, trivial, trivial, b0, s2, b1, rfl, trivial⟩
    · try simp only [if_neg b1] at h ⊢
      replace b1 := Bool.eq_false_iff.2 b1
      by_cases b2 : (!ByteArray.toList (g40_0 (0 - g65_0 (g64_0 (g83_0 x0 (ByteArray.mk #[45])) (ByteArray.mk #[46]) ++ g64_1 (g83_0 x0 (ByteArray.mk #[45])) (ByteArray.mk #[46]))) x1) == ByteArray.toList x0) = true
      · try simp only [if_pos b2] at h ⊢
        exact AtV.fin Tryd.func27 tabOk ext27Ok mixed (p27_1 x0 x1) ⟨trivial, s0, s1, trivial, trivial, b0, s2, b1, trivial, b2, trivial⟩
      · try simp only [if_neg b2] at h ⊢
        replace b2 := Bool.eq_false_iff.2 b2
        exact AtV.fin Tryd.func27 tabOk ext27Ok mixed (p27_2 x0 x1) ⟨trivial, s0, s1, trivial, trivial, b0, s2, b1, trivial, b2, trivial⟩
  · try simp only [if_neg b0] at h ⊢
    replace b0 := Bool.eq_false_iff.2 b0
    by_cases b1 : (ByteArray.toList x0 == ByteArray.toList (ByteArray.mk #[])) = true
    · try simp only [if_pos b1] at h ⊢
      exact AtV.fin Tryd.func27 tabOk ext27Ok mixed (p27_3 x0 x1) ⟨trivial, s0, s1, trivial, trivial, b0, b1, rfl, trivial⟩
    · try simp only [if_neg b1] at h ⊢
      replace b1 := Bool.eq_false_iff.2 b1
      by_cases b2 : (!ByteArray.toList (g40_0 (g65_0 (g64_0 (g83_0 x0 (ByteArray.mk #[45])) (ByteArray.mk #[46]) ++ g64_1 (g83_0 x0 (ByteArray.mk #[45])) (ByteArray.mk #[46]))) x1) == ByteArray.toList x0) = true
      · try simp only [if_pos b2] at h ⊢
        exact AtV.fin Tryd.func27 tabOk ext27Ok mixed (p27_4 x0 x1) ⟨trivial, s0, s1, trivial, trivial, b0, b1, trivial, b2, trivial⟩
      · try simp only [if_neg b2] at h ⊢
        replace b2 := Bool.eq_false_iff.2 b2
        exact AtV.fin Tryd.func27 tabOk ext27Ok mixed (p27_5 x0 x1) ⟨trivial, s0, s1, trivial, trivial, b0, b1, trivial, b2, trivial⟩

def S27 : Am.Spec := { sig := sig27, pre := fun ⟨x0, x1, _⟩ => P27 x0 x1, res := fun ⟨x0, x1, _⟩ => [⟨Ty.int IntKind.i64, g27_0 x0 x1⟩, ⟨Ty.bool, g27_1 x0 x1⟩] }
theorem con27 : Contract Tryd.prog 27 S27 := contract_of Tryd.func27 hb27 (Nat.le_of_ble_eq_true (by kernel_rfl)) (fun ⟨x0, x1, _⟩ h _ w0 O q => at27 x0 x1 h w0 O q)


end Go.Proofs.YtakodkjcmacofaaDoor

/- Function 108 (impl.isUnit): its runs between cut points. Written by a program of this repo (gen). -/
set_option linter.unusedVariables false
set_option linter.unusedSimpArgs false
set_option maxRecDepth 100000
namespace Go.Proofs.YtakodkjcmacofaaDoor
open Go Go.Am Go.Proofs
def ext108 : Ext := [(102, S102)]
theorem call108_102 : Callable Tryd.prog 102 := ⟨Tryd.f102, Tryd.func102, by kernel_rfl, by kernel_rfl⟩
theorem ext108Ok : ExtOk Tryd.prog ext108 := ⟨⟨call108_102, con102⟩, trivial⟩
/-! Function 108. -/
noncomputable def b108 : Code := bodyOf Tryd.f108
theorem hb108 : Tryd.f108.body = some b108 := by kernel_rfl
def sig108 : List AT := [AT.v (Ty.int IntKind.i64)]
def tys108 : List Ty := [Ty.bool]
def P108 (x0 : Int) : Prop := True
def g108_0 (x0 : Int) : Bool := g102_0 x0 0 1000000000
theorem p108_0 (x0 : Int) : runF tab ext108 false 5 [] 2000 [] tys108 Tryd.f108.results [] [.code b108] (entE 0 0 sig108 (x0, ())) (entL sig108 (x0, ())) = some ([Dyn.mk Ty.bool (g102_0 x0 0 1000000000)], [], [True]) := by kernel_rfl
theorem at108 (x0 : Int) (h : P108 x0) (w0 : World) (O : List Nat) (q : Nat → Value) : AtV Tryd.prog 108 (PostR [⟨Ty.bool, g108_0 x0⟩] [] [] q w0 O) 5 w0 O q [] [.code b108] (entE 0 0 sig108 (x0, ())) (entL sig108 (x0, ())) := by
  unfold P108 at h
  unfold g108_0
  exact AtV.fin Tryd.func108 tabOk ext108Ok mixed (p108_0 x0) ⟨trivial, trivial⟩

def S108 : Am.Spec := { sig := sig108, pre := fun ⟨x0, _⟩ => P108 x0, res := fun ⟨x0, _⟩ => [⟨Ty.bool, g108_0 x0⟩] }
theorem con108 : Contract Tryd.prog 108 S108 := contract_of Tryd.func108 hb108 (Nat.le_of_ble_eq_true (by kernel_rfl)) (fun ⟨x0, _⟩ h _ w0 O q => at108 x0 h w0 O q)


end Go.Proofs.YtakodkjcmacofaaDoor

/- Function 45 (impl.SpeedText): its runs between cut points. Written by a program of this repo (gen). -/
set_option linter.unusedVariables false
set_option linter.unusedSimpArgs false
set_option maxRecDepth 100000
namespace Go.Proofs.YtakodkjcmacofaaDoor
open Go Go.Am Go.Proofs
def ext45 : Ext := [(108, S108), (40, S40)]
theorem call45_108 : Callable Tryd.prog 108 := ⟨Tryd.f108, Tryd.func108, by kernel_rfl, by kernel_rfl⟩
theorem call45_40 : Callable Tryd.prog 40 := ⟨Tryd.f40, Tryd.func40, by kernel_rfl, by kernel_rfl⟩
theorem ext45Ok : ExtOk Tryd.prog ext45 := ⟨⟨call45_108, con108⟩, ⟨call45_40, con40⟩, trivial⟩
/-! Function 45. -/
noncomputable def b45 : Code := bodyOf Tryd.f45
theorem hb45 : Tryd.f45.body = some b45 := by kernel_rfl
def sig45 : List AT := [AT.v (Ty.int IntKind.i64)]
def tys45 : List Ty := [Ty.str]
def P45 (x0 : Int) : Prop := (if (!g108_0 x0) = true then True else ((ByteArray.size (g40_0 x0 3) + 4 ≤ 9223372036854775807) ∧ True))
def g45_0 (x0 : Int) : ByteArray := (if (!g108_0 x0) = true then ByteArray.mk #[] else g40_0 x0 3 ++ ByteArray.mk #[32, 109, 47, 115])
theorem p45_0 (x0 : Int) : runF tab ext45 false 9 [] 2000 [] tys45 Tryd.f45.results [true] [.code b45] (entE 0 0 sig45 (x0, ())) (entL sig45 (x0, ())) = some ([Dyn.mk Ty.str (ByteArray.mk #[])], [], [True, (!g108_0 x0) = Bool.true]) := by kernel_rfl
theorem p45_1 (x0 : Int) : runF tab ext45 false 9 [] 2000 [] tys45 Tryd.f45.results [false] [.code b45] (entE 0 0 sig45 (x0, ())) (entL sig45 (x0, ())) = some ([Dyn.mk Ty.str (g40_0 x0 3 ++ ByteArray.mk #[32, 109, 47, 115])], [], [True, (!g108_0 x0) = Bool.false, True, ByteArray.size (g40_0 x0 3) + 4 ≤ 9223372036854775807]) := by kernel_rfl
theorem at45 (x0 : Int) (h : P45 x0) (w0 : World) (O : List Nat) (q : Nat → Value) : AtV Tryd.prog 45 (PostR [⟨Ty.str, g45_0 x0⟩] [] [] q w0 O) 9 w0 O q [] [.code b45] (entE 0 0 sig45 (x0, ())) (entL sig45 (x0, ())) := by
  unfold P45 at h
  unfold g45_0
  by_cases b0 : (!g108_0 x0) = true
  · try simp only [if_pos b0] at h ⊢
    exact AtV.fin Tryd.func45 tabOk ext45Ok mixed (p45_0 x0) ⟨trivial, b0, trivial⟩
  · try simp only [if_neg b0] at h ⊢
    replace b0 := Bool.eq_false_iff.2 b0
    obtain ⟨s0, h⟩ := h
    exact AtV.fin Tryd.func45 tabOk ext45Ok mixed (p45_1 x0) ⟨trivial, b0, trivial, s0, trivial⟩

def S45 : Am.Spec := { sig := sig45, pre := fun ⟨x0, _⟩ => P45 x0, res := fun ⟨x0, _⟩ => [⟨Ty.str, g45_0 x0⟩] }
theorem con45 : Contract Tryd.prog 45 S45 := contract_of Tryd.func45 hb45 (Nat.le_of_ble_eq_true (by kernel_rfl)) (fun ⟨x0, _⟩ h _ w0 O q => at45 x0 h w0 O q)


end Go.Proofs.YtakodkjcmacofaaDoor

/- Function 29 (impl.ReadSpeed): its runs between cut points. Written by a program of this repo (gen). -/
set_option linter.unusedVariables false
set_option linter.unusedSimpArgs false
set_option maxRecDepth 100000
namespace Go.Proofs.YtakodkjcmacofaaDoor
open Go Go.Am Go.Proofs
def ext29 : Ext := [(85, S85), (27, S27), (45, S45)]
theorem call29_85 : Callable Tryd.prog 85 := ⟨Tryd.f85, Tryd.func85, by kernel_rfl, by kernel_rfl⟩
theorem call29_27 : Callable Tryd.prog 27 := ⟨Tryd.f27, Tryd.func27, by kernel_rfl, by kernel_rfl⟩
theorem call29_45 : Callable Tryd.prog 45 := ⟨Tryd.f45, Tryd.func45, by kernel_rfl, by kernel_rfl⟩
theorem ext29Ok : ExtOk Tryd.prog ext29 := ⟨⟨call29_85, con85⟩, ⟨call29_27, con27⟩, ⟨call29_45, con45⟩, trivial⟩
/-! Function 29. -/
noncomputable def b29 : Code := bodyOf Tryd.f29
theorem hb29 : Tryd.f29.body = some b29 := by kernel_rfl
def sig29 : List AT := [AT.v (Ty.str)]
def tys29 : List Ty := [Ty.int IntKind.i64, Ty.bool]
def P29 (x0 : ByteArray) : Prop := ((P27 (g85_0 x0 (ByteArray.mk #[32, 109, 47, 115])) 3) ∧ (if (!g27_1 (g85_0 x0 (ByteArray.mk #[32, 109, 47, 115])) 3) = true then True else ((P45 (g27_0 (g85_0 x0 (ByteArray.mk #[32, 109, 47, 115])) 3)) ∧ True)))
def g29_0 (x0 : ByteArray) : Int := (if (!g27_1 (g85_0 x0 (ByteArray.mk #[32, 109, 47, 115])) 3) = true then 0 else (if (!ByteArray.toList (g45_0 (g27_0 (g85_0 x0 (ByteArray.mk #[32, 109, 47, 115])) 3)) == ByteArray.toList x0) = true then 0 else g27_0 (g85_0 x0 (ByteArray.mk #[32, 109, 47, 115])) 3))
def g29_1 (x0 : ByteArray) : Bool := (if (!g27_1 (g85_0 x0 (ByteArray.mk #[32, 109, 47, 115])) 3) = true then Bool.false else (if (!ByteArray.toList (g45_0 (g27_0 (g85_0 x0 (ByteArray.mk #[32, 109, 47, 115])) 3)) == ByteArray.toList x0) = true then Bool.false else Bool.true))
theorem p29_0 (x0 : ByteArray) : runF tab ext29 false 21 [] 2000 [] tys29 Tryd.f29.results [true, true] [.code b29] (entE 0 0 sig29 (x0, ())) (entL sig29 (x0, ())) = some ([Dyn.mk (Ty.int IntKind.i64) 0, Dyn.mk Ty.bool Bool.false], [], [True, P27 (g85_0 x0 (ByteArray.mk #[32, 109, 47, 115])) 3, (!g27_1 (g85_0 x0 (ByteArray.mk #[32, 109, 47, 115])) 3) = Bool.true, Bool.true = Bool.true]) := by kernel_rfl
theorem p29_1 (x0 : ByteArray) : runF tab ext29 false 21 [] 2000 [] tys29 Tryd.f29.results [false, true] [.code b29] (entE 0 0 sig29 (x0, ())) (entL sig29 (x0, ())) = some ([Dyn.mk (Ty.int IntKind.i64) 0, Dyn.mk Ty.bool Bool.false], [], [True, P27 (g85_0 x0 (ByteArray.mk #[32, 109, 47, 115])) 3, (!g27_1 (g85_0 x0 (ByteArray.mk #[32, 109, 47, 115])) 3) = Bool.false, P45 (g27_0 (g85_0 x0 (ByteArray.mk #[32, 109, 47, 115])) 3), (!ByteArray.toList (g45_0 (g27_0 (g85_0 x0 (ByteArray.mk #[32, 109, 47, 115])) 3)) == ByteArray.toList x0) = Bool.true]) := by kernel_rfl
theorem p29_2 (x0 : ByteArray) : runF tab ext29 false 21 [] 2000 [] tys29 Tryd.f29.results [false, false] [.code b29] (entE 0 0 sig29 (x0, ())) (entL sig29 (x0, ())) = some ([Dyn.mk (Ty.int IntKind.i64) (g27_0 (g85_0 x0 (ByteArray.mk #[32, 109, 47, 115])) 3), Dyn.mk Ty.bool Bool.true], [], [True, P27 (g85_0 x0 (ByteArray.mk #[32, 109, 47, 115])) 3, (!g27_1 (g85_0 x0 (ByteArray.mk #[32, 109, 47, 115])) 3) = Bool.false, P45 (g27_0 (g85_0 x0 (ByteArray.mk #[32, 109, 47, 115])) 3), (!ByteArray.toList (g45_0 (g27_0 (g85_0 x0 (ByteArray.mk #[32, 109, 47, 115])) 3)) == ByteArray.toList x0) = Bool.false]) := by kernel_rfl
theorem at29 (x0 : ByteArray) (h : P29 x0) (w0 : World) (O : List Nat) (q : Nat → Value) : AtV Tryd.prog 29 (PostR [⟨Ty.int IntKind.i64, g29_0 x0⟩, ⟨Ty.bool, g29_1 x0⟩] [] [] q w0 O) 21 w0 O q [] [.code b29] (entE 0 0 sig29 (x0, ())) (entL sig29 (x0, ())) := by
  unfold P29 at h
  unfold g29_0 g29_1
  obtain ⟨s0, h⟩ := h
  by_cases b0 : (!g27_1 (g85_0 x0 (ByteArray.mk #[32, 109, 47, 115])) 3) = true
  · try simp only [if_pos b0] at h ⊢
    exact AtV.fin Tryd.func29 tabOk ext29Ok mixed (p29_0 x0) ⟨trivial, s0, b0, rfl, trivial⟩
  · try simp only [if_neg b0] at h ⊢
    replace b0 := Bool.eq_false_iff.2 b0
    obtain ⟨s1, h⟩ := h
    by_cases b1 : (!ByteArray.toList (g45_0 (g27_0 (g85_0 x0 (ByteArray.mk #[32, 109, 47, 115])) 3)) == ByteArray.toList x0) = true
    · try simp only [if_pos b1] at h ⊢
      exact AtV.fin Tryd.func29 tabOk ext29Ok mixed (p29_1 x0) ⟨trivial, s0, b0, s1, b1, trivial⟩
    · try simp only [if_neg b1] at h ⊢
      replace b1 := Bool.eq_false_iff.2 b1
      exact AtV.fin Tryd.func29 tabOk ext29Ok mixed (p29_2 x0) ⟨trivial, s0, b0, s1, b1, trivial⟩

def S29 : Am.Spec := { sig := sig29, pre := fun ⟨x0, _⟩ => P29 x0, res := fun ⟨x0, _⟩ => [⟨Ty.int IntKind.i64, g29_0 x0⟩, ⟨Ty.bool, g29_1 x0⟩] }
theorem con29 : Contract Tryd.prog 29 S29 := contract_of Tryd.func29 hb29 (Nat.le_of_ble_eq_true (by kernel_rfl)) (fun ⟨x0, _⟩ h _ w0 O q => at29 x0 h w0 O q)


end Go.Proofs.YtakodkjcmacofaaDoor

/- Function 7 (laws.FnExactReadSpeed): its runs between cut points. Written by a program of this repo (gen). -/
set_option linter.unusedVariables false
set_option linter.unusedSimpArgs false
set_option maxRecDepth 100000
namespace Go.Proofs.YtakodkjcmacofaaDoor
open Go Go.Am Go.Proofs
def ext7 : Ext := [(28, S28), (29, S29)]
theorem call7_28 : Callable Tryd.prog 28 := ⟨Tryd.f28, Tryd.func28, by kernel_rfl, by kernel_rfl⟩
theorem call7_29 : Callable Tryd.prog 29 := ⟨Tryd.f29, Tryd.func29, by kernel_rfl, by kernel_rfl⟩
theorem ext7Ok : ExtOk Tryd.prog ext7 := ⟨⟨call7_28, con28⟩, ⟨call7_29, con29⟩, trivial⟩
/-! Function 7. -/
noncomputable def b7 : Code := bodyOf Tryd.f7
theorem hb7 : Tryd.f7.body = some b7 := by kernel_rfl
def sig7 : List AT := [AT.v (Ty.str)]
def tys7 : List Ty := [Ty.bool]
def P7 (x0 : ByteArray) : Prop := (if (Decidable.decide ((↑(ByteArray.size x0) : Int) > 1048576)) = true then True else ((P28 x0) ∧ ((P29 x0) ∧ True)))
def g7_0 (x0 : ByteArray) : Bool := (if (Decidable.decide ((↑(ByteArray.size x0) : Int) > 1048576)) = true then Bool.true else (if (g29_0 x0 != g28_0 x0) = true then Bool.false else (if (!g29_1 x0 == g28_1 x0) = true then Bool.false else Bool.true)))
theorem p7_0 (x0 : ByteArray) : runF tab ext7 false 28 [] 2000 [] tys7 Tryd.f7.results [true] [.code b7] (entE 0 0 sig7 (x0, ())) (entL sig7 (x0, ())) = some ([Dyn.mk Ty.bool Bool.true], [], [Decidable.decide ((↑(ByteArray.size x0) : Int) > 1048576) = Bool.true]) := by kernel_rfl
theorem p7_1 (x0 : ByteArray) : runF tab ext7 false 28 [] 2000 [] tys7 Tryd.f7.results [false, true, true] [.code b7] (entE 0 0 sig7 (x0, ())) (entL sig7 (x0, ())) = some ([Dyn.mk Ty.bool Bool.false], [], [Decidable.decide ((↑(ByteArray.size x0) : Int) > 1048576) = Bool.false, P28 x0, P29 x0, (g29_0 x0 != g28_0 x0) = Bool.true, Bool.true = Bool.true]) := by kernel_rfl
theorem p7_2 (x0 : ByteArray) : runF tab ext7 false 28 [] 2000 [] tys7 Tryd.f7.results [false, false, true] [.code b7] (entE 0 0 sig7 (x0, ())) (entL sig7 (x0, ())) = some ([Dyn.mk Ty.bool Bool.false], [], [Decidable.decide ((↑(ByteArray.size x0) : Int) > 1048576) = Bool.false, P28 x0, P29 x0, (g29_0 x0 != g28_0 x0) = Bool.false, (!g29_1 x0 == g28_1 x0) = Bool.true]) := by kernel_rfl
theorem p7_3 (x0 : ByteArray) : runF tab ext7 false 28 [] 2000 [] tys7 Tryd.f7.results [false, false, false] [.code b7] (entE 0 0 sig7 (x0, ())) (entL sig7 (x0, ())) = some ([Dyn.mk Ty.bool Bool.true], [], [Decidable.decide ((↑(ByteArray.size x0) : Int) > 1048576) = Bool.false, P28 x0, P29 x0, (g29_0 x0 != g28_0 x0) = Bool.false, (!g29_1 x0 == g28_1 x0) = Bool.false]) := by kernel_rfl
theorem at7 (x0 : ByteArray) (h : P7 x0) (w0 : World) (O : List Nat) (q : Nat → Value) : AtV Tryd.prog 7 (PostR [⟨Ty.bool, g7_0 x0⟩] [] [] q w0 O) 28 w0 O q [] [.code b7] (entE 0 0 sig7 (x0, ())) (entL sig7 (x0, ())) := by
  unfold P7 at h
  unfold g7_0
  by_cases b0 : (Decidable.decide ((↑(ByteArray.size x0) : Int) > 1048576)) = true
  · try simp only [if_pos b0] at h ⊢
    exact AtV.fin Tryd.func7 tabOk ext7Ok mixed (p7_0 x0) ⟨b0, trivial⟩
  · try simp only [if_neg b0] at h ⊢
    replace b0 := Bool.eq_false_iff.2 b0
    obtain ⟨s0, h⟩ := h
    obtain ⟨s1, h⟩ := h
    by_cases b1 : (g29_0 x0 != g28_0 x0) = true
    · try simp only [if_pos b1] at h ⊢
      exact AtV.fin Tryd.func7 tabOk ext7Ok mixed (p7_1 x0) ⟨b0, s0, s1, b1, rfl, trivial⟩
    · try simp only [if_neg b1] at h ⊢
      replace b1 := Bool.eq_false_iff.2 b1
      by_cases b2 : (!g29_1 x0 == g28_1 x0) = true
      · try simp only [if_pos b2] at h ⊢
        exact AtV.fin Tryd.func7 tabOk ext7Ok mixed (p7_2 x0) ⟨b0, s0, s1, b1, b2, trivial⟩
      · try simp only [if_neg b2] at h ⊢
        replace b2 := Bool.eq_false_iff.2 b2
        exact AtV.fin Tryd.func7 tabOk ext7Ok mixed (p7_3 x0) ⟨b0, s0, s1, b1, b2, trivial⟩

def S7 : Am.Spec := { sig := sig7, pre := fun ⟨x0, _⟩ => P7 x0, res := fun ⟨x0, _⟩ => [⟨Ty.bool, g7_0 x0⟩] }
theorem con7 : Contract Tryd.prog 7 S7 := contract_of Tryd.func7 hb7 (Nat.le_of_ble_eq_true (by kernel_rfl)) (fun ⟨x0, _⟩ h _ w0 O q => at7 x0 h w0 O q)


end Go.Proofs.YtakodkjcmacofaaDoor

/- A law that says how functions of the program and of the specification hang together. -/
set_option linter.unusedVariables false
set_option linter.unusedSimpArgs false
set_option maxRecDepth 100000
namespace Go.Proofs.YtakodkjcmacofaaDoor
open Go Go.Am Go.Proofs

/-- A digit. -/
def isD (b : UInt8) : Prop := 48 ≤ b.toNat ∧ b.toNat ≤ 57
/-- The value of digits. -/
def dval : List UInt8 → Nat → Nat
  | [], n => n
  | b :: r, n => dval r (10 * n + (b.toNat - 48))
theorem dval_append : ∀ (l : List UInt8) (b : UInt8) (n : Nat), dval (l ++ [b]) n = 10 * dval l n + (b.toNat - 48)
  | [], _, _ => rfl
  | c :: r, b, n => dval_append r b _
theorem dval_pos : ∀ (l : List UInt8) (n : Nat), 1 ≤ n → 1 ≤ dval l n
  | [], _, h => h
  | b :: r, n, h => dval_pos r _ (by omega)

theorem dsign_nat {a : Nat} (h : a < 10) : (UInt8.ofNat (48 + a)).toNat = 48 + a := by rw [UInt8.toNat_ofNat']; omega

theorem dec_facts (n : Nat) : (∀ b ∈ Lib.decDigits n, isD b) ∧ dval (Lib.decDigits n) 0 = n ∧ 0 < (Lib.decDigits n).length ∧ (1 ≤ n → ((Lib.decDigits n).getD 0 0).toNat ≠ 48) := by
  induction n using Nat.strongRecOn with
  | _ n ih =>
    by_cases h : n < 10
    · rw [Lib.decDigits, dif_pos h]
      have e := dsign_nat h
      refine ⟨fun b hb => ?_, ?_, by simp, fun h1 => ?_⟩
      · rw [List.mem_singleton.1 hb]; unfold isD; omega
      · show 10 * 0 + ((UInt8.ofNat (48 + n)).toNat - 48) = n; omega
      · show (UInt8.ofNat (48 + n)).toNat ≠ 48; omega
    · rw [Lib.decDigits, dif_neg h]
      obtain ⟨i1, i2, i3, i4⟩ := ih (n / 10) (by omega)
      have e := dsign_nat (a := n % 10) (by omega)
      refine ⟨fun b hb => ?_, ?_, by simp, fun h1 => ?_⟩
      · rcases List.mem_append.1 hb with hb | hb
        · exact i1 b hb
        · rw [List.mem_singleton.1 hb]; unfold isD; omega
      · rw [dval_append, i2, e]; omega
      · have i4 := i4 (by omega)
        cases hd : Lib.decDigits (n / 10) with
        | nil => rw [hd] at i3; simp at i3
        | cons c r => rw [hd] at i4; exact i4

theorem dec_canon (n : Nat) : ∀ l : List UInt8, l.length = n → (∀ b ∈ l, isD b) → 0 < l.length → ((l.getD 0 0).toNat ≠ 48 ∨ l.length = 1) → Lib.decDigits (dval l 0) = l := by
  induction n with
  | zero => intro l hl _ h0 _; omega
  | succ n ih =>
    intro l hl hd h0 hc
    rcases List.eq_nil_or_concat l with rfl | ⟨l', b, rfl⟩
    · simp at h0
    · rw [List.concat_eq_append] at *
      have hb : isD b := hd b (by simp)
      unfold isD at hb
      rw [dval_append]
      cases l' with
      | nil =>
        rw [Lib.decDigits, dif_pos (by show 10 * 0 + (b.toNat - 48) < 10; omega)]
        show [UInt8.ofNat (48 + (10 * 0 + (b.toNat - 48)))] = [b]
        congr 1
        rw [← UInt8.toNat_inj, UInt8.toNat_ofNat']; omega
      | cons c r =>
        have hc' : c.toNat ≠ 48 := by
          rcases hc with hc | hc
          · exact hc
          · simp at hc
        have hcd : isD c := hd c (by simp)
        unfold isD at hcd
        have hp : 1 ≤ dval (c :: r) 0 := dval_pos r _ (by omega)
        have hi := ih (c :: r) (by simp at hl ⊢; omega) (fun x hx => hd x (List.mem_append_left _ hx)) (by simp) (.inl hc')
        rw [Lib.decDigits, dif_neg (by omega), show (10 * dval (c :: r) 0 + (b.toNat - 48)) / 10 = dval (c :: r) 0 by omega, hi, show (10 * dval (c :: r) 0 + (b.toNat - 48)) % 10 = b.toNat - 48 by omega]
        congr 2
        rw [← UInt8.toNat_inj, UInt8.toNat_ofNat']; omega

theorem dec_len : ∀ (k n : Nat), n < 10 ^ (k + 1) → (Lib.decDigits n).length ≤ k + 1
  | 0, n, h => by rw [Lib.decDigits, dif_pos (by simpa using h)]; simp
  | k + 1, n, h => by
    rw [Lib.decDigits]
    split
    · simp
    · have := dec_len k (n / 10) (by rw [Nat.pow_succ] at h; omega)
      simp; omega

theorem number_dec {n : Nat} (h : n < 1000000000000) : g65_0 ⟨⟨Lib.decDigits n⟩⟩ = (n : Int) := by
  have key : ∀ (l : List UInt8) (m : Nat), (∀ b ∈ l, isD b) → num65 l (m : Int) = (dval l m : Nat) := by
    intro l
    induction l with
    | nil => intro m _; rfl
    | cons b r ih =>
      intro m hd
      have hb : isD b := hd b (List.mem_cons_self ..)
      unfold isD at hb
      unfold num65
      rw [if_pos (by simpa using hb)]
      have e1 : 10 * (m : Int) + ((b.toNat : Int) - 48) = ((10 * m + (b.toNat - 48) : Nat) : Int) := by omega
      rw [e1]
      exact ih _ (fun c hc => hd c (List.mem_cons_of_mem _ hc))
  obtain ⟨d1, d2, d3, _⟩ := dec_facts n
  have hl := dec_len 11 n (by omega)
  have hs : (ByteArray.mk ⟨Lib.decDigits n⟩).size = (Lib.decDigits n).length := rfl
  unfold g65_0
  rw [if_neg (by omega)]
  have := key (Lib.decDigits n) 0 d1
  rw [d2] at this
  exact this

end Go.Proofs.YtakodkjcmacofaaDoor

/- A law that says how functions of the program and of the specification hang together. -/
set_option linter.unusedVariables false
set_option linter.unusedSimpArgs false
set_option maxRecDepth 100000
namespace Go.Proofs.YtakodkjcmacofaaDoor
open Go Go.Am Go.Proofs

/-- The last d digits of a number, zeros ahead. -/
def pz : Nat → Nat → List UInt8
  | 0, _ => []
  | d + 1, n => pz d (n / 10) ++ [UInt8.ofNat (48 + n % 10)]

theorem pz_len : ∀ d n, (pz d n).length = d
  | 0, _ => rfl
  | d + 1, n => by rw [pz, List.length_append, pz_len d]; rfl

theorem pz_zero : ∀ d, pz d 0 = List.replicate d 48
  | 0 => rfl
  | d + 1 => by
    rw [pz, Nat.zero_div, pz_zero d, List.replicate_succ']
    rfl

/-- One ahead of the digits. -/
theorem dec_ahead : ∀ (d n : Nat), n < 10 ^ d → Lib.decDigits (n + 10 ^ d) = 49 :: pz d n
  | 0, n, h => by
    obtain rfl : n = 0 := by simpa using h
    rw [Lib.decDigits, dif_pos (by decide)]
    rfl
  | d + 1, n, h => by
    have hp : 1 ≤ 10 ^ d := Nat.one_le_pow _ _ (by decide)
    rw [Nat.pow_succ] at h ⊢
    have ih := dec_ahead d (n / 10) (by omega)
    rw [Lib.decDigits, dif_neg (by omega), show (n + 10 ^ d * 10) / 10 = n / 10 + 10 ^ d by omega, show (n + 10 ^ d * 10) % 10 = n % 10 by omega, ih, pz]
    rfl

theorem dec_zeros : ∀ (d n : Nat), 1 ≤ d → n < 10 ^ d → List.replicate (d - (Lib.decDigits n).length) 48 ++ Lib.decDigits n = pz d n
  | 0, _, h, _ => by omega
  | d + 1, n, _, h => by
    rw [pz]
    by_cases hs : n < 10
    · rw [Lib.decDigits, dif_pos hs, show n / 10 = 0 by omega, show n % 10 = n by omega, pz_zero]
      rfl
    · rw [Nat.pow_succ] at h
      have hd : 1 ≤ d := by
        rcases Nat.eq_zero_or_pos d with rfl | hd
        · simp at h; omega
        · exact hd
      have ih := dec_zeros d (n / 10) hd (by omega)
      rw [Lib.decDigits, dif_neg hs, List.length_append, List.length_singleton, Nat.add_sub_add_right, ← List.append_assoc, ih]

/-- The number of digits with zeros ahead. -/
theorem pz_all : ∀ (d n : Nat), ∀ b ∈ pz d n, isD b
  | 0, _, b, hb => by cases hb
  | d + 1, n, b, hb => by
    rw [pz] at hb
    rcases List.mem_append.1 hb with hb | hb
    · exact pz_all d _ b hb
    · rw [List.mem_singleton.1 hb]
      have := dsign_nat (a := n % 10) (by omega)
      unfold isD
      omega

theorem pz_val : ∀ (d n : Nat), n < 10 ^ d → ∀ m, dval (pz d n) m = m * 10 ^ d + n
  | 0, n, h, m => by
    obtain rfl : n = 0 := by simpa using h
    show m = _
    simp
  | d + 1, n, h, m => by
    rw [pz, dval_append, Nat.pow_succ] at *
    rw [pz_val d (n / 10) (by omega), dsign_nat (by omega), Nat.mul_add, ← Nat.mul_assoc]
    rw [show 10 * m * 10 ^ d = m * (10 ^ d * 10) by rw [Nat.mul_comm 10 m, Nat.mul_assoc, Nat.mul_comm 10]]
    omega

/-- Digits are their value with zeros ahead. -/
theorem pz_of (d : Nat) : ∀ l : List UInt8, l.length = d → (∀ b ∈ l, isD b) → pz d (dval l 0) = l ∧ dval l 0 < 10 ^ d := by
  induction d with
  | zero => intro l hl _; rw [List.length_eq_zero_iff] at hl; subst hl; exact ⟨rfl, by decide⟩
  | succ d ih =>
    intro l hl hd
    rcases List.eq_nil_or_concat l with rfl | ⟨l', b, rfl⟩
    · cases hl
    · rw [List.concat_eq_append] at *
      have hb : isD b := hd b (by simp)
      unfold isD at hb
      obtain ⟨i1, i2⟩ := ih l' (by simpa using hl) (fun x hx => hd x (List.mem_append_left _ hx))
      rw [dval_append, pz, Nat.pow_succ, show (10 * dval l' 0 + (b.toNat - 48)) / 10 = dval l' 0 by omega, i1, show (10 * dval l' 0 + (b.toNat - 48)) % 10 = b.toNat - 48 by omega]
      refine ⟨?_, by omega⟩
      congr 2
      rw [← UInt8.toNat_inj, UInt8.toNat_ofNat']; omega

end Go.Proofs.YtakodkjcmacofaaDoor

/- A law that says how functions of the program and of the specification hang together. -/
set_option linter.unusedVariables false
set_option linter.unusedSimpArgs false
set_option maxRecDepth 100000
namespace Go.Proofs.YtakodkjcmacofaaDoor
open Go Go.Am Go.Proofs

/-- The text of a number with d places. -/
def fixT (neg : Bool) (A d : Nat) : ByteArray := ⟨⟨(if neg then [45] else []) ++ Lib.decDigits (A / 10 ^ d) ++ 46 :: pz d (A % 10 ^ d)⟩⟩

theorem pad_pz {k d : Nat} (h : k < 10 ^ d) (h1 : 1 ≤ d) : g103_0 (k : Int) (d : Int) = ⟨⟨pz d k⟩⟩ := by
  unfold g103_0
  have e : g94_0 (k : Int) = ⟨⟨Lib.decDigits k⟩⟩ := by
    show numB _ = _
    unfold numB Lib.itoa
    rw [if_neg (by omega), Int.toNat_natCast]
  have hs : (ByteArray.mk ⟨Lib.decDigits k⟩).size = (Lib.decDigits k).length := rfl
  rw [e, hs, ← dec_zeros d k h1 h]
  have hc : (if 0 < (d : Int) - ((Lib.decDigits k).length : Int) then (d : Int) - ((Lib.decDigits k).length : Int) else 0) = ((d - (Lib.decDigits k).length : Nat) : Int) := by
    split <;> omega
  rw [hc]
  apply ByteArray.ext
  apply Array.ext'
  have hr : Lib.repeatL (List.replicate 1 48) (d - (Lib.decDigits k).length) = List.replicate (d - (Lib.decDigits k).length) (48 : UInt8) := by
    rw [Lib.repeatL_replicate, Nat.mul_one]
  unfold g143_0
  rw [Int.toNat_natCast, ByteArray.data_append, Array.toList_append]
  show Lib.repeatL [48] _ ++ Lib.decDigits k = _
  have h48 : ([48] : List UInt8) = List.replicate 1 48 := rfl
  rw [h48, hr]

theorem fix_i {n : Int} {d : Nat} (hn : -1000000000 ≤ n ∧ n ≤ 1000000000) (h1 : 1 ≤ d) (h6 : d ≤ 6) : g40_0 n (d : Int) = fixT (decide (n < 0)) n.natAbs d := by
  have dk : ∀ k : Nat, g94_0 (k : Int) = ⟨⟨Lib.decDigits k⟩⟩ := fun k => by
    show numB _ = _
    unfold numB Lib.itoa
    rw [if_neg (by omega), Int.toNat_natCast]
  have hd := dk (n.natAbs / 10 ^ d)
  have hp : n.natAbs % 10 ^ d < 10 ^ d := Nat.mod_lt _ (Nat.pos_of_ne_zero (by have := Nat.one_le_pow d 10 (by decide); omega))
  have w0 : g102_0 n (-1000000000) 1000000000 = true := by
    unfold g102_0
    rw [if_pos (by simp only [decide_eq_true_eq]; omega)]
    simp only [decide_eq_true_eq]; omega
  have w1 : g102_0 (d : Int) 1 6 = true := by
    unfold g102_0
    rw [if_pos (by simp only [decide_eq_true_eq]; omega)]
    simp only [decide_eq_true_eq]; omega
  unfold g40_0 u40
  rw [w0, w1, Int.toNat_natCast, hd, pad_pz hp h1]
  simp only [Bool.not_true, Bool.false_eq_true, if_false]
  unfold fixT
  apply ByteArray.ext
  apply Array.ext'
  by_cases hx : n < 0 <;> simp [hx, ByteArray.data_append]

theorem fix_s {n : Int} {d : Nat} (hn : -1000000000 ≤ n ∧ n ≤ 1000000000) (h1 : 1 ≤ d) (h6 : d ≤ 6) : g82_0 n (d : Int) = fixT (decide (n < 0)) n.natAbs d := by
  have hten : g80_0 (d : Int) = ((10 ^ d : Nat) : Int) := by unfold g80_0; rw [Int.toNat_natCast]
  have hp0 : 1 ≤ 10 ^ d := Nat.one_le_pow _ _ (by decide)
  have key : ∀ A : Nat, g129_0 (Int.tdiv (A : Int) ((10 ^ d : Nat) : Int)) = ⟨⟨Lib.decDigits (A / 10 ^ d)⟩⟩ ∧ ByteArray.extract (g129_0 (Int.tmod (A : Int) ((10 ^ d : Nat) : Int) + ((10 ^ d : Nat) : Int))) 1 (Int.toNat (((g129_0 (Int.tmod (A : Int) ((10 ^ d : Nat) : Int) + ((10 ^ d : Nat) : Int))).size : Nat) : Int)) = ⟨⟨pz d (A % 10 ^ d)⟩⟩ := by
    intro A
    have t1 : Int.tdiv (A : Int) ((10 ^ d : Nat) : Int) = ((A / 10 ^ d : Nat) : Int) := rfl
    have t2 : Int.tmod (A : Int) ((10 ^ d : Nat) : Int) + ((10 ^ d : Nat) : Int) = ((A % 10 ^ d + 10 ^ d : Nat) : Int) := by rw [Int.natCast_add]; rfl
    have dk : ∀ k : Nat, g129_0 (k : Int) = ⟨⟨Lib.decDigits k⟩⟩ := fun k => by
      show numB _ = _
      unfold numB Lib.itoa
      rw [if_neg (by omega), Int.toNat_natCast]
    rw [t1, t2, dk, dk, Int.toNat_natCast, dec_ahead d _ (Nat.mod_lt _ hp0)]
    refine ⟨rfl, ?_⟩
    have hx := Lib.extract_mk (49 :: pz d (A % 10 ^ d)) 1 (49 :: pz d (A % 10 ^ d)).length
    rw [List.take_of_length_le (by rw [List.length_drop]; exact Nat.le_refl _)] at hx
    exact hx
  unfold g82_0 fixT
  rw [hten]
  by_cases hx : n < 0
  · have e : 0 - n = ((n.natAbs : Nat) : Int) := by omega
    obtain ⟨k1, k2⟩ := key n.natAbs
    rw [e, k1, k2]
    simp only [hx, decide_true, if_true]
    apply ByteArray.ext
    apply Array.ext'
    simp [ByteArray.data_append]
  · have e : n = ((n.natAbs : Nat) : Int) := by omega
    obtain ⟨k1, k2⟩ := key n.natAbs
    rw [← e] at k1 k2
    rw [k1, k2]
    simp only [hx, decide_false, Bool.false_eq_true, if_false]
    apply ByteArray.ext
    apply Array.ext'
    simp [ByteArray.data_append]

end Go.Proofs.YtakodkjcmacofaaDoor

/- A law that says how functions of the program and of the specification hang together. -/
set_option linter.unusedVariables false
set_option linter.unusedSimpArgs false
set_option maxRecDepth 100000
namespace Go.Proofs.YtakodkjcmacofaaDoor
open Go Go.Am Go.Proofs

/-- The sign of a digit. -/
def D10 (a : Nat) : UInt8 := UInt8.ofNat (48 + a)
theorem D10_nat {a : Nat} (h : a < 10) : (D10 a).toNat = 48 + a := by unfold D10; rw [UInt8.toNat_ofNat']; omega
theorem D10_of {b : UInt8} (h : 48 ≤ b.toNat ∧ b.toNat ≤ 57) : b = D10 (b.toNat - 48) := by
  rw [← UInt8.toNat_inj, D10_nat (by omega)]; omega
theorem D10_inj {a b : Nat} (ha : a < 10) (hb : b < 10) (h : D10 a = D10 b) : a = b := by
  have := congrArg UInt8.toNat h
  rw [D10_nat ha, D10_nat hb] at this
  omega

theorem num_one {n : Nat} (h : n < 10) : numB (n : Int) = ⟨⟨[D10 n]⟩⟩ := by
  unfold numB Lib.itoa
  rw [if_neg (by omega), Int.toNat_natCast, Lib.decDigits_one h]
  rfl
theorem num_two {n : Nat} (h1 : 10 ≤ n) (h : n < 100) : numB (n : Int) = ⟨⟨[D10 (n / 10), D10 (n % 10)]⟩⟩ := by
  unfold numB Lib.itoa
  rw [if_neg (by omega), Int.toNat_natCast, Lib.decDigits_two (by omega) h]
  rfl

theorem pad_two {n : Nat} (h : n < 100) : P103 (n : Int) 2 ∧ g103_0 (n : Int) 2 = ⟨⟨[D10 (n / 10), D10 (n % 10)]⟩⟩ := by
  unfold P103 g103_0
  have e : g94_0 (n : Int) = numB (n : Int) := rfl
  rw [e]
  by_cases h1 : n < 10
  · rw [num_one h1]
    have e0 : n / 10 = 0 := by omega
    have e1 : n % 10 = n := by omega
    rw [e0, e1]
    have e2 : (ByteArray.mk (Array.mk [D10 n])).size = 1 := rfl
    rw [e2]
    exact ⟨⟨⟨rfl, trivial⟩, by rw [i64_iff]; decide, ⟨by decide, by decide⟩, by show 1 + 1 ≤ _; decide, trivial⟩, rfl⟩
  · rw [num_two (by omega) h]
    have e2 : (ByteArray.mk (Array.mk [D10 (n / 10), D10 (n % 10)])).size = 2 := rfl
    rw [e2]
    exact ⟨⟨⟨rfl, trivial⟩, by rw [i64_iff]; decide, ⟨by decide, by decide⟩, by show 0 + 2 ≤ _; decide, trivial⟩, rfl⟩

theorem num_bound : ∀ (l : List UInt8) (m i : Nat), m < 10 ^ i → i + l.length ≤ 12 → -1 ≤ num65 l (m : Int) ∧ num65 l (m : Int) < 1000000000000
  | [], m, i, h, hi => by
    have hp : 10 ^ i ≤ 10 ^ 12 := Nat.pow_le_pow_right (by decide) (by simp at hi; omega)
    have : m < 1000000000000 := Nat.lt_of_lt_of_le h hp
    show -1 ≤ (m : Int) ∧ (m : Int) < 1000000000000
    omega
  | b :: r, m, i, h, hi => by
    unfold num65
    split
    · rename_i hd
      have hd' : 48 ≤ b.toNat ∧ b.toNat ≤ 57 := by simpa using hd
      have e1 : 10 * (m : Int) + ((b.toNat : Int) - 48) = ((10 * m + (b.toNat - 48) : Nat) : Int) := by omega
      rw [e1]
      exact num_bound r _ (i + 1) (by rw [Nat.pow_succ]; omega) (by simp at hi; omega)
    · omega

theorem number_bound (x : ByteArray) : -1 ≤ g65_0 x ∧ g65_0 x < 1000000000000 := by
  unfold g65_0
  split
  · omega
  · rename_i h
    have : x.data.toList.length = x.size := rfl
    exact num_bound x.data.toList 0 0 (by decide) (by omega)

theorem number_two {a b : Nat} (ha : a < 10) (hb : b < 10) : g65_0 ⟨⟨[D10 a, D10 b]⟩⟩ = ((10 * a + b : Nat) : Int) := by
  unfold g65_0
  rw [if_neg (by show ¬ (2 < 1 ∨ 12 < 2); omega)]
  show num65 [D10 a, D10 b] 0 = _
  simp only [num65, D10_nat ha, D10_nat hb, decide_eq_true_eq, Bool.and_eq_true]
  rw [if_pos (by omega), if_pos (by omega)]
  omega


end Go.Proofs.YtakodkjcmacofaaDoor

/- A law that says how functions of the program and of the specification hang together. -/
set_option linter.unusedVariables false
set_option linter.unusedSimpArgs false
set_option maxRecDepth 100000
namespace Go.Proofs.YtakodkjcmacofaaDoor
open Go Go.Am Go.Proofs

theorem dval_app : ∀ (l r : List UInt8) (n : Nat), dval (l ++ r) n = dval r (dval l n)
  | [], _, _ => rfl
  | _ :: l, r, _ => dval_app l r _

theorem number_of {l : List UInt8} (hd : ∀ b ∈ l, isD b) (h1 : 1 ≤ l.length) (h2 : l.length ≤ 12) : g65_0 ⟨⟨l⟩⟩ = ((dval l 0 : Nat) : Int) := by
  have key : ∀ (l : List UInt8) (m : Nat), (∀ b ∈ l, isD b) → num65 l (m : Int) = (dval l m : Nat) := by
    intro l
    induction l with
    | nil => intro m _; rfl
    | cons b r ih =>
      intro m hd
      have hb : isD b := hd b (List.mem_cons_self ..)
      unfold isD at hb
      unfold num65
      rw [if_pos (by simpa using hb)]
      have e1 : 10 * (m : Int) + ((b.toNat : Int) - 48) = ((10 * m + (b.toNat - 48) : Nat) : Int) := by omega
      rw [e1]
      exact ih _ (fun c hc => hd c (List.mem_cons_of_mem _ hc))
  have hs : (ByteArray.mk ⟨l⟩).size = l.length := rfl
  unfold g65_0
  rw [if_neg (by omega)]
  exact key l 0 hd

theorem number_fix {A d : Nat} (hA : A ≤ 1000000000) (h1 : 1 ≤ d) (h6 : d ≤ 6) : g65_0 ⟨⟨Lib.decDigits (A / 10 ^ d) ++ pz d (A % 10 ^ d)⟩⟩ = (A : Int) := by
  have hp : 1 ≤ 10 ^ d := Nat.one_le_pow _ _ (by decide)
  obtain ⟨d1, d2, d3, _⟩ := dec_facts (A / 10 ^ d)
  have hq : A / 10 ^ d < 10 ^ (9 - d + 1) := by
    rw [Nat.div_lt_iff_lt_mul hp, ← Nat.pow_add, show 9 - d + 1 + d = 10 by omega]
    exact Nat.lt_of_le_of_lt hA (by decide)
  have hl := dec_len (9 - d) _ hq
  have hlen : (Lib.decDigits (A / 10 ^ d) ++ pz d (A % 10 ^ d)).length = (Lib.decDigits (A / 10 ^ d)).length + d := by rw [List.length_append, pz_len]
  rw [number_of (fun b hb => by
    rcases List.mem_append.1 hb with hb | hb
    · exact d1 b hb
    · exact pz_all _ _ b hb) (by omega) (by omega), dval_app, d2, pz_val _ _ (Nat.mod_lt _ hp)]
  have := Nat.div_add_mod A (10 ^ d)
  rw [Nat.mul_comm] at this
  rw [this]

theorem fix_cut (A d : Nat) : g64_0 (fixT false A d) (ByteArray.mk #[46]) = ⟨⟨Lib.decDigits (A / 10 ^ d)⟩⟩ ∧ g64_1 (fixT false A d) (ByteArray.mk #[46]) = ⟨⟨pz d (A % 10 ^ d)⟩⟩ := by
  have hn : (46 : UInt8) ∉ Lib.decDigits (A / 10 ^ d) := fun hm => by
    have := (dec_facts (A / 10 ^ d)).1 _ hm
    unfold isD at this
    have e46 : (46 : UInt8).toNat = 46 := rfl
    omega
  have hc : Lib.cut (fixT false A d).data.toList (ByteArray.mk #[46]).data.toList = (Lib.decDigits (A / 10 ^ d), pz d (A % 10 ^ d), true) := by
    have e : (fixT false A d).data.toList = Lib.decDigits (A / 10 ^ d) ++ 46 :: pz d (A % 10 ^ d) := by simp [fixT]
    rw [e]
    exact cut_hit 46 _ hn
  unfold g64_0 g64_1
  rw [hc]
  exact ⟨rfl, rfl⟩

theorem fix_minus (A d : Nat) : g84_0 (fixT true A d) (ByteArray.mk #[45]) = true ∧ g83_0 (fixT true A d) (ByteArray.mk #[45]) = fixT false A d := by
  have e : (fixT true A d).data.toList = 45 :: (Lib.decDigits (A / 10 ^ d) ++ 46 :: pz d (A % 10 ^ d)) := by simp [fixT]
  unfold g84_0 g83_0 Lib.trimPrefix Lib.hasPrefix
  rw [e]
  have z : (ByteArray.mk #[45]).data.toList = [45] := rfl
  rw [z]
  exact ⟨by simp [List.isPrefixOf], by simp [List.isPrefixOf, fixT]⟩

theorem fix_plus (A d : Nat) : g84_0 (fixT false A d) (ByteArray.mk #[45]) = false ∧ g83_0 (fixT false A d) (ByteArray.mk #[45]) = fixT false A d := by
  have e : (fixT false A d).data.toList = Lib.decDigits (A / 10 ^ d) ++ 46 :: pz d (A % 10 ^ d) := by simp [fixT]
  obtain ⟨d1, _, d3, _⟩ := dec_facts (A / 10 ^ d)
  have hp : Lib.hasPrefix (fixT false A d).data.toList (ByteArray.mk #[45]).data.toList = false := by
    rw [e]
    cases hd : Lib.decDigits (A / 10 ^ d) with
    | nil => rw [hd] at d3; simp at d3
    | cons b r =>
      have hb := d1 b (by rw [hd]; exact List.mem_cons_self ..)
      unfold isD at hb
      have hne : ((45 : UInt8) == b) = false := by
        rw [beq_eq_false_iff_ne]
        intro e
        have := congrArg UInt8.toNat e
        have e45 : (45 : UInt8).toNat = 45 := rfl
        omega
      show List.isPrefixOf [45] (b :: _) = false
      simp [List.isPrefixOf, hne]
  unfold g84_0 g83_0 Lib.trimPrefix
  rw [hp]
  exact ⟨rfl, rfl⟩

end Go.Proofs.YtakodkjcmacofaaDoor

/- A law that says how functions of the program and of the specification hang together. -/
set_option linter.unusedVariables false
set_option linter.unusedSimpArgs false
set_option maxRecDepth 100000
namespace Go.Proofs.YtakodkjcmacofaaDoor
open Go Go.Am Go.Proofs

theorem fixT_ne (s : Bool) (A d : Nat) : fixT s A d ≠ ByteArray.mk #[] := fun hh => by
  have := congrArg ByteArray.size hh
  have e : (fixT s A d).size = ((if s then [45] else []) ++ Lib.decDigits (A / 10 ^ d) ++ 46 :: pz d (A % 10 ^ d)).length := rfl
  rw [e] at this
  simp at this
  have z : (ByteArray.mk #[]).size = 0 := rfl
  omega

theorem fixed_i1 {n : Int} {d : Nat} (hn : -1000000000 ≤ n ∧ n ≤ 1000000000) (h1 : 1 ≤ d) (h6 : d ≤ 6) : g27_0 (fixT (decide (n < 0)) n.natAbs d) (d : Int) = n ∧ g27_1 (fixT (decide (n < 0)) n.natAbs d) (d : Int) = true := by
  have hA : n.natAbs ≤ 1000000000 := by omega
  obtain ⟨c1, c2⟩ := fix_cut n.natAbs d
  have hnum := number_fix hA h1 h6
  have hj : (ByteArray.mk ⟨Lib.decDigits (n.natAbs / 10 ^ d)⟩) ++ (ByteArray.mk ⟨pz d (n.natAbs % 10 ^ d)⟩) = ⟨⟨Lib.decDigits (n.natAbs / 10 ^ d) ++ pz d (n.natAbs % 10 ^ d)⟩⟩ := by
    apply ByteArray.ext
    apply Array.ext'
    simp [ByteArray.data_append]
  have ht := fix_i hn h1 h6
  unfold g27_0 g27_1
  by_cases hx : n < 0
  · have ne := fixT_ne true n.natAbs d
    obtain ⟨m1, m2⟩ := fix_minus n.natAbs d
    simp only [hx, decide_true] at ht ⊢
    rw [m1, m2, c1, c2, hj, hnum, show (0 : Int) - (n.natAbs : Int) = n by omega, ht]
    have ne' : ¬ (ByteArray.toList (fixT true n.natAbs d) == ByteArray.toList (ByteArray.mk #[])) = true := by rw [bytes_eq]; exact ne
    rw [if_pos rfl, if_pos rfl, if_neg ne', if_neg ne']
    simp
  · have ne := fixT_ne false n.natAbs d
    obtain ⟨m1, m2⟩ := fix_plus n.natAbs d
    simp only [hx, decide_false] at ht ⊢
    rw [m1, m2, c1, c2, hj, hnum, show (n.natAbs : Int) = n by omega, ht]
    have ne' : ¬ (ByteArray.toList (fixT false n.natAbs d) == ByteArray.toList (ByteArray.mk #[])) = true := by rw [bytes_eq]; exact ne
    simp only [Bool.false_eq_true, if_false]
    rw [if_neg ne', if_neg ne']
    simp

theorem text_of_fix {n p : Int} {x : ByteArray} (h : g40_0 n p = x) (h0 : x ≠ ByteArray.mk #[]) : ∃ (m : Int) (d : Nat), p = (d : Int) ∧ 1 ≤ d ∧ d ≤ 6 ∧ (-1000000000 ≤ m ∧ m ≤ 1000000000) ∧ x = fixT (decide (m < 0)) m.natAbs d := by
  by_cases c0 : (!g102_0 n (-1000000000) 1000000000) = true
  · exfalso; apply h0; rw [← h]; unfold g40_0; rw [if_pos c0]
  · by_cases c1 : (!g102_0 p 1 6) = true
    · exfalso; apply h0; rw [← h]; unfold g40_0; rw [if_neg c0, if_pos c1]
    · have w0 := win40 c0
      have w1 := win40 c1
      obtain ⟨d, rfl⟩ : ∃ d : Nat, p = (d : Int) := Int.eq_ofNat_of_zero_le (by omega)
      exact ⟨n, d, rfl, by omega, by omega, w0, by rw [← h, fix_i w0 (by omega) (by omega)]⟩

theorem fixed_i2 {x : ByteArray} {p : Int} (hx : g27_1 x p = true) : ∃ (m : Int) (d : Nat), p = (d : Int) ∧ 1 ≤ d ∧ d ≤ 6 ∧ (-1000000000 ≤ m ∧ m ≤ 1000000000) ∧ x = fixT (decide (m < 0)) m.natAbs d := by
  unfold g27_1 at hx
  split at hx
  · split at hx
    · cases hx
    · rename_i h0
      rw [bytes_eq] at h0
      split at hx
      · cases hx
      · rename_i h1
        exact text_of_fix ((bytes_eq _ _).1 (by simpa using h1)) h0
  · split at hx
    · cases hx
    · rename_i h0
      rw [bytes_eq] at h0
      split at hx
      · cases hx
      · rename_i h1
        exact text_of_fix ((bytes_eq _ _).1 (by simpa using h1)) h0

theorem fixed_i3 {x : ByteArray} {p : Int} (hx : g27_1 x p = false) : g27_0 x p = 0 := by
  unfold g27_1 at hx
  unfold g27_0
  split at hx
  · rename_i hs
    rw [if_pos hs]
    split at hx
    · rename_i h; rw [if_pos h]
    · rename_i h
      rw [if_neg h]
      split at hx
      · rename_i h; rw [if_pos h]
      · cases hx
  · rename_i hs
    rw [if_neg hs]
    split at hx
    · rename_i h; rw [if_pos h]
    · rename_i h
      rw [if_neg h]
      split at hx
      · rename_i h; rw [if_pos h]
      · cases hx

end Go.Proofs.YtakodkjcmacofaaDoor

/- A law that says how functions of the program and of the specification hang together. -/
set_option linter.unusedVariables false
set_option linter.unusedSimpArgs false
set_option maxRecDepth 100000
namespace Go.Proofs.YtakodkjcmacofaaDoor
open Go Go.Am Go.Proofs

theorem chainI {c : Prop} [Decidable c] {B : Bool} {A : Int} (h : B = false → A = 0) (hx : (if c then false else B) = false) : (if c then 0 else A) = 0 := by
  split at hx
  · rename_i hc; rw [if_pos hc]
  · rename_i hc; rw [if_neg hc]; exact h hx
theorem chainB {c : Prop} [Decidable c] {B B' : Bool} {A A' : Int} (h : B = false → A = 0) (h' : B' = false → A' = 0) (hx : (if c then B else B') = false) : (if c then A else A') = 0 := by
  split at hx
  · rename_i hc; rw [if_pos hc]; exact h hx
  · rename_i hc; rw [if_neg hc]; exact h' hx
theorem chainT {c : Prop} [Decidable c] {B : Bool} {Q : Prop} (h : ¬ c → B = true → Q) (hx : (if c then false else B) = true) : Q := by
  split at hx
  · cases hx
  · rename_i hc; exact h hc hx
theorem chainU {c : Prop} [Decidable c] {B B' : Bool} {Q : Prop} (h : B = true → Q) (h' : B' = true → Q) (hx : (if c then B else B') = true) : Q := by
  split at hx
  · exact h hx
  · exact h' hx

theorem tf {A : Int} (h : true = false) : A = 0 := by cases h

theorem fixed_s3 {x : ByteArray} {p : Int} (hx : g26_1 x p = false) : g26_0 x p = 0 :=
  (chainI (chainI (chainI (chainB (chainI (chainI (chainI (chainI (chainI (chainI (chainI tf))))))) (chainI (chainI (chainI (chainI (chainI (chainI (chainI tf))))))))))) hx

theorem in124 {x a b : Int} (h : ¬ (!g124_0 x a b) = true) : a ≤ x ∧ x ≤ b := by
  unfold g124_0 at h
  by_cases c1 : x ≥ a
  · by_cases c2 : x ≤ b
    · exact ⟨c1, c2⟩
    · simp [c1, c2] at h
  · simp [c1] at h

theorem fixed_s2 {x : ByteArray} {p : Int} (hx : g26_1 x p = true) : ∃ (m : Int) (d : Nat), p = (d : Int) ∧ 1 ≤ d ∧ d ≤ 6 ∧ (-1000000000 ≤ m ∧ m ≤ 1000000000) ∧ x = fixT (decide (m < 0)) m.natAbs d := by
  have fin : ∀ n : Int, ¬ (!g79_0 p) = true → ¬ (!g81_0 n) = true → ¬ (!ByteArray.toList (g82_0 n p) == ByteArray.toList x) = true → ∃ (m : Int) (d : Nat), p = (d : Int) ∧ 1 ≤ d ∧ d ≤ 6 ∧ (-1000000000 ≤ m ∧ m ≤ 1000000000) ∧ x = fixT (decide (m < 0)) m.natAbs d := fun n h1 h2 h3 => by
    have w1 : 1 ≤ p ∧ p ≤ 6 := in124 h1
    have w2 : -1000000000 ≤ n ∧ n ≤ 1000000000 := in124 h2
    obtain ⟨d, rfl⟩ : ∃ d : Nat, p = (d : Int) := Int.eq_ofNat_of_zero_le (by omega)
    have e : g82_0 n (d : Int) = x := (bytes_eq _ _).1 (by simpa using h3)
    exact ⟨n, d, rfl, by omega, by omega, w2, by rw [← e, fix_s w2 (by omega) (by omega)]⟩
  exact (chainT fun a => (chainT fun _ => (chainT fun _ => (chainU (chainT fun _ => (chainT fun _ => (chainT fun _ => (chainT fun _ => (chainT fun _ => (chainT fun b => (chainT fun c _ => fin _ a b c))))))) (chainT fun _ => (chainT fun _ => (chainT fun _ => (chainT fun _ => (chainT fun _ => (chainT fun b => (chainT fun c _ => fin _ a b c))))))))))) hx

end Go.Proofs.YtakodkjcmacofaaDoor

/- A law that says how functions of the program and of the specification hang together. -/
set_option linter.unusedVariables false
set_option linter.unusedSimpArgs false
set_option maxRecDepth 100000
namespace Go.Proofs.YtakodkjcmacofaaDoor
open Go Go.Am Go.Proofs

theorem fixed_ip {x : ByteArray} {p : Int} (h : x.size ≤ 1048576) : P27 x p := by
  unfold P27
  have ht : (g83_0 x (ByteArray.mk #[45])).size ≤ 1048576 := by
    show (List.toArray _).size ≤ _
    rw [List.size_toArray]
    have e : x.data.toList.length = x.size := rfl
    unfold Lib.trimPrefix
    split
    · rw [List.length_drop]; omega
    · omega
  generalize g83_0 x (ByteArray.mk #[45]) = t at *
  obtain ⟨l1, l2⟩ := cutLen64 t.data.toList (ByteArray.mk #[46]).data.toList
  have e : t.data.toList.length = t.size := rfl
  have a1 : (g64_0 t (ByteArray.mk #[46])).size = (Lib.cut t.data.toList (ByteArray.mk #[46]).data.toList).1.length := by
    show (List.toArray _).size = _
    rw [List.size_toArray]
  have a2 : (g64_1 t (ByteArray.mk #[46])).size = (Lib.cut t.data.toList (ByteArray.mk #[46]).data.toList).2.1.length := by
    show (List.toArray _).size = _
    rw [List.size_toArray]
  refine ⟨(show t.size < 4294967281 from by omega), by omega, ?_⟩
  split
  · have b := number_bound (g64_0 t (ByteArray.mk #[46]) ++ g64_1 t (ByteArray.mk #[46]))
    exact ⟨by rw [i64_iff]; omega, trivial⟩
  · trivial

end Go.Proofs.YtakodkjcmacofaaDoor

/- A law that says how functions of the program and of the specification hang together. -/
set_option linter.unusedVariables false
set_option linter.unusedSimpArgs false
set_option maxRecDepth 100000
namespace Go.Proofs.YtakodkjcmacofaaDoor
open Go Go.Am Go.Proofs

theorem digs_val : ∀ (l : List UInt8) (m : Nat), (∀ b ∈ l, isD b) → dig63 l (m : Int) = (((dval l m : Nat) : Int), true)
  | [], _, _ => rfl
  | b :: r, m, hd => by
    have hb : isD b := hd b (List.mem_cons_self ..)
    unfold isD at hb
    unfold dig63 d63
    rw [if_pos (by simpa using hb)]
    have e1 : 10 * (m : Int) + ((b.toNat : Int) - 48) = ((10 * m + (b.toNat - 48) : Nat) : Int) := by omega
    rw [e1]
    exact digs_val r _ (fun c hc => hd c (List.mem_cons_of_mem _ hc))

theorem digits_dec (n : Nat) : g63_0 ⟨⟨Lib.decDigits n⟩⟩ = (n : Int) ∧ g63_1 ⟨⟨Lib.decDigits n⟩⟩ = true := by
  obtain ⟨d1, d2, _, _⟩ := dec_facts n
  have h := digs_val (Lib.decDigits n) 0 d1
  rw [d2] at h
  exact ⟨congrArg Prod.fst h, congrArg Prod.snd h⟩

theorem digits_pz {d n : Nat} (hn : n < 10 ^ d) : g63_0 ⟨⟨pz d n⟩⟩ = (n : Int) ∧ g63_1 ⟨⟨pz d n⟩⟩ = true := by
  have h := digs_val (pz d n) 0 (pz_all d n)
  rw [pz_val d n hn, Nat.zero_mul, Nat.zero_add] at h
  exact ⟨congrArg Prod.fst h, congrArg Prod.snd h⟩

end Go.Proofs.YtakodkjcmacofaaDoor

/- A law that says how functions of the program and of the specification hang together. -/
set_option linter.unusedVariables false
set_option linter.unusedSimpArgs false
set_option maxRecDepth 100000
namespace Go.Proofs.YtakodkjcmacofaaDoor
open Go Go.Am Go.Proofs

theorem dig_bound : ∀ (l : List UInt8) (m k : Nat), m < 10 ^ k → ∃ v : Nat, (dig63 l (m : Int)).1 = (v : Int) ∧ v < 10 ^ (k + l.length)
  | [], m, k, h => ⟨m, rfl, h⟩
  | b :: r, m, k, h => by
    unfold dig63
    cases hd : d63 b with
    | false => exact ⟨0, rfl, Nat.pow_pos (by decide)⟩
    | true =>
      have hb : 48 ≤ b.toNat ∧ b.toNat ≤ 57 := by unfold d63 at hd; simpa using hd
      have e1 : 10 * (m : Int) + ((b.toNat : Int) - 48) = ((10 * m + (b.toNat - 48) : Nat) : Int) := by omega
      rw [if_pos rfl, e1, List.length_cons, show k + (r.length + 1) = (k + 1) + r.length by omega]
      exact dig_bound r _ (k + 1) (by rw [Nat.pow_succ]; omega)

theorem digits_bound (x : ByteArray) {k : Nat} (h : x.size ≤ k) : ∃ v : Nat, g63_0 x = (v : Int) ∧ v < 10 ^ k := by
  obtain ⟨v, h1, h2⟩ := dig_bound x.data.toList 0 0 (by decide)
  refine ⟨v, h1, Nat.lt_of_lt_of_le h2 (Nat.pow_le_pow_right (by decide) ?_)⟩
  have e : x.data.toList.length = x.size := rfl
  omega

theorem fix_spre {n : Int} {d : Nat} (hn : -1000000000 ≤ n ∧ n ≤ 1000000000) (h1 : 1 ≤ d) (h6 : d ≤ 6) : P82 n (d : Int) := by
  have hten : g80_0 (d : Int) = ((10 ^ d : Nat) : Int) := by unfold g80_0; rw [Int.toNat_natCast]
  have hp0 : 1 ≤ 10 ^ d := Nat.one_le_pow _ _ (by decide)
  have hp1 : 10 ^ d ≤ 10 ^ 6 := Nat.pow_le_pow_right (by decide) h6
  have hP : P80 (d : Int) := by unfold P80; omega
  have key : ∀ A : Nat, A ≤ 1000000000 → ∃ q r : Nat, Int.tdiv (A : Int) ((10 ^ d : Nat) : Int) = (q : Int) ∧ Int.tmod (A : Int) ((10 ^ d : Nat) : Int) = (r : Int) ∧ q ≤ 1000000000 ∧ r ≤ 1000000 := by
    intro A hA
    refine ⟨A / 10 ^ d, A % 10 ^ d, rfl, rfl, ?_, ?_⟩
    · exact Nat.le_trans (Nat.div_le_self _ _) hA
    · have := Nat.mod_lt A hp0; omega
  have sz : ∀ m : Int, 0 ≤ m → m ≤ 2000000000 → (g129_0 m).size ≤ 21 ∧ 1 ≤ (g129_0 m).size := by
    intro m h0 hm
    refine ⟨numB_size m (by omega) (by omega), ?_⟩
    obtain ⟨k, rfl⟩ := Int.eq_ofNat_of_zero_le h0
    have e : g129_0 (k : Int) = ⟨⟨Lib.decDigits k⟩⟩ := by
      show numB _ = _
      unfold numB Lib.itoa
      rw [if_neg (by omega), Int.toNat_natCast]
    have hl := (dec_facts k).2.2.1
    have es : (ByteArray.mk ⟨Lib.decDigits k⟩).size = (Lib.decDigits k).length := rfl
    rw [e, es]; omega
  unfold P82
  rw [hten]
  generalize hT : 10 ^ d = T at *
  have i45 : (ByteArray.mk #[45]).size = 1 := rfl
  have i46 : (ByteArray.mk #[46]).size = 1 := rfl
  have i0 : (ByteArray.mk #[]).size = 0 := rfl
  by_cases hx : n < 0
  · obtain ⟨q, r, e1, e2, hq, hr⟩ := key n.natAbs (by omega)
    have e : 0 - n = ((n.natAbs : Nat) : Int) := by omega
    obtain ⟨a1, a2⟩ := sz (q : Int) (by omega) (by omega)
    obtain ⟨b1, b2⟩ := sz ((r : Int) + (T : Int)) (by omega) (by omega)
    simp only [hx, decide_true, if_true]
    rw [e, e1, e2]
    simp only [ByteArray.size_append, ByteArray.size_extract, i45, i46]
    refine ⟨by rw [i64_iff]; omega, hP, ⟨by omega, by rw [i64_iff]; omega, by rw [i64_iff]; omega, by omega, by rw [i64_iff]; omega, by omega, by omega, by omega, by omega, trivial⟩⟩
  · obtain ⟨q, r, e1, e2, hq, hr⟩ := key n.natAbs (by omega)
    have e : n = ((n.natAbs : Nat) : Int) := by omega
    obtain ⟨a1, a2⟩ := sz (q : Int) (by omega) (by omega)
    obtain ⟨b1, b2⟩ := sz ((r : Int) + (T : Int)) (by omega) (by omega)
    rw [← e] at e1 e2
    simp only [hx, decide_false, Bool.false_eq_true, if_false]
    rw [e1, e2]
    simp only [ByteArray.size_append, ByteArray.size_extract, i0, i46]
    refine ⟨hP, ⟨by omega, by rw [i64_iff]; omega, by rw [i64_iff]; omega, by omega, by rw [i64_iff]; omega, by omega, by omega, by omega, by omega, trivial⟩⟩

theorem ifT {c : Prop} [Decidable c] {Q : Prop} (h : ¬ c → Q) : if c then True else Q := by
  by_cases hc : c
  · rw [if_pos hc]; trivial
  · rw [if_neg hc]; exact h hc
theorem ifB {c : Prop} [Decidable c] {A Q : Prop} (g : A) (h : Q) : if c then A else Q := by
  by_cases hc : c
  · rw [if_pos hc]; exact g
  · rw [if_neg hc]; exact h

theorem sp_tail {u v : ByteArray} {d : Nat} {s : Int} (hs : s = 1 ∨ s = -1) (h1 : 1 ≤ d) (h6 : d ≤ 6) (hu : u.size ≤ 18) (hv : v.size ≤ 6) :
    (if (!g63_1 u) = true then True else (if (!g63_1 v) = true then True else (if (decide (g63_0 u > 1000000000)) = true then True else ((P80 (d : Int)) ∧ ((InR IntKind.i64 (g63_0 u * g80_0 (d : Int))) ∧ ((InR IntKind.i64 (g63_0 u * g80_0 (d : Int) + g63_0 v)) ∧ ((InR IntKind.i64 (s * (g63_0 u * g80_0 (d : Int) + g63_0 v))) ∧ (if (!g81_0 (s * (g63_0 u * g80_0 (d : Int) + g63_0 v))) = true then True else ((P82 (s * (g63_0 u * g80_0 (d : Int) + g63_0 v)) (d : Int)) ∧ True))))))))) := by
  refine ifT fun _ => ifT fun _ => ifT fun hb => ?_
  have hten : g80_0 (d : Int) = ((10 ^ d : Nat) : Int) := by unfold g80_0; rw [Int.toNat_natCast]
  have hp1 : 10 ^ d ≤ 10 ^ 6 := Nat.pow_le_pow_right (by decide) h6
  obtain ⟨a, ea, _⟩ := digits_bound u hu
  obtain ⟨b, eb, hb6⟩ := digits_bound v hv
  simp only [ea, decide_eq_true_eq] at hb
  have ha : a ≤ 1000000000 := by omega
  have hm : a * 10 ^ d ≤ 1000000000 * 10 ^ 6 := Nat.mul_le_mul ha hp1
  have em : (a : Int) * ((10 ^ d : Nat) : Int) = ((a * 10 ^ d : Nat) : Int) := (Int.natCast_mul _ _).symm
  rw [ea, eb, hten, em]
  generalize a * 10 ^ d = c at *
  refine ⟨by unfold P80; omega, by rw [i64_iff]; omega, by rw [i64_iff]; omega, by rw [i64_iff]; rcases hs with rfl | rfl <;> omega, ifT fun hw => ?_⟩
  exact ⟨fix_spre (in124 hw) h1 h6, trivial⟩

theorem fixed_sp {x : ByteArray} {p : Int} (h : x.size ≤ 1048576) : P26 x p := by
  unfold P26
  refine ifT fun hp => ?_
  have hp' : 1 ≤ p ∧ p ≤ 6 := in124 hp
  obtain ⟨d, rfl⟩ : ∃ d : Nat, p = (d : Int) := Int.eq_ofNat_of_zero_le (by omega)
  refine ifT fun h20 => ?_
  have h20' : ¬ (x.size : Int) > 20 := fun hh => h20 (decide_eq_true hh)
  refine ⟨by rw [i64_iff]; omega, ifT fun hle => ?_⟩
  have hle' : ¬ (x.size : Int) < (d : Int) + 2 := fun hh => hle (decide_eq_true hh)
  have hv : (ByteArray.extract x (Int.toNat ((↑(ByteArray.size x) : Int) - (d : Int) - 1 + 1)) (Int.toNat (↑(ByteArray.size x) : Int))).size ≤ 6 := by rw [ByteArray.size_extract]; omega
  refine ⟨by rw [i64_iff]; omega, by rw [i64_iff]; omega, by omega, ifB ?_ ?_⟩
  · refine ⟨by omega, by omega, ifT fun _ => ifT fun ha => ?_⟩
    have ha' : ¬ (x.size : Int) - (d : Int) - 1 ≤ 1 := fun hh => ha (decide_eq_true hh)
    have hu : (ByteArray.extract x 1 (Int.toNat ((↑(ByteArray.size x) : Int) - (d : Int) - 1))).size ≤ 18 := by rw [ByteArray.size_extract]; omega
    exact ⟨by omega, by omega, hu, by rw [i64_iff]; omega, by omega, by omega, (show _ ≤ 18 from Nat.le_trans hv (by decide)), sp_tail (.inr rfl) (by omega) (by omega) hu hv⟩
  · refine ⟨by omega, by omega, ifT fun _ => ifT fun ha => ?_⟩
    have ha' : ¬ (x.size : Int) - (d : Int) - 1 ≤ 0 := fun hh => ha (decide_eq_true hh)
    have hu : (ByteArray.extract x 0 (Int.toNat ((↑(ByteArray.size x) : Int) - (d : Int) - 1))).size ≤ 18 := by rw [ByteArray.size_extract]; omega
    exact ⟨by omega, by omega, hu, by rw [i64_iff]; omega, by omega, by omega, (show _ ≤ 18 from Nat.le_trans hv (by decide)), sp_tail (.inl rfl) (by omega) (by omega) hu hv⟩

end Go.Proofs.YtakodkjcmacofaaDoor
