/- Several texts in one: the functions that this law reaches, and their laws. -/
import Derived.Test.YtakodkjcmacofaaDoorZ5A
import Derived.Test.YtakodkjcmacofaaDoorZ5B
import Derived.Test.YtakodkjcmacofaaDoorRows
import Derived.KernelRfl
import Derived.Shelf.Vars
import Derived.Lib.ItoaNum
import Derived.Shelf.Strings.Builder1
import Derived.Shelf.Strings.Builder2
import Derived.Shelf.Strings.OnBuilder
import Derived.Shelf.Strings.BuilderF
import Derived.Shelf.Strings.BuilderK
import Derived.Shelf.Utf8.RuneCount
import Derived.Shelf.Strconv.Itoa0
import Derived.Shelf.Strconv.Itoa1
import Derived.Shelf.LaysM
import Derived.Shelf.Strconv.Itoa2
import Derived.Shelf.Strconv.Itoa3
import Derived.Shelf.Strconv.Itoa4
import Derived.Shelf.Strings.Search1
import Derived.Shelf.Strings.Search2
import Derived.Shelf.Strings.Search3
import Derived.Shelf.Strings.Cut
import Derived.Shelf.Strings.Count
import Derived.Shelf.Strings.Shaped
import Derived.Shelf.Strings.Prefix
import Derived.Shelf.Strings.Split
import Derived.Shelf.Strings.SplitShaped
import Derived.Shelf.Unicode.Decode
import Derived.Shelf.Strings.RuneCount
import Derived.Shelf.Strings.Explode
import Derived.Shelf.Bits.Mul64
import Derived.Shelf.Strings.Repeat
import Derived.Shelf.Unicode.DecodeSlow
import Derived.Shelf.Unicode.DecodeAny

/- The types of this program, as the abstract machine reads them. -/
set_option linter.unusedVariables false
set_option linter.unusedSimpArgs false
set_option maxRecDepth 100000
namespace Go.Proofs.YtakodkjcmacofaaDoor
open Go Go.Am Go.Proofs
def tab : List TI := [TI.other,
  TI.other,
  TI.scal (Ty.int IntKind.i64),
  TI.scal (Ty.int IntKind.i64),
  TI.scal (Ty.bool),
  TI.scal (Ty.int IntKind.u8),
  TI.scal (Ty.int IntKind.u8),
  TI.struct (Ty.cons (Ty.int IntKind.i64) (Ty.cons (Ty.int IntKind.i64) (Ty.cons Ty.bool (Ty.cons (Ty.int IntKind.u8) Ty.unit)))),
  TI.struct (Ty.cons (Ty.int IntKind.i64) (Ty.cons (Ty.int IntKind.i64) (Ty.cons Ty.bool (Ty.cons (Ty.int IntKind.u8) Ty.unit)))),
  TI.scal (Ty.str),
  TI.scal (Ty.str),
  TI.scal (Ty.str),
  TI.scal (Ty.int IntKind.u64),
  TI.other,
  TI.other,
  TI.other,
  TI.other,
  TI.other,
  TI.other,
  TI.other,
  TI.other,
  TI.scal (Ty.int IntKind.i32),
  TI.other,
  TI.other,
  TI.other,
  TI.slice 73 (Ty.cons Ty.str (Ty.cons (Ty.int IntKind.i64) (Ty.cons (Ty.int IntKind.i64) (Ty.cons (Ty.int IntKind.i64) (Ty.cons (Ty.int IntKind.i64) Ty.unit))))) 48,
  TI.other,
  TI.slice 79 (Ty.cons Ty.str (Ty.cons Ty.str (Ty.cons Ty.str Ty.unit))) 48,
  TI.other,
  TI.other,
  TI.slice 75 (Ty.cons Ty.str (Ty.cons (Ty.int IntKind.i64) (Ty.cons (Ty.int IntKind.i64) (Ty.cons (Ty.int IntKind.i64) (Ty.cons (Ty.int IntKind.i64) Ty.unit))))) 48,
  TI.other,
  TI.other,
  TI.other,
  TI.other,
  TI.other,
  TI.other,
  TI.other,
  TI.other,
  TI.slice 89 (Ty.cons Ty.str (Ty.cons Ty.str (Ty.cons Ty.str Ty.unit))) 48,
  TI.other,
  TI.other,
  TI.other,
  TI.other,
  TI.other,
  TI.slice 5 (Ty.int IntKind.u8) 1,
  TI.other,
  TI.other,
  TI.other,
  TI.other,
  TI.other,
  TI.other,
  TI.other,
  TI.other,
  TI.other,
  TI.other,
  TI.other,
  TI.other,
  TI.other,
  TI.other,
  TI.slice 2 (Ty.int IntKind.i64) 8,
  TI.other,
  TI.other,
  TI.other,
  TI.other,
  TI.other,
  TI.other,
  TI.slice 9 (Ty.str) 16,
  TI.other,
  TI.other,
  TI.other,
  TI.other,
  TI.struct (Ty.cons Ty.str (Ty.cons (Ty.int IntKind.i64) (Ty.cons (Ty.int IntKind.i64) (Ty.cons (Ty.int IntKind.i64) (Ty.cons (Ty.int IntKind.i64) Ty.unit))))),
  TI.struct (Ty.cons Ty.str (Ty.cons (Ty.int IntKind.i64) (Ty.cons (Ty.int IntKind.i64) (Ty.cons (Ty.int IntKind.i64) (Ty.cons (Ty.int IntKind.i64) Ty.unit))))),
  TI.other,
  TI.struct (Ty.cons Ty.str (Ty.cons (Ty.int IntKind.i64) (Ty.cons (Ty.int IntKind.i64) (Ty.cons (Ty.int IntKind.i64) (Ty.cons (Ty.int IntKind.i64) Ty.unit))))),
  TI.other,
  TI.other,
  TI.struct (Ty.cons Ty.str (Ty.cons Ty.str (Ty.cons Ty.str Ty.unit))),
  TI.struct (Ty.cons Ty.str (Ty.cons Ty.str (Ty.cons Ty.str Ty.unit))),
  TI.other,
  TI.other,
  TI.other,
  TI.other,
  TI.other,
  TI.other,
  TI.other,
  TI.other,
  TI.other,
  TI.struct (Ty.cons Ty.str (Ty.cons Ty.str (Ty.cons Ty.str Ty.unit))),
  TI.other,
  TI.other,
  TI.other,
  TI.other,
  TI.other,
  TI.other,
  TI.other,
  TI.other,
  TI.other,
  TI.other,
  TI.other,
  TI.other,
  TI.other,
  TI.other,
  TI.other,
  TI.other,
  TI.other,
  TI.other,
  TI.other,
  TI.other,
  TI.other,
  TI.other,
  TI.other,
  TI.other,
  TI.other,
  TI.other,
  TI.other,
  TI.other,
  TI.other,
  TI.other,
  TI.other,
  TI.other,
  TI.other,
  TI.other,
  TI.other,
  TI.other,
  TI.other,
  TI.other,
  TI.other,
  TI.other,
  TI.other,
  TI.other,
  TI.other,
  TI.other,
  TI.scal (Ty.int IntKind.u64),
  TI.struct (Ty.cons (Ty.sl (Ty.int IntKind.u8)) (Ty.cons (Ty.int IntKind.i64) (Ty.cons (Ty.int IntKind.u64) Ty.unit))),
  TI.struct (Ty.cons (Ty.sl (Ty.int IntKind.u8)) (Ty.cons (Ty.int IntKind.i64) (Ty.cons (Ty.int IntKind.u64) Ty.unit))),
  TI.other,
  TI.other,
  TI.other,
  TI.other,
  TI.other,
  TI.other,
  TI.other,
  TI.other,
  TI.scal (Ty.int IntKind.u64),
  TI.other,
  TI.other,
  TI.other,
  TI.other,
  TI.other,
  TI.other,
  TI.other,
  TI.other,
  TI.other,
  TI.other,
  TI.slice 3 (Ty.int IntKind.i64) 8,
  TI.other,
  TI.other,
  TI.other,
  TI.other,
  TI.other,
  TI.scal (Ty.int IntKind.u32),
  TI.other,
  TI.other,
  TI.other,
  TI.other,
  TI.other,
  TI.other,
  TI.other,
  TI.other,
  TI.other,
  TI.other,
  TI.other,
  TI.other,
  TI.struct (Ty.cons (Ty.int IntKind.u8) (Ty.cons (Ty.int IntKind.u8) Ty.unit)),
  TI.struct (Ty.cons (Ty.int IntKind.u8) (Ty.cons (Ty.int IntKind.u8) Ty.unit)),
  TI.other,
  TI.other,
  TI.other,
  TI.other,
  TI.other,
  TI.other,
  TI.other,
  TI.other,
  TI.other,
  TI.scal (Ty.int IntKind.u8),
  TI.scal (Ty.int IntKind.u8),
  TI.other,
  TI.scal (Ty.int IntKind.i32),
  TI.scal (Ty.int IntKind.i32)]

theorem tabOk : TabOk Tryd.prog tab := tabOk_of_check (by kernel_rfl)
theorem mixed : Tryd.prog.follows .mixedOrders = true := by kernel_rfl
theorem gv0 {W : World} (h : GInv W) : GHas W 0 (.int .i64) := h.1
theorem gcell0 (W : World) (h : W.ShapedOpen Tryd.prog) : ∃ m, W.cell? ⟨0, 0, none⟩ = some (.int .i64 m) :=
  Go.Proofs.cell_of_shapedOpen_int (zero := #[.int .i64 0]) (t := 3) h (of_decide_eq_true (by kernel_rfl)) (by kernel_rfl) rfl (by kernel_rfl) (by kernel_rfl) Tryd.underlying3
theorem gv1 {W : World} (h : GInv W) : GHas W 1 (.tab .u64 Lib.pow10Tab) := h.2.1
theorem maxLenG {W : World} (h : GInv W) : ∃ m, W.cell? ⟨0, 0, none⟩ = some (.int .i64 m) := gv0 h
theorem pow10G {W : World} (h : GInv W) : Lib.TabIs Tryd.prog W "internal/strconv.uint64pow10" .u64 Lib.pow10Tab := GHas.tab (by kernel_rfl) (gv1 h)
theorem ginv (W : World) (h : W.ShapedOpen Tryd.prog) (h1 : GHas W 1 (.tab .u64 Lib.pow10Tab)) : GInv W := ⟨gcell0 W h, h1, trivial⟩
end Go.Proofs.YtakodkjcmacofaaDoor

/- Function 70 (laws.szCheck): its runs between cut points. Written by a program of this repo (gen). -/
set_option linter.unusedVariables false
set_option linter.unusedSimpArgs false
set_option maxRecDepth 100000
namespace Go.Proofs.YtakodkjcmacofaaDoor
open Go Go.Am Go.Proofs
def ext70 : Ext := []
theorem ext70Ok : ExtOk Tryd.prog ext70 := trivial
/-! Function 70. -/
noncomputable def b70 : Code := bodyOf Tryd.f70
theorem hb70 : Tryd.f70.body = some b70 := by kernel_rfl
def sig70 : List AT := [AT.v (Ty.cons Ty.str (Ty.cons (Ty.int IntKind.i64) (Ty.cons (Ty.int IntKind.i64) (Ty.cons (Ty.int IntKind.i64) (Ty.cons (Ty.int IntKind.i64) Ty.unit))))), AT.v (Ty.int IntKind.i64)]
def tys70 : List Ty := [Ty.int IntKind.i64]
def P70 (x0 : ByteArray × Int × Int × Int × Int × Unit) (x1 : Int) : Prop := ((InR IntKind.i64 (x1 - (↑(ByteArray.size (Prod.fst x0)) : Int))) ∧ True)
def g70_0 (x0 : ByteArray × Int × Int × Int × Int × Unit) (x1 : Int) : Int := (if (Decidable.decide (x1 - (↑(ByteArray.size (Prod.fst x0)) : Int) < 0)) = true then -1 else x1 - (↑(ByteArray.size (Prod.fst x0)) : Int))
theorem p70_0 (x0 : ByteArray × Int × Int × Int × Int × Unit) (x1 : Int) : runF tab ext70 false 13 [] 2000 [] tys70 Tryd.f70.results [true] [.code b70] (entE 0 0 sig70 (x0, x1, ())) (entL sig70 (x0, x1, ())) = some ([Dyn.mk (Ty.int IntKind.i64) (-1)], [], [InR IntKind.i64 (x1 - (↑(ByteArray.size (Prod.fst x0)) : Int)), Decidable.decide (x1 - (↑(ByteArray.size (Prod.fst x0)) : Int) < 0) = Bool.true]) := by kernel_rfl
theorem p70_1 (x0 : ByteArray × Int × Int × Int × Int × Unit) (x1 : Int) : runF tab ext70 false 13 [] 2000 [] tys70 Tryd.f70.results [false] [.code b70] (entE 0 0 sig70 (x0, x1, ())) (entL sig70 (x0, x1, ())) = some ([Dyn.mk (Ty.int IntKind.i64) (x1 - (↑(ByteArray.size (Prod.fst x0)) : Int))], [], [InR IntKind.i64 (x1 - (↑(ByteArray.size (Prod.fst x0)) : Int)), Decidable.decide (x1 - (↑(ByteArray.size (Prod.fst x0)) : Int) < 0) = Bool.false]) := by kernel_rfl
theorem at70 (x0 : ByteArray × Int × Int × Int × Int × Unit) (x1 : Int) (h : P70 x0 x1) (w0 : World) (O : List Nat) (q : Nat → Value) : AtV Tryd.prog 70 (PostR [⟨Ty.int IntKind.i64, g70_0 x0 x1⟩] [] [] q w0 O) 13 w0 O q [] [.code b70] (entE 0 0 sig70 (x0, x1, ())) (entL sig70 (x0, x1, ())) := by
  unfold P70 at h
  unfold g70_0
  obtain ⟨s0, h⟩ := h
  by_cases b0 : (Decidable.decide (x1 - (↑(ByteArray.size (Prod.fst x0)) : Int) < 0)) = true
  · try simp only [if_pos b0] at h ⊢
    exact AtV.fin Tryd.func70 tabOk ext70Ok mixed (p70_0 x0 x1) ⟨s0, b0, trivial⟩
  · try simp only [if_neg b0] at h ⊢
    replace b0 := Bool.eq_false_iff.2 b0
    exact AtV.fin Tryd.func70 tabOk ext70Ok mixed (p70_1 x0 x1) ⟨s0, b0, trivial⟩

def S70 : Am.Spec := { sig := sig70, pre := fun ⟨x0, x1, _⟩ => P70 x0 x1, res := fun ⟨x0, x1, _⟩ => [⟨Ty.int IntKind.i64, g70_0 x0 x1⟩] }
theorem con70 : Contract Tryd.prog 70 S70 := contract_of Tryd.func70 hb70 (Nat.le_of_ble_eq_true (by kernel_rfl)) (fun ⟨x0, x1, _⟩ h _ w0 O q => at70 x0 x1 h w0 O q)


theorem sz70 (x0 : (ByteArray × Int × Int × Int × Int × Unit)) (x1 : Int) (h : 0 ≤ x1) (hi : InR .i64 x1) (hw : Wf (.cons .str (.cons (.int .i64) (.cons (.int .i64) (.cons (.int .i64) (.cons (.int .i64) .unit))))) x0) :
    P70 x0 x1 ∧ -1 ≤ g70_0 x0 x1 ∧ g70_0 x0 x1 ≤ x1 := by
  have h0 : x0.1.size ≤ 9223372036854775807 := hw.1
  rw [i64_iff] at hi
  unfold P70 g70_0
  simp only [decide_eq_true_eq, i64_iff]
  repeat' (first | apply And.intro | split)
  all_goals first | trivial | omega

end Go.Proofs.YtakodkjcmacofaaDoor

/- Function 17 (laws.szCheckS): its runs between cut points. Written by a program of this repo (gen). -/
set_option linter.unusedVariables false
set_option linter.unusedSimpArgs false
set_option maxRecDepth 100000
namespace Go.Proofs.YtakodkjcmacofaaDoor
open Go Go.Am Go.Proofs
def ext17 : Ext := [(70, S70)]
theorem call17_70 : Callable Tryd.prog 70 := ⟨Tryd.f70, Tryd.func70, by kernel_rfl, by kernel_rfl⟩
theorem ext17Ok : ExtOk Tryd.prog ext17 := ⟨⟨call17_70, con70⟩, trivial⟩
/-! Function 17. -/
noncomputable def b17 : Code := bodyOf Tryd.f17
theorem hb17 : Tryd.f17.body = some b17 := by kernel_rfl
def sig17 : List AT := [AT.v (Ty.sl (Ty.cons Ty.str (Ty.cons (Ty.int IntKind.i64) (Ty.cons (Ty.int IntKind.i64) (Ty.cons (Ty.int IntKind.i64) (Ty.cons (Ty.int IntKind.i64) Ty.unit)))))), AT.v (Ty.int IntKind.i64)]
def tys17 : List Ty := [Ty.int IntKind.i64]
def E17_5 (v1 : Int) (v5 : Int) (x0 : List (ByteArray × Int × Int × Int × Int × Unit)) : Env := [(0, PV.a (Atom.sl (Ty.cons Ty.str (Ty.cons (Ty.int IntKind.i64) (Ty.cons (Ty.int IntKind.i64) (Ty.cons (Ty.int IntKind.i64) (Ty.cons (Ty.int IntKind.i64) Ty.unit))))) x0)), (1, PV.a (Atom.val (Value.int IntKind.i64 v1))), (5, PV.a (Atom.val (Value.int IntKind.i64 v5)))]
def L17_5 (v1 : Int) (v5 : Int) (x0 : List (ByteArray × Int × Int × Int × Int × Unit)) : Heap := []
mutual
def R17 : Nat → List (ByteArray × Int × Int × Int × Int × Unit) → Int → List Dyn → Prop
  | 0, _, _, _ => False
  | n + 1, x0, x1, ds => ((InR IntKind.i64 (x1 - (↑(List.length x0) : Int))) ∧ (if (Decidable.decide (x1 - (↑(List.length x0) : Int) < 0)) = true then (ds = [Dyn.mk (Ty.int IntKind.i64) (-1)]) else (R17_5 n (x1 - (↑(List.length x0) : Int)) (0) (x0) ds)))
def R17_5 : Nat → Int → Int → List (ByteArray × Int × Int × Int × Int × Unit) → List Dyn → Prop
  | 0, _, _, _, _ => False
  | n + 1, v1, v5, x0, ds => (if (Decidable.decide (v5 < (↑(List.length x0) : Int))) = true then ((0 ≤ v5) ∧ (v5 < (↑(List.length x0) : Int)) ∧ ((P70 (List.getD x0 (Int.toNat v5) (ByteArray.empty, 0, 0, 0, 0, ())) v1) ∧ (if (Decidable.decide (g70_0 (List.getD x0 (Int.toNat v5) (ByteArray.empty, 0, 0, 0, 0, ())) v1 < 0)) = true then (ds = [Dyn.mk (Ty.int IntKind.i64) (-1)]) else ((InR IntKind.i64 (v5 + 1)) ∧ (R17_5 n (g70_0 (List.getD x0 (Int.toNat v5) (ByteArray.empty, 0, 0, 0, 0, ())) v1) (v5 + 1) (x0) ds))))) else (ds = [Dyn.mk (Ty.int IntKind.i64) v1]))
end
theorem p17_0 (x0 : List (ByteArray × Int × Int × Int × Int × Unit)) (x1 : Int) : runF tab ext17 false 27 [] 2000 [] tys17 Tryd.f17.results [true] [.code b17] (entE 0 0 sig17 (x0, x1, ())) (entL sig17 (x0, x1, ())) = some ([Dyn.mk (Ty.int IntKind.i64) (-1)], [], [InR IntKind.i64 (x1 - (↑(List.length x0) : Int)), Decidable.decide (x1 - (↑(List.length x0) : Int) < 0) = Bool.true]) := by kernel_rfl
theorem p17_1 (x0 : List (ByteArray × Int × Int × Int × Int × Unit)) (x1 : Int) : Am.runN tab ext17 false 27 [] 2000 [] [] [0, 1, 5] [] [false] [.code b17] (entE 0 0 sig17 (x0, x1, ())) (entL sig17 (x0, x1, ())) = some (cutAt b17 5, E17_5 (x1 - (↑(List.length x0) : Int)) (0) (x0), L17_5 (x1 - (↑(List.length x0) : Int)) (0) (x0), [InR IntKind.i64 (x1 - (↑(List.length x0) : Int)), Decidable.decide (x1 - (↑(List.length x0) : Int) < 0) = Bool.false]) := by kernel_rfl
theorem p17_2 (v1 : Int) (v5 : Int) (x0 : List (ByteArray × Int × Int × Int × Int × Unit)) : runF tab ext17 false 27 [] 2000 [] tys17 Tryd.f17.results [true, true] (cutAt b17 5) (E17_5 v1 v5 x0) (L17_5 v1 v5 x0) = some ([Dyn.mk (Ty.int IntKind.i64) (-1)], [], [Decidable.decide (v5 < (↑(List.length x0) : Int)) = Bool.true, 0 ≤ v5, v5 < (↑(List.length x0) : Int), P70 (List.getD x0 (Int.toNat v5) (ByteArray.empty, 0, 0, 0, 0, ())) v1, Decidable.decide (g70_0 (List.getD x0 (Int.toNat v5) (ByteArray.empty, 0, 0, 0, 0, ())) v1 < 0) = Bool.true]) := by kernel_rfl
theorem p17_3 (v1 : Int) (v5 : Int) (x0 : List (ByteArray × Int × Int × Int × Int × Unit)) : Am.runN tab ext17 false 27 [] 2000 [] [] [0, 1, 5] [] [true, false] (cutAt b17 5) (E17_5 v1 v5 x0) (L17_5 v1 v5 x0) = some (cutAt b17 5, E17_5 (g70_0 (List.getD x0 (Int.toNat v5) (ByteArray.empty, 0, 0, 0, 0, ())) v1) (v5 + 1) (x0), L17_5 (g70_0 (List.getD x0 (Int.toNat v5) (ByteArray.empty, 0, 0, 0, 0, ())) v1) (v5 + 1) (x0), [Decidable.decide (v5 < (↑(List.length x0) : Int)) = Bool.true, 0 ≤ v5, v5 < (↑(List.length x0) : Int), P70 (List.getD x0 (Int.toNat v5) (ByteArray.empty, 0, 0, 0, 0, ())) v1, Decidable.decide (g70_0 (List.getD x0 (Int.toNat v5) (ByteArray.empty, 0, 0, 0, 0, ())) v1 < 0) = Bool.false, InR IntKind.i64 (v5 + 1)]) := by kernel_rfl
theorem p17_4 (v1 : Int) (v5 : Int) (x0 : List (ByteArray × Int × Int × Int × Int × Unit)) : runF tab ext17 false 27 [] 2000 [] tys17 Tryd.f17.results [false] (cutAt b17 5) (E17_5 v1 v5 x0) (L17_5 v1 v5 x0) = some ([Dyn.mk (Ty.int IntKind.i64) v1], [], [Decidable.decide (v5 < (↑(List.length x0) : Int)) = Bool.false]) := by kernel_rfl
theorem snd17 : ∀ n, (∀ (x0 : List (ByteArray × Int × Int × Int × Int × Unit)) (x1 : Int) ds, R17 n x0 x1 ds → ∀ w0 O q, AtV Tryd.prog 17 (PostR ds [] [] q w0 O) 27 w0 O q [] [.code b17] (entE 0 0 sig17 (x0, x1, ())) (entL sig17 (x0, x1, ()))) ∧ (∀ (v1 : Int) (v5 : Int) (x0 : List (ByteArray × Int × Int × Int × Int × Unit)) ds, R17_5 n v1 v5 x0 ds → ∀ w0 O q, AtV Tryd.prog 17 (PostR ds [] [] q w0 O) 27 w0 O q [] (cutAt b17 5) (E17_5 v1 v5 x0) (L17_5 v1 v5 x0)) := by
  intro n
  induction n with
  | zero => exact ⟨fun _ _ _ h => by simp only [R17] at h, fun _ _ _ _ h => by simp only [R17_5] at h⟩
  | succ n ih =>
  obtain ⟨ih, ih5⟩ := ih
  refine ⟨?_, ?_⟩
  · intro x0 x1 ds h w0 O q
    rw [R17] at h
    obtain ⟨s0, h⟩ := h
    by_cases b0 : (Decidable.decide (x1 - (↑(List.length x0) : Int) < 0)) = true
    · rw [if_pos b0] at h
      subst h
      exact AtV.fin Tryd.func17 tabOk ext17Ok mixed (p17_0 x0 x1) ⟨s0, b0, trivial⟩
    · rw [if_neg b0] at h
      replace b0 := Bool.eq_false_iff.2 b0
      exact AtV.runN tabOk ext17Ok mixed (p17_1 x0 x1) ⟨s0, b0, trivial⟩ (ih5 _ _ _ _ h w0 O q)

  · intro v1 v5 x0 ds h w0 O q
    rw [R17_5] at h
    by_cases b0 : (Decidable.decide (v5 < (↑(List.length x0) : Int))) = true
    · rw [if_pos b0] at h
      obtain ⟨s0, s1, h⟩ := h
      obtain ⟨s2, h⟩ := h
      by_cases b1 : (Decidable.decide (g70_0 (List.getD x0 (Int.toNat v5) (ByteArray.empty, 0, 0, 0, 0, ())) v1 < 0)) = true
      · rw [if_pos b1] at h
        subst h
        exact AtV.fin Tryd.func17 tabOk ext17Ok mixed (p17_2 v1 v5 x0) ⟨b0, s0, s1, s2, b1, trivial⟩
      · rw [if_neg b1] at h
        replace b1 := Bool.eq_false_iff.2 b1
        obtain ⟨s3, h⟩ := h
        exact AtV.runN tabOk ext17Ok mixed (p17_3 v1 v5 x0) ⟨b0, s0, s1, s2, b1, s3, trivial⟩ (ih5 _ _ _ _ h w0 O q)
    · rw [if_neg b0] at h
      replace b0 := Bool.eq_false_iff.2 b0
      subst h
      exact AtV.fin Tryd.func17 tabOk ext17Ok mixed (p17_4 v1 v5 x0) ⟨b0, trivial⟩



def szL17 : List (ByteArray × Int × Int × Int × Int × Unit) → Int → Int
  | [], l => l
  | x :: r, l => if g70_0 x l < 0 then -1 else szL17 r (g70_0 x l)

theorem szL17_ok : ∀ (x0 : List (ByteArray × Int × Int × Int × Int × Unit)) (l : Int), 0 ≤ l → InR .i64 l → (∀ x ∈ x0, Wf (.cons .str (.cons (.int .i64) (.cons (.int .i64) (.cons (.int .i64) (.cons (.int .i64) .unit))))) x) → szL17 x0 l ≤ l
  | [], l, _, _, _ => Int.le_refl _
  | x :: r, l, h, hi, hw => by
    obtain ⟨_, h2, h3⟩ := sz70 x l h hi (hw x (List.mem_cons_self ..))
    simp only [szL17]
    rw [i64_iff] at hi
    split
    · omega
    · have := szL17_ok r (g70_0 x l) (by omega) (by rw [i64_iff]; omega) (fun y hy => hw y (List.mem_cons_of_mem _ hy))
      omega

theorem run17 (x0 : List (ByteArray × Int × Int × Int × Int × Unit)) (hm : x0.length ≤ maxLen) (hw : ∀ x ∈ x0, Wf (.cons .str (.cons (.int .i64) (.cons (.int .i64) (.cons (.int .i64) (.cons (.int .i64) .unit))))) x) : ∀ (k i : Nat) (l : Int), i + k = x0.length → 0 ≤ l → InR .i64 l →
    R17_5 (k + 1) l (i : Int) x0 [⟨.int .i64, szL17 (x0.drop i) l⟩] := by
  intro k
  induction k with
  | zero =>
    intro i l hi _ _
    rw [R17_5, if_neg (by simp; omega), drop_end x0 i (by omega)]
    rfl
  | succ k ih =>
    intro i l hi h0 hl
    rw [R17_5, if_pos (by simp; omega)]
    simp only [Int.toNat_natCast]
    have hmem : x0.getD i (ByteArray.empty, (0 : Int), (0 : Int), (0 : Int), (0 : Int), ()) ∈ x0 := by rw [getD_lt _ _ _ (by omega)]; exact List.getElem_mem _
    obtain ⟨h1, h2, h3⟩ := sz70 _ l h0 hl (hw _ hmem)
    refine ⟨by omega, by omega, h1, ?_⟩
    rw [drop_get x0 i (ByteArray.empty, (0 : Int), (0 : Int), (0 : Int), (0 : Int), ()) (by omega)]
    simp only [szL17]
    have hl' := hl
    rw [i64_iff] at hl'
    by_cases hn : g70_0 (x0.getD i (ByteArray.empty, (0 : Int), (0 : Int), (0 : Int), (0 : Int), ())) l < 0
    · rw [if_pos (by simpa using hn), if_pos hn]
    · rw [if_neg (by simpa using hn), if_neg hn]
      exact ⟨inR_up hm (by omega), ih (i + 1) _ (by omega) (by omega) (by rw [i64_iff]; omega)⟩

def g17_0 (x0 : List (ByteArray × Int × Int × Int × Int × Unit)) (x1 : Int) : Int := if x1 - x0.length < 0 then -1 else szL17 x0 (x1 - x0.length)
def P17 (x0 : List (ByteArray × Int × Int × Int × Int × Unit)) (x1 : Int) : Prop := 0 ≤ x1

theorem g17_le (x0 : List (ByteArray × Int × Int × Int × Int × Unit)) (x1 : Int) (h : 0 ≤ x1) (hi : InR .i64 x1) (hw : Wf (.sl (.cons .str (.cons (.int .i64) (.cons (.int .i64) (.cons (.int .i64) (.cons (.int .i64) .unit)))))) x0) (hg : ¬ g17_0 x0 x1 < 0) : g17_0 x0 x1 ≤ x1 - x0.length := by
  unfold g17_0 at hg ⊢
  rw [i64_iff] at hi
  split
  · rename_i h1
    rw [if_pos h1] at hg
    omega
  · exact szL17_ok x0 _ (by omega) (by rw [i64_iff]; omega) hw.2

theorem top17 (x0 : List (ByteArray × Int × Int × Int × Int × Unit)) (x1 : Int) (hw : Wf (.sl (.cons .str (.cons (.int .i64) (.cons (.int .i64) (.cons (.int .i64) (.cons (.int .i64) .unit)))))) x0) (hi : InR .i64 x1) (h : 0 ≤ x1) : R17 (x0.length + 1 + 1) x0 x1 [⟨Ty.int .i64, g17_0 x0 x1⟩] := by
  have hm : x0.length ≤ maxLen := hw.1
  have hm' : x0.length ≤ 9223372036854775807 := hm
  rw [i64_iff] at hi
  rw [R17]
  refine ⟨by rw [i64_iff]; omega, ?_⟩
  unfold g17_0
  by_cases hn : x1 - (x0.length : Int) < 0
  · rw [if_pos (by simpa using hn), if_pos hn]
  · rw [if_neg (by simpa using hn), if_neg hn]
    have := run17 x0 hm hw.2 x0.length 0 (x1 - x0.length) (by omega) (by omega) (by rw [i64_iff]; omega)
    simpa using this

def S17 : Am.Spec := { sig := sig17, pre := fun ⟨x0, x1, _⟩ => P17 x0 x1, res := fun ⟨x0, x1, _⟩ => [⟨Ty.int .i64, g17_0 x0 x1⟩] }
theorem con17 : Contract Tryd.prog 17 S17 := contract_of Tryd.func17 hb17 (Nat.le_of_ble_eq_true (by kernel_rfl)) (fun ⟨x0, x1, _⟩ h hwf w0 O q =>
  (snd17 _).1 x0 x1 _ (top17 x0 x1 hwf.1 hwf.2.1 h) w0 O q)

end Go.Proofs.YtakodkjcmacofaaDoor

/- Function 73 (laws.toCheck): its runs between cut points. Written by a program of this repo (gen). -/
set_option linter.unusedVariables false
set_option linter.unusedSimpArgs false
set_option maxRecDepth 100000
namespace Go.Proofs.YtakodkjcmacofaaDoor
open Go Go.Am Go.Proofs
def ext73 : Ext := []
theorem ext73Ok : ExtOk Tryd.prog ext73 := trivial
/-! Function 73. -/
noncomputable def b73 : Code := bodyOf Tryd.f73
theorem hb73 : Tryd.f73.body = some b73 := by kernel_rfl
def sig73 : List AT := [AT.v (Ty.cons Ty.str (Ty.cons (Ty.int IntKind.i64) (Ty.cons (Ty.int IntKind.i64) (Ty.cons (Ty.int IntKind.i64) (Ty.cons (Ty.int IntKind.i64) Ty.unit)))))]
def tys73 : List Ty := [Ty.cons Ty.str (Ty.cons (Ty.int IntKind.i64) (Ty.cons (Ty.int IntKind.i64) (Ty.cons (Ty.int IntKind.i64) (Ty.cons (Ty.int IntKind.i64) Ty.unit))))]
def P73 (x0 : ByteArray × Int × Int × Int × Int × Unit) : Prop := True
def g73_0 (x0 : ByteArray × Int × Int × Int × Int × Unit) : ByteArray × Int × Int × Int × Int × Unit := (Prod.fst x0, Prod.fst (Prod.snd x0), Prod.fst (Prod.snd (Prod.snd x0)), Prod.fst (Prod.snd (Prod.snd (Prod.snd x0))), Prod.fst (Prod.snd (Prod.snd (Prod.snd (Prod.snd x0)))), ())
theorem p73_0 (x0 : ByteArray × Int × Int × Int × Int × Unit) : runF tab ext73 false 20 [] 2000 [] tys73 Tryd.f73.results [] [.code b73] (entE 0 0 sig73 (x0, ())) (entL sig73 (x0, ())) = some ([Dyn.mk (Ty.cons Ty.str (Ty.cons (Ty.int IntKind.i64) (Ty.cons (Ty.int IntKind.i64) (Ty.cons (Ty.int IntKind.i64) (Ty.cons (Ty.int IntKind.i64) Ty.unit))))) (Prod.fst x0, Prod.fst (Prod.snd x0), Prod.fst (Prod.snd (Prod.snd x0)), Prod.fst (Prod.snd (Prod.snd (Prod.snd x0))), Prod.fst (Prod.snd (Prod.snd (Prod.snd (Prod.snd x0)))), ())], [], []) := by kernel_rfl
theorem at73 (x0 : ByteArray × Int × Int × Int × Int × Unit) (h : P73 x0) (w0 : World) (O : List Nat) (q : Nat → Value) : AtV Tryd.prog 73 (PostR [⟨Ty.cons Ty.str (Ty.cons (Ty.int IntKind.i64) (Ty.cons (Ty.int IntKind.i64) (Ty.cons (Ty.int IntKind.i64) (Ty.cons (Ty.int IntKind.i64) Ty.unit)))), g73_0 x0⟩] [] [] q w0 O) 20 w0 O q [] [.code b73] (entE 0 0 sig73 (x0, ())) (entL sig73 (x0, ())) := by
  unfold P73 at h
  unfold g73_0
  exact AtV.fin Tryd.func73 tabOk ext73Ok mixed (p73_0 x0) trivial

def S73 : Am.Spec := { sig := sig73, pre := fun ⟨x0, _⟩ => P73 x0, res := fun ⟨x0, _⟩ => [⟨Ty.cons Ty.str (Ty.cons (Ty.int IntKind.i64) (Ty.cons (Ty.int IntKind.i64) (Ty.cons (Ty.int IntKind.i64) (Ty.cons (Ty.int IntKind.i64) Ty.unit)))), g73_0 x0⟩] }
theorem con73 : Contract Tryd.prog 73 S73 := contract_of Tryd.func73 hb73 (Nat.le_of_ble_eq_true (by kernel_rfl)) (fun ⟨x0, _⟩ h _ w0 O q => at73 x0 h w0 O q)


end Go.Proofs.YtakodkjcmacofaaDoor

/- Function 19 (laws.toCheckS): its runs between cut points. Written by a program of this repo (gen). -/
set_option linter.unusedVariables false
set_option linter.unusedSimpArgs false
set_option maxRecDepth 100000
namespace Go.Proofs.YtakodkjcmacofaaDoor
open Go Go.Am Go.Proofs
def ext19 : Ext := [(73, S73)]
theorem call19_73 : Callable Tryd.prog 73 := ⟨Tryd.f73, Tryd.func73, by kernel_rfl, by kernel_rfl⟩
theorem ext19Ok : ExtOk Tryd.prog ext19 := ⟨⟨call19_73, con73⟩, trivial⟩
/-! Function 19. -/
noncomputable def b19 : Code := bodyOf Tryd.f19
theorem hb19 : Tryd.f19.body = some b19 := by kernel_rfl
def sig19 : List AT := [AT.v (Ty.sl (Ty.cons Ty.str (Ty.cons (Ty.int IntKind.i64) (Ty.cons (Ty.int IntKind.i64) (Ty.cons (Ty.int IntKind.i64) (Ty.cons (Ty.int IntKind.i64) Ty.unit))))))]
def tys19 : List Ty := [Ty.sl (Ty.cons Ty.str (Ty.cons (Ty.int IntKind.i64) (Ty.cons (Ty.int IntKind.i64) (Ty.cons (Ty.int IntKind.i64) (Ty.cons (Ty.int IntKind.i64) Ty.unit)))))]
def E19_3 (v4 : Int) (h0 : List (ByteArray × Int × Int × Int × Int × Unit)) (x0 : List (ByteArray × Int × Int × Int × Int × Unit)) : Env := [(0, PV.a (Atom.sl (Ty.cons Ty.str (Ty.cons (Ty.int IntKind.i64) (Ty.cons (Ty.int IntKind.i64) (Ty.cons (Ty.int IntKind.i64) (Ty.cons (Ty.int IntKind.i64) Ty.unit))))) x0)), (3, PV.a (Atom.osl 0 Option.none)), (4, PV.a (Atom.val (Value.int IntKind.i64 v4)))]
def L19_3 (v4 : Int) (h0 : List (ByteArray × Int × Int × Int × Int × Unit)) (x0 : List (ByteArray × Int × Int × Int × Int × Unit)) : Heap := [Option.some (Arr.mk (Ty.cons Ty.str (Ty.cons (Ty.int IntKind.i64) (Ty.cons (Ty.int IntKind.i64) (Ty.cons (Ty.int IntKind.i64) (Ty.cons (Ty.int IntKind.i64) Ty.unit))))) h0 Bool.false)]
mutual
def R19 : Nat → List (ByteArray × Int × Int × Int × Int × Unit) → List Dyn → Prop
  | 0, _, _ => False
  | n + 1, x0, ds => ((0 ≤ (↑(List.length x0) : Int)) ∧ ((↑(List.length x0) : Int) ≤ (↑(List.length x0) : Int)) ∧ (48 * (↑(List.length x0) : Int) ≤ 281474976710656) ∧ (R19_3 n (0) (List.replicate (Int.toNat (↑(List.length x0) : Int)) (ByteArray.empty, 0, 0, 0, 0, ())) (x0) ds))
def R19_3 : Nat → Int → List (ByteArray × Int × Int × Int × Int × Unit) → List (ByteArray × Int × Int × Int × Int × Unit) → List Dyn → Prop
  | 0, _, _, _, _ => False
  | n + 1, v4, h0, x0, ds => (if (Decidable.decide (v4 < (↑(List.length x0) : Int))) = true then ((0 ≤ v4) ∧ (v4 < (↑(List.length x0) : Int)) ∧ ((0 ≤ v4) ∧ (v4 < (↑(List.length h0) : Int)) ∧ ((InR IntKind.i64 (v4 + 1)) ∧ (R19_3 n (v4 + 1) (List.set h0 (Int.toNat v4) (Prod.fst (List.getD x0 (Int.toNat v4) (ByteArray.empty, 0, 0, 0, 0, ())), Prod.fst (Prod.snd (List.getD x0 (Int.toNat v4) (ByteArray.empty, 0, 0, 0, 0, ()))), Prod.fst (Prod.snd (Prod.snd (List.getD x0 (Int.toNat v4) (ByteArray.empty, 0, 0, 0, 0, ())))), Prod.fst (Prod.snd (Prod.snd (Prod.snd (List.getD x0 (Int.toNat v4) (ByteArray.empty, 0, 0, 0, 0, ()))))), Prod.fst (Prod.snd (Prod.snd (Prod.snd (Prod.snd (List.getD x0 (Int.toNat v4) (ByteArray.empty, 0, 0, 0, 0, ())))))), ())) (x0) ds)))) else (ds = [Dyn.mk (Ty.sl (Ty.cons Ty.str (Ty.cons (Ty.int IntKind.i64) (Ty.cons (Ty.int IntKind.i64) (Ty.cons (Ty.int IntKind.i64) (Ty.cons (Ty.int IntKind.i64) Ty.unit)))))) h0]))
end
theorem p19_0 (x0 : List (ByteArray × Int × Int × Int × Int × Unit)) : Am.runN tab ext19 false 23 [] 2000 [] [] [0, 3, 4] [0] [] [.code b19] (entE 0 0 sig19 (x0, ())) (entL sig19 (x0, ())) = some (cutAt b19 3, E19_3 (0) (List.replicate (Int.toNat (↑(List.length x0) : Int)) (ByteArray.empty, 0, 0, 0, 0, ())) (x0), L19_3 (0) (List.replicate (Int.toNat (↑(List.length x0) : Int)) (ByteArray.empty, 0, 0, 0, 0, ())) (x0), [0 ≤ (↑(List.length x0) : Int), (↑(List.length x0) : Int) ≤ (↑(List.length x0) : Int), 48 * (↑(List.length x0) : Int) ≤ 281474976710656]) := by kernel_rfl
theorem p19_1 (v4 : Int) (h0 : List (ByteArray × Int × Int × Int × Int × Unit)) (x0 : List (ByteArray × Int × Int × Int × Int × Unit)) : Am.runN tab ext19 false 23 [] 2000 [] [] [0, 3, 4] [0] [true] (cutAt b19 3) (E19_3 v4 h0 x0) (L19_3 v4 h0 x0) = some (cutAt b19 3, E19_3 (v4 + 1) (List.set h0 (Int.toNat v4) (Prod.fst (List.getD x0 (Int.toNat v4) (ByteArray.empty, 0, 0, 0, 0, ())), Prod.fst (Prod.snd (List.getD x0 (Int.toNat v4) (ByteArray.empty, 0, 0, 0, 0, ()))), Prod.fst (Prod.snd (Prod.snd (List.getD x0 (Int.toNat v4) (ByteArray.empty, 0, 0, 0, 0, ())))), Prod.fst (Prod.snd (Prod.snd (Prod.snd (List.getD x0 (Int.toNat v4) (ByteArray.empty, 0, 0, 0, 0, ()))))), Prod.fst (Prod.snd (Prod.snd (Prod.snd (Prod.snd (List.getD x0 (Int.toNat v4) (ByteArray.empty, 0, 0, 0, 0, ())))))), ())) (x0), L19_3 (v4 + 1) (List.set h0 (Int.toNat v4) (Prod.fst (List.getD x0 (Int.toNat v4) (ByteArray.empty, 0, 0, 0, 0, ())), Prod.fst (Prod.snd (List.getD x0 (Int.toNat v4) (ByteArray.empty, 0, 0, 0, 0, ()))), Prod.fst (Prod.snd (Prod.snd (List.getD x0 (Int.toNat v4) (ByteArray.empty, 0, 0, 0, 0, ())))), Prod.fst (Prod.snd (Prod.snd (Prod.snd (List.getD x0 (Int.toNat v4) (ByteArray.empty, 0, 0, 0, 0, ()))))), Prod.fst (Prod.snd (Prod.snd (Prod.snd (Prod.snd (List.getD x0 (Int.toNat v4) (ByteArray.empty, 0, 0, 0, 0, ())))))), ())) (x0), [Decidable.decide (v4 < (↑(List.length x0) : Int)) = Bool.true, 0 ≤ v4, v4 < (↑(List.length x0) : Int), True, 0 ≤ v4, v4 < (↑(List.length h0) : Int), InR IntKind.i64 (v4 + 1)]) := by kernel_rfl
theorem p19_2 (v4 : Int) (h0 : List (ByteArray × Int × Int × Int × Int × Unit)) (x0 : List (ByteArray × Int × Int × Int × Int × Unit)) : runF tab ext19 false 23 [] 2000 [] tys19 Tryd.f19.results [false] (cutAt b19 3) (E19_3 v4 h0 x0) (L19_3 v4 h0 x0) = some ([Dyn.mk (Ty.sl (Ty.cons Ty.str (Ty.cons (Ty.int IntKind.i64) (Ty.cons (Ty.int IntKind.i64) (Ty.cons (Ty.int IntKind.i64) (Ty.cons (Ty.int IntKind.i64) Ty.unit)))))) h0], [], [Decidable.decide (v4 < (↑(List.length x0) : Int)) = Bool.false]) := by kernel_rfl
theorem snd19 : ∀ n, (∀ (x0 : List (ByteArray × Int × Int × Int × Int × Unit)) ds, R19 n x0 ds → ∀ w0 O q, AtV Tryd.prog 19 (PostR ds [] [] q w0 O) 23 w0 O q [] [.code b19] (entE 0 0 sig19 (x0, ())) (entL sig19 (x0, ()))) ∧ (∀ (v4 : Int) (h0 : List (ByteArray × Int × Int × Int × Int × Unit)) (x0 : List (ByteArray × Int × Int × Int × Int × Unit)) ds, R19_3 n v4 h0 x0 ds → ∀ w0 O q, AtV Tryd.prog 19 (PostR ds [] [] q w0 O) 23 w0 O q [] (cutAt b19 3) (E19_3 v4 h0 x0) (L19_3 v4 h0 x0)) := by
  intro n
  induction n with
  | zero => exact ⟨fun _ _ h => by simp only [R19] at h, fun _ _ _ _ h => by simp only [R19_3] at h⟩
  | succ n ih =>
  obtain ⟨ih, ih3⟩ := ih
  refine ⟨?_, ?_⟩
  · intro x0 ds h w0 O q
    rw [R19] at h
    obtain ⟨s0, s1, s2, h⟩ := h
    exact AtV.runN tabOk ext19Ok mixed (p19_0 x0) ⟨s0, s1, s2, trivial⟩ (ih3 _ _ _ _ h w0 O q)

  · intro v4 h0 x0 ds h w0 O q
    rw [R19_3] at h
    by_cases b0 : (Decidable.decide (v4 < (↑(List.length x0) : Int))) = true
    · rw [if_pos b0] at h
      obtain ⟨s0, s1, h⟩ := h
      obtain ⟨s2, s3, h⟩ := h
      obtain ⟨s4, h⟩ := h
      exact AtV.runN tabOk ext19Ok mixed (p19_1 v4 h0 x0) ⟨b0, s0, s1, trivial, s2, s3, s4, trivial⟩ (ih3 _ _ _ _ h w0 O q)
    · rw [if_neg b0] at h
      replace b0 := Bool.eq_false_iff.2 b0
      subst h
      exact AtV.fin Tryd.func19 tabOk ext19Ok mixed (p19_2 v4 h0 x0) ⟨b0, trivial⟩



theorem run19 (x0 : List (ByteArray × Int × Int × Int × Int × Unit)) (hm : x0.length ≤ maxLen) : ∀ (k i : Nat), i + k = x0.length →
    R19_3 (k + 1) (i : Int) (x0.take i ++ List.replicate k (ByteArray.empty, (0 : Int), (0 : Int), (0 : Int), (0 : Int), ())) x0 [⟨.sl (.cons .str (.cons (.int .i64) (.cons (.int .i64) (.cons (.int .i64) (.cons (.int .i64) .unit))))), x0⟩] := by
  intro k
  induction k with
  | zero =>
    intro i hi
    rw [R19_3, if_neg (by simp; omega), List.take_of_length_le (by omega)]
    simp
  | succ k ih =>
    intro i hi
    rw [R19_3, if_pos (by simp; omega)]
    simp only [Int.toNat_natCast]
    refine ⟨by omega, by omega, by omega, by simp; omega, inR_up hm (by omega), ?_⟩
    have hs := set_step x0 (ByteArray.empty, (0 : Int), (0 : Int), (0 : Int), (0 : Int), ()) i (by omega) (k + 1) (by omega)
    have he : ∀ y : (ByteArray × Int × Int × Int × Int × Unit), (y.1, y.2.1, y.2.2.1, y.2.2.2.1, y.2.2.2.2.1, ()) = y := fun _ => rfl
    rw [he, hs]
    exact ih (i + 1) (by omega)

def g19_0 (x0 : List (ByteArray × Int × Int × Int × Int × Unit)) : List (ByteArray × Int × Int × Int × Int × Unit) := x0
def P19 (x0 : List (ByteArray × Int × Int × Int × Int × Unit)) : Prop := 48 * (x0.length : Int) ≤ 281474976710656
def S19 : Am.Spec := { sig := sig19, pre := fun ⟨x0, _⟩ => P19 x0, res := fun ⟨x0, _⟩ => [⟨.sl (.cons .str (.cons (.int .i64) (.cons (.int .i64) (.cons (.int .i64) (.cons (.int .i64) .unit))))), g19_0 x0⟩] }
theorem con19 : Contract Tryd.prog 19 S19 := contract_of Tryd.func19 hb19 (Nat.le_of_ble_eq_true (by kernel_rfl)) (fun ⟨x0, _⟩ h hwf w0 O q => by
  refine (snd19 (x0.length + 2)).1 x0 _ ?_ w0 O q
  show R19 (x0.length + 1 + 1) x0 [⟨.sl (.cons .str (.cons (.int .i64) (.cons (.int .i64) (.cons (.int .i64) (.cons (.int .i64) .unit))))), x0⟩]
  rw [R19]
  refine ⟨by omega, by omega, h, ?_⟩
  have := run19 x0 hwf.1.1 x0.length 0 (by omega)
  simpa using this)

end Go.Proofs.YtakodkjcmacofaaDoor

/- Function 175 (spec.l01Small): its runs between cut points. Written by a program of this repo (gen). -/
set_option linter.unusedVariables false
set_option linter.unusedSimpArgs false
set_option maxRecDepth 100000
namespace Go.Proofs.YtakodkjcmacofaaDoor
open Go Go.Am Go.Proofs
def ext175 : Ext := []
theorem ext175Ok : ExtOk Tryd.prog ext175 := trivial
/-! Function 175. -/
noncomputable def b175 : Code := bodyOf Tryd.f175
theorem hb175 : Tryd.f175.body = some b175 := by kernel_rfl
def sig175 : List AT := [AT.v (Ty.int IntKind.u8)]
def tys175 : List Ty := [Ty.bool]
def P175 (x0 : Int) : Prop := True
def g175_0 (x0 : Int) : Bool := (if (Decidable.decide (x0 ≥ 97)) = true then Decidable.decide (x0 ≤ 122) else Bool.false)
theorem p175_0 (x0 : Int) : runF tab ext175 false 9 [] 2000 [] tys175 Tryd.f175.results [true] [.code b175] (entE 0 0 sig175 (x0, ())) (entL sig175 (x0, ())) = some ([Dyn.mk Ty.bool (Decidable.decide (x0 ≤ 122))], [], [Decidable.decide (x0 ≥ 97) = Bool.true]) := by kernel_rfl
theorem p175_1 (x0 : Int) : runF tab ext175 false 9 [] 2000 [] tys175 Tryd.f175.results [false] [.code b175] (entE 0 0 sig175 (x0, ())) (entL sig175 (x0, ())) = some ([Dyn.mk Ty.bool Bool.false], [], [Decidable.decide (x0 ≥ 97) = Bool.false]) := by kernel_rfl
theorem at175 (x0 : Int) (h : P175 x0) (w0 : World) (O : List Nat) (q : Nat → Value) : AtV Tryd.prog 175 (PostR [⟨Ty.bool, g175_0 x0⟩] [] [] q w0 O) 9 w0 O q [] [.code b175] (entE 0 0 sig175 (x0, ())) (entL sig175 (x0, ())) := by
  unfold P175 at h
  unfold g175_0
  by_cases b0 : (Decidable.decide (x0 ≥ 97)) = true
  · try simp only [if_pos b0] at h ⊢
    exact AtV.fin Tryd.func175 tabOk ext175Ok mixed (p175_0 x0) ⟨b0, trivial⟩
  · try simp only [if_neg b0] at h ⊢
    replace b0 := Bool.eq_false_iff.2 b0
    exact AtV.fin Tryd.func175 tabOk ext175Ok mixed (p175_1 x0) ⟨b0, trivial⟩

def S175 : Am.Spec := { sig := sig175, pre := fun ⟨x0, _⟩ => P175 x0, res := fun ⟨x0, _⟩ => [⟨Ty.bool, g175_0 x0⟩] }
theorem con175 : Contract Tryd.prog 175 S175 := contract_of Tryd.func175 hb175 (Nat.le_of_ble_eq_true (by kernel_rfl)) (fun ⟨x0, _⟩ h _ w0 O q => at175 x0 h w0 O q)


end Go.Proofs.YtakodkjcmacofaaDoor

/- Function 67 (spec.l01Digit): its runs between cut points. Written by a program of this repo (gen). -/
set_option linter.unusedVariables false
set_option linter.unusedSimpArgs false
set_option maxRecDepth 100000
namespace Go.Proofs.YtakodkjcmacofaaDoor
open Go Go.Am Go.Proofs
def ext67 : Ext := []
theorem ext67Ok : ExtOk Tryd.prog ext67 := trivial
/-! Function 67. -/
noncomputable def b67 : Code := bodyOf Tryd.f67
theorem hb67 : Tryd.f67.body = some b67 := by kernel_rfl
def sig67 : List AT := [AT.v (Ty.int IntKind.u8)]
def tys67 : List Ty := [Ty.bool]
def P67 (x0 : Int) : Prop := True
def g67_0 (x0 : Int) : Bool := (if (Decidable.decide (x0 ≥ 48)) = true then Decidable.decide (x0 ≤ 57) else Bool.false)
theorem p67_0 (x0 : Int) : runF tab ext67 false 9 [] 2000 [] tys67 Tryd.f67.results [true] [.code b67] (entE 0 0 sig67 (x0, ())) (entL sig67 (x0, ())) = some ([Dyn.mk Ty.bool (Decidable.decide (x0 ≤ 57))], [], [Decidable.decide (x0 ≥ 48) = Bool.true]) := by kernel_rfl
theorem p67_1 (x0 : Int) : runF tab ext67 false 9 [] 2000 [] tys67 Tryd.f67.results [false] [.code b67] (entE 0 0 sig67 (x0, ())) (entL sig67 (x0, ())) = some ([Dyn.mk Ty.bool Bool.false], [], [Decidable.decide (x0 ≥ 48) = Bool.false]) := by kernel_rfl
theorem at67 (x0 : Int) (h : P67 x0) (w0 : World) (O : List Nat) (q : Nat → Value) : AtV Tryd.prog 67 (PostR [⟨Ty.bool, g67_0 x0⟩] [] [] q w0 O) 9 w0 O q [] [.code b67] (entE 0 0 sig67 (x0, ())) (entL sig67 (x0, ())) := by
  unfold P67 at h
  unfold g67_0
  by_cases b0 : (Decidable.decide (x0 ≥ 48)) = true
  · try simp only [if_pos b0] at h ⊢
    exact AtV.fin Tryd.func67 tabOk ext67Ok mixed (p67_0 x0) ⟨b0, trivial⟩
  · try simp only [if_neg b0] at h ⊢
    replace b0 := Bool.eq_false_iff.2 b0
    exact AtV.fin Tryd.func67 tabOk ext67Ok mixed (p67_1 x0) ⟨b0, trivial⟩

def S67 : Am.Spec := { sig := sig67, pre := fun ⟨x0, _⟩ => P67 x0, res := fun ⟨x0, _⟩ => [⟨Ty.bool, g67_0 x0⟩] }
theorem con67 : Contract Tryd.prog 67 S67 := contract_of Tryd.func67 hb67 (Nat.le_of_ble_eq_true (by kernel_rfl)) (fun ⟨x0, _⟩ h _ w0 O q => at67 x0 h w0 O q)


end Go.Proofs.YtakodkjcmacofaaDoor

/- Function 148 (spec.l01Name): its runs between cut points. Written by a program of this repo (gen). -/
set_option linter.unusedVariables false
set_option linter.unusedSimpArgs false
set_option maxRecDepth 100000
namespace Go.Proofs.YtakodkjcmacofaaDoor
open Go Go.Am Go.Proofs
def ext148 : Ext := [(175, S175), (67, S67)]
theorem call148_175 : Callable Tryd.prog 175 := ⟨Tryd.f175, Tryd.func175, by kernel_rfl, by kernel_rfl⟩
theorem call148_67 : Callable Tryd.prog 67 := ⟨Tryd.f67, Tryd.func67, by kernel_rfl, by kernel_rfl⟩
theorem ext148Ok : ExtOk Tryd.prog ext148 := ⟨⟨call148_175, con175⟩, ⟨call148_67, con67⟩, trivial⟩
/-! Function 148. -/
noncomputable def b148 : Code := bodyOf Tryd.f148
theorem hb148 : Tryd.f148.body = some b148 := by kernel_rfl
def sig148 : List AT := [AT.v (Ty.str)]
def tys148 : List Ty := [Ty.bool]
def E148_4 (v3 : Int) (x0 : ByteArray) : Env := [(0, PV.a (Atom.val (Value.string x0))), (3, PV.a (Atom.val (Value.int IntKind.i64 v3)))]
def L148_4 (v3 : Int) (x0 : ByteArray) : Heap := []
mutual
def R148 : Nat → ByteArray → List Dyn → Prop
  | 0, _, _ => False
  | n + 1, x0, ds => (if (ByteArray.toList x0 == ByteArray.toList (ByteArray.mk #[])) = true then (ds = [Dyn.mk Ty.bool Bool.false]) else (if (Decidable.decide ((↑(ByteArray.size x0) : Int) > 10)) = true then (ds = [Dyn.mk Ty.bool Bool.false]) else ((0 < (↑(ByteArray.size x0) : Int)) ∧ (if (!g175_0 (↑(UInt8.toNat (List.getD (Array.toList (ByteArray.data x0)) 0 0)) : Int)) = true then (ds = [Dyn.mk Ty.bool Bool.false]) else (R148_4 n (0) (x0) ds)))))
def R148_4 : Nat → Int → ByteArray → List Dyn → Prop
  | 0, _, _, _ => False
  | n + 1, v3, x0, ds => (if (Decidable.decide (v3 < (↑(ByteArray.size x0) : Int))) = true then ((0 ≤ v3) ∧ (v3 < (↑(ByteArray.size x0) : Int)) ∧ (if (!g175_0 (↑(UInt8.toNat (List.getD (Array.toList (ByteArray.data x0)) (Int.toNat v3) 0)) : Int)) = true then ((0 ≤ v3) ∧ (v3 < (↑(ByteArray.size x0) : Int)) ∧ (if (!g67_0 (↑(UInt8.toNat (List.getD (Array.toList (ByteArray.data x0)) (Int.toNat v3) 0)) : Int)) = true then (ds = [Dyn.mk Ty.bool Bool.false]) else ((InR IntKind.i64 (v3 + 1)) ∧ (R148_4 n (v3 + 1) (x0) ds)))) else ((InR IntKind.i64 (v3 + 1)) ∧ (R148_4 n (v3 + 1) (x0) ds)))) else (ds = [Dyn.mk Ty.bool Bool.true]))
end
theorem p148_0 (x0 : ByteArray) : runF tab ext148 false 35 [] 2000 [] tys148 Tryd.f148.results [true, true, true] [.code b148] (entE 0 0 sig148 (x0, ())) (entL sig148 (x0, ())) = some ([Dyn.mk Ty.bool Bool.false], [], [(ByteArray.toList x0 == ByteArray.toList (ByteArray.mk #[])) = Bool.true, Bool.true = Bool.true, Bool.true = Bool.true]) := by kernel_rfl
theorem p148_1 (x0 : ByteArray) : runF tab ext148 false 35 [] 2000 [] tys148 Tryd.f148.results [false, true, true] [.code b148] (entE 0 0 sig148 (x0, ())) (entL sig148 (x0, ())) = some ([Dyn.mk Ty.bool Bool.false], [], [(ByteArray.toList x0 == ByteArray.toList (ByteArray.mk #[])) = Bool.false, Decidable.decide ((↑(ByteArray.size x0) : Int) > 10) = Bool.true, Bool.true = Bool.true]) := by kernel_rfl
theorem p148_2 (x0 : ByteArray) : runF tab ext148 false 35 [] 2000 [] tys148 Tryd.f148.results [false, false, true] [.code b148] (entE 0 0 sig148 (x0, ())) (entL sig148 (x0, ())) = some ([Dyn.mk Ty.bool Bool.false], [], [(ByteArray.toList x0 == ByteArray.toList (ByteArray.mk #[])) = Bool.false, Decidable.decide ((↑(ByteArray.size x0) : Int) > 10) = Bool.false, (0 : Int) ≤ (0 : Int), 0 < (↑(ByteArray.size x0) : Int), True, (!g175_0 (↑(UInt8.toNat (List.getD (Array.toList (ByteArray.data x0)) 0 0)) : Int)) = Bool.true]) := by kernel_rfl
theorem p148_3 (x0 : ByteArray) : Am.runN tab ext148 false 35 [] 2000 [] [] [0, 3] [] [false, false, false] [.code b148] (entE 0 0 sig148 (x0, ())) (entL sig148 (x0, ())) = some (cutAt b148 4, E148_4 (0) (x0), L148_4 (0) (x0), [(ByteArray.toList x0 == ByteArray.toList (ByteArray.mk #[])) = Bool.false, Decidable.decide ((↑(ByteArray.size x0) : Int) > 10) = Bool.false, (0 : Int) ≤ (0 : Int), 0 < (↑(ByteArray.size x0) : Int), True, (!g175_0 (↑(UInt8.toNat (List.getD (Array.toList (ByteArray.data x0)) 0 0)) : Int)) = Bool.false]) := by kernel_rfl
theorem p148_4 (v3 : Int) (x0 : ByteArray) : runF tab ext148 false 35 [] 2000 [] tys148 Tryd.f148.results [true, true, true] (cutAt b148 4) (E148_4 v3 x0) (L148_4 v3 x0) = some ([Dyn.mk Ty.bool Bool.false], [], [Decidable.decide (v3 < (↑(ByteArray.size x0) : Int)) = Bool.true, 0 ≤ v3, v3 < (↑(ByteArray.size x0) : Int), True, (!g175_0 (↑(UInt8.toNat (List.getD (Array.toList (ByteArray.data x0)) (Int.toNat v3) 0)) : Int)) = Bool.true, 0 ≤ v3, v3 < (↑(ByteArray.size x0) : Int), True, (!g67_0 (↑(UInt8.toNat (List.getD (Array.toList (ByteArray.data x0)) (Int.toNat v3) 0)) : Int)) = Bool.true]) := by kernel_rfl
theorem p148_5 (v3 : Int) (x0 : ByteArray) : Am.runN tab ext148 false 35 [] 2000 [] [] [0, 3] [] [true, true, false] (cutAt b148 4) (E148_4 v3 x0) (L148_4 v3 x0) = some (cutAt b148 4, E148_4 (v3 + 1) (x0), L148_4 (v3 + 1) (x0), [Decidable.decide (v3 < (↑(ByteArray.size x0) : Int)) = Bool.true, 0 ≤ v3, v3 < (↑(ByteArray.size x0) : Int), True, (!g175_0 (↑(UInt8.toNat (List.getD (Array.toList (ByteArray.data x0)) (Int.toNat v3) 0)) : Int)) = Bool.true, 0 ≤ v3, v3 < (↑(ByteArray.size x0) : Int), True, (!g67_0 (↑(UInt8.toNat (List.getD (Array.toList (ByteArray.data x0)) (Int.toNat v3) 0)) : Int)) = Bool.false, InR IntKind.i64 (v3 + 1)]) := by kernel_rfl
theorem p148_6 (v3 : Int) (x0 : ByteArray) : Am.runN tab ext148 false 35 [] 2000 [] [] [0, 3] [] [true, false, false] (cutAt b148 4) (E148_4 v3 x0) (L148_4 v3 x0) = some (cutAt b148 4, E148_4 (v3 + 1) (x0), L148_4 (v3 + 1) (x0), [Decidable.decide (v3 < (↑(ByteArray.size x0) : Int)) = Bool.true, 0 ≤ v3, v3 < (↑(ByteArray.size x0) : Int), True, (!g175_0 (↑(UInt8.toNat (List.getD (Array.toList (ByteArray.data x0)) (Int.toNat v3) 0)) : Int)) = Bool.false, Bool.false = Bool.false, InR IntKind.i64 (v3 + 1)]) := by kernel_rfl
theorem p148_7 (v3 : Int) (x0 : ByteArray) : runF tab ext148 false 35 [] 2000 [] tys148 Tryd.f148.results [false] (cutAt b148 4) (E148_4 v3 x0) (L148_4 v3 x0) = some ([Dyn.mk Ty.bool Bool.true], [], [Decidable.decide (v3 < (↑(ByteArray.size x0) : Int)) = Bool.false]) := by kernel_rfl
theorem snd148 : ∀ n, (∀ (x0 : ByteArray) ds, R148 n x0 ds → ∀ w0 O q, AtV Tryd.prog 148 (PostR ds [] [] q w0 O) 35 w0 O q [] [.code b148] (entE 0 0 sig148 (x0, ())) (entL sig148 (x0, ()))) ∧ (∀ (v3 : Int) (x0 : ByteArray) ds, R148_4 n v3 x0 ds → ∀ w0 O q, AtV Tryd.prog 148 (PostR ds [] [] q w0 O) 35 w0 O q [] (cutAt b148 4) (E148_4 v3 x0) (L148_4 v3 x0)) := by
  intro n
  induction n with
  | zero => exact ⟨fun _ _ h => by simp only [R148] at h, fun _ _ _ h => by simp only [R148_4] at h⟩
  | succ n ih =>
  obtain ⟨ih, ih4⟩ := ih
  refine ⟨?_, ?_⟩
  · intro x0 ds h w0 O q
    rw [R148] at h
    by_cases b0 : (ByteArray.toList x0 == ByteArray.toList (ByteArray.mk #[])) = true
    · rw [if_pos b0] at h
      subst h
      exact AtV.fin Tryd.func148 tabOk ext148Ok mixed (p148_0 x0) ⟨b0, rfl, rfl, trivial⟩
    · rw [if_neg b0] at h
      replace b0 := Bool.eq_false_iff.2 b0
      by_cases b1 : (Decidable.decide ((↑(ByteArray.size x0) : Int) > 10)) = true
      · rw [if_pos b1] at h
        subst h
        exact AtV.fin Tryd.func148 tabOk ext148Ok mixed (p148_1 x0) ⟨b0, b1, rfl, trivial⟩
      · rw [if_neg b1] at h
        replace b1 := Bool.eq_false_iff.2 b1
        obtain ⟨s0, h⟩ := h
        by_cases b2 : (!g175_0 (↑(UInt8.toNat (List.getD (Array.toList (ByteArray.data x0)) 0 0)) : Int)) = true
        · rw [if_pos b2] at h
          subst h
          exact AtV.fin Tryd.func148 tabOk ext148Ok mixed (p148_2 x0) ⟨b0, b1, (by decide), s0, trivial, b2, trivial⟩
        · rw [if_neg b2] at h
          replace b2 := Bool.eq_false_iff.2 b2
          exact AtV.runN tabOk ext148Ok mixed (p148_3 x0) ⟨b0, b1, (by decide), s0, trivial, b2, trivial⟩ (ih4 _ _ _ h w0 O q)

  · intro v3 x0 ds h w0 O q
    rw [R148_4] at h
    by_cases b0 : (Decidable.decide (v3 < (↑(ByteArray.size x0) : Int))) = true
    · rw [if_pos b0] at h
      obtain ⟨s0, s1, h⟩ := h
      by_cases b1 : (!g175_0 (↑(UInt8.toNat (List.getD (Array.toList (ByteArray.data x0)) (Int.toNat v3) 0)) : Int)) = true
      · rw [if_pos b1] at h
        obtain ⟨s2, s3, h⟩ := h
        by_cases b2 : (!g67_0 (↑(UInt8.toNat (List.getD (Array.toList (ByteArray.data x0)) (Int.toNat v3) 0)) : Int)) = true
        · rw [if_pos b2] at h
          subst h
          exact AtV.fin Tryd.func148 tabOk ext148Ok mixed (p148_4 v3 x0) ⟨b0, s0, s1, trivial, b1, s2, s3, trivial, b2, trivial⟩
        · rw [if_neg b2] at h
          replace b2 := Bool.eq_false_iff.2 b2
          obtain ⟨s4, h⟩ := h
          exact AtV.runN tabOk ext148Ok mixed (p148_5 v3 x0) ⟨b0, s0, s1, trivial, b1, s2, s3, trivial, b2, s4, trivial⟩ (ih4 _ _ _ h w0 O q)
      · rw [if_neg b1] at h
        replace b1 := Bool.eq_false_iff.2 b1
        obtain ⟨s2, h⟩ := h
        exact AtV.runN tabOk ext148Ok mixed (p148_6 v3 x0) ⟨b0, s0, s1, trivial, b1, rfl, s2, trivial⟩ (ih4 _ _ _ h w0 O q)
    · rw [if_neg b0] at h
      replace b0 := Bool.eq_false_iff.2 b0
      subst h
      exact AtV.fin Tryd.func148 tabOk ext148Ok mixed (p148_7 v3 x0) ⟨b0, trivial⟩



def g148_0 (x0 : ByteArray) : Bool := decide (1 ≤ x0.size) && decide (x0.size ≤ 10) && g175_0 ((bytesOf x0).getD 0 0) && (bytesOf x0).all fun b => g175_0 b || g67_0 b
def P148 (x0 : ByteArray) : Prop := True

theorem top148 (x0 : ByteArray) (hw : Wf .str x0) : R148 (x0.size + 1 + 1) x0 [⟨.bool, g148_0 x0⟩] := by
  have hl := bytesOf_length x0
  rw [R148]
  by_cases h0 : x0 = ByteArray.mk #[]
  · rw [if_pos ((bytes_eq _ _).2 h0)]
    subst h0
    rfl
  · rw [if_neg (fun h => h0 ((bytes_eq _ _).1 h))]
    have hs : 1 ≤ x0.size := by
      rcases Nat.lt_or_ge 0 x0.size with h | h
      · exact h
      · exact absurd (bytesOf_inj (s := x0) (t := ByteArray.mk #[]) (List.eq_nil_of_length_eq_zero (by rw [hl]; omega))) h0
    by_cases h1 : (x0.size : Int) > 10
    · rw [if_pos (by simpa using h1)]
      have : ¬ x0.size ≤ 10 := by omega
      simp [g148_0, this]
    · rw [if_neg (by simpa using h1)]
      refine ⟨by omega, ?_⟩
      rw [byte_get]
      cases h2 : g175_0 ((bytesOf x0).getD 0 0) with
      | false =>
        rw [if_pos (by simp)]
        simp [g148_0, h2, -List.getD_eq_getElem?_getD]
      | true =>
        rw [if_neg (by simp)]
        have key := loop_test (bytesOf x0) 0 (fun b => g175_0 b || g67_0 b) [(⟨.bool, false⟩ : Dyn)] [⟨.bool, true⟩] (fun n i ds => R148_4 n i x0 ds) (fun n => ?_) (fun n i hi hok ds hr => ?_) (fun n i hi hok => ?_)
        · rw [hl] at key
          have e : g148_0 x0 = (bytesOf x0).all fun b => g175_0 b || g67_0 b := by
            have : x0.size ≤ 10 := by omega
            unfold g148_0
            simp only [hs, this, decide_true, Bool.true_and, h2]
          rw [e]
          cases h : (bytesOf x0).all fun b => g175_0 b || g67_0 b with
          | true => rw [if_pos h] at key; exact key
          | false => rw [if_neg (by rw [h]; simp)] at key; exact key
        · show R148_4 (n + 1) ((bytesOf x0).length : Int) x0 _
          rw [R148_4, hl, if_neg (by simp)]
        · rw [R148_4, if_pos (by simp; omega)]
          simp only [Int.toNat_natCast, byte_get]
          generalize (bytesOf x0).getD i 0 = c at *
          refine ⟨by omega, by omega, ?_⟩
          have hu := inR_up (xs := bytesOf x0) (by rw [hl]; exact hw) hi
          cases h3 : g175_0 c with
          | true => rw [if_neg (by simp)]; exact ⟨hu, hr⟩
          | false =>
            rw [if_pos (by simp)]
            rw [h3, Bool.false_or] at hok
            refine ⟨by omega, by omega, ?_⟩
            rw [if_neg (by rw [hok]; simp)]
            exact ⟨hu, hr⟩
        · simp only [Bool.or_eq_false_iff] at hok
          rw [R148_4, if_pos (by simp; omega)]
          simp only [Int.toNat_natCast, byte_get]
          refine ⟨by omega, by omega, ?_⟩
          rw [if_pos (by rw [hok.1]; rfl)]
          refine ⟨by omega, by omega, ?_⟩
          rw [if_pos (by rw [hok.2]; rfl)] <;> trivial

def S148 : Am.Spec := { sig := sig148, pre := fun ⟨x0, _⟩ => P148 x0, res := fun ⟨x0, _⟩ => [⟨Ty.bool, g148_0 x0⟩] }
theorem con148 : Contract Tryd.prog 148 S148 := contract_of Tryd.func148 hb148 (Nat.le_of_ble_eq_true (by kernel_rfl)) (fun ⟨x0, _⟩ h hwf w0 O q =>
  (snd148 _).1 x0 _ (top148 x0 hwf.1) w0 O q)

end Go.Proofs.YtakodkjcmacofaaDoor

/- Function 124 (spec.l00In): its runs between cut points. Written by a program of this repo (gen). -/
set_option linter.unusedVariables false
set_option linter.unusedSimpArgs false
set_option maxRecDepth 100000
namespace Go.Proofs.YtakodkjcmacofaaDoor
open Go Go.Am Go.Proofs
def ext124 : Ext := []
theorem ext124Ok : ExtOk Tryd.prog ext124 := trivial
/-! Function 124. -/
noncomputable def b124 : Code := bodyOf Tryd.f124
theorem hb124 : Tryd.f124.body = some b124 := by kernel_rfl
def sig124 : List AT := [AT.v (Ty.int IntKind.i64), AT.v (Ty.int IntKind.i64), AT.v (Ty.int IntKind.i64)]
def tys124 : List Ty := [Ty.bool]
def P124 (x0 : Int) (x1 : Int) (x2 : Int) : Prop := True
def g124_0 (x0 : Int) (x1 : Int) (x2 : Int) : Bool := (if (Decidable.decide (x0 ≥ x1)) = true then Decidable.decide (x0 ≤ x2) else Bool.false)
theorem p124_0 (x0 : Int) (x1 : Int) (x2 : Int) : runF tab ext124 false 15 [] 2000 [] tys124 Tryd.f124.results [true] [.code b124] (entE 0 0 sig124 (x0, x1, x2, ())) (entL sig124 (x0, x1, x2, ())) = some ([Dyn.mk Ty.bool (Decidable.decide (x0 ≤ x2))], [], [Decidable.decide (x0 ≥ x1) = Bool.true]) := by kernel_rfl
theorem p124_1 (x0 : Int) (x1 : Int) (x2 : Int) : runF tab ext124 false 15 [] 2000 [] tys124 Tryd.f124.results [false] [.code b124] (entE 0 0 sig124 (x0, x1, x2, ())) (entL sig124 (x0, x1, x2, ())) = some ([Dyn.mk Ty.bool Bool.false], [], [Decidable.decide (x0 ≥ x1) = Bool.false]) := by kernel_rfl
theorem at124 (x0 : Int) (x1 : Int) (x2 : Int) (h : P124 x0 x1 x2) (w0 : World) (O : List Nat) (q : Nat → Value) : AtV Tryd.prog 124 (PostR [⟨Ty.bool, g124_0 x0 x1 x2⟩] [] [] q w0 O) 15 w0 O q [] [.code b124] (entE 0 0 sig124 (x0, x1, x2, ())) (entL sig124 (x0, x1, x2, ())) := by
  unfold P124 at h
  unfold g124_0
  by_cases b0 : (Decidable.decide (x0 ≥ x1)) = true
  · try simp only [if_pos b0] at h ⊢
    exact AtV.fin Tryd.func124 tabOk ext124Ok mixed (p124_0 x0 x1 x2) ⟨b0, trivial⟩
  · try simp only [if_neg b0] at h ⊢
    replace b0 := Bool.eq_false_iff.2 b0
    exact AtV.fin Tryd.func124 tabOk ext124Ok mixed (p124_1 x0 x1 x2) ⟨b0, trivial⟩

def S124 : Am.Spec := { sig := sig124, pre := fun ⟨x0, x1, x2, _⟩ => P124 x0 x1 x2, res := fun ⟨x0, x1, x2, _⟩ => [⟨Ty.bool, g124_0 x0 x1 x2⟩] }
theorem con124 : Contract Tryd.prog 124 S124 := contract_of Tryd.func124 hb124 (Nat.le_of_ble_eq_true (by kernel_rfl)) (fun ⟨x0, x1, x2, _⟩ h _ w0 O q => at124 x0 x1 x2 h w0 O q)


end Go.Proofs.YtakodkjcmacofaaDoor

/- Function 149 (spec.l21Day): its runs between cut points. Written by a program of this repo (gen). -/
set_option linter.unusedVariables false
set_option linter.unusedSimpArgs false
set_option maxRecDepth 100000
namespace Go.Proofs.YtakodkjcmacofaaDoor
open Go Go.Am Go.Proofs
def ext149 : Ext := [(124, S124)]
theorem call149_124 : Callable Tryd.prog 124 := ⟨Tryd.f124, Tryd.func124, by kernel_rfl, by kernel_rfl⟩
theorem ext149Ok : ExtOk Tryd.prog ext149 := ⟨⟨call149_124, con124⟩, trivial⟩
/-! Function 149. -/
noncomputable def b149 : Code := bodyOf Tryd.f149
theorem hb149 : Tryd.f149.body = some b149 := by kernel_rfl
def sig149 : List AT := [AT.v (Ty.int IntKind.i64)]
def tys149 : List Ty := [Ty.bool]
def P149 (x0 : Int) : Prop := True
def g149_0 (x0 : Int) : Bool := g124_0 x0 0 100000
theorem p149_0 (x0 : Int) : runF tab ext149 false 5 [] 2000 [] tys149 Tryd.f149.results [] [.code b149] (entE 0 0 sig149 (x0, ())) (entL sig149 (x0, ())) = some ([Dyn.mk Ty.bool (g124_0 x0 0 100000)], [], [True]) := by kernel_rfl
theorem at149 (x0 : Int) (h : P149 x0) (w0 : World) (O : List Nat) (q : Nat → Value) : AtV Tryd.prog 149 (PostR [⟨Ty.bool, g149_0 x0⟩] [] [] q w0 O) 5 w0 O q [] [.code b149] (entE 0 0 sig149 (x0, ())) (entL sig149 (x0, ())) := by
  unfold P149 at h
  unfold g149_0
  exact AtV.fin Tryd.func149 tabOk ext149Ok mixed (p149_0 x0) ⟨trivial, trivial⟩

def S149 : Am.Spec := { sig := sig149, pre := fun ⟨x0, _⟩ => P149 x0, res := fun ⟨x0, _⟩ => [⟨Ty.bool, g149_0 x0⟩] }
theorem con149 : Contract Tryd.prog 149 S149 := contract_of Tryd.func149 hb149 (Nat.le_of_ble_eq_true (by kernel_rfl)) (fun ⟨x0, _⟩ h _ w0 O q => at149 x0 h w0 O q)


end Go.Proofs.YtakodkjcmacofaaDoor

/- Function 150 (spec.l21Count): its runs between cut points. Written by a program of this repo (gen). -/
set_option linter.unusedVariables false
set_option linter.unusedSimpArgs false
set_option maxRecDepth 100000
namespace Go.Proofs.YtakodkjcmacofaaDoor
open Go Go.Am Go.Proofs
def ext150 : Ext := [(124, S124)]
theorem call150_124 : Callable Tryd.prog 124 := ⟨Tryd.f124, Tryd.func124, by kernel_rfl, by kernel_rfl⟩
theorem ext150Ok : ExtOk Tryd.prog ext150 := ⟨⟨call150_124, con124⟩, trivial⟩
/-! Function 150. -/
noncomputable def b150 : Code := bodyOf Tryd.f150
theorem hb150 : Tryd.f150.body = some b150 := by kernel_rfl
def sig150 : List AT := [AT.v (Ty.int IntKind.i64)]
def tys150 : List Ty := [Ty.bool]
def P150 (x0 : Int) : Prop := True
def g150_0 (x0 : Int) : Bool := g124_0 x0 0 1000000
theorem p150_0 (x0 : Int) : runF tab ext150 false 5 [] 2000 [] tys150 Tryd.f150.results [] [.code b150] (entE 0 0 sig150 (x0, ())) (entL sig150 (x0, ())) = some ([Dyn.mk Ty.bool (g124_0 x0 0 1000000)], [], [True]) := by kernel_rfl
theorem at150 (x0 : Int) (h : P150 x0) (w0 : World) (O : List Nat) (q : Nat → Value) : AtV Tryd.prog 150 (PostR [⟨Ty.bool, g150_0 x0⟩] [] [] q w0 O) 5 w0 O q [] [.code b150] (entE 0 0 sig150 (x0, ())) (entL sig150 (x0, ())) := by
  unfold P150 at h
  unfold g150_0
  exact AtV.fin Tryd.func150 tabOk ext150Ok mixed (p150_0 x0) ⟨trivial, trivial⟩

def S150 : Am.Spec := { sig := sig150, pre := fun ⟨x0, _⟩ => P150 x0, res := fun ⟨x0, _⟩ => [⟨Ty.bool, g150_0 x0⟩] }
theorem con150 : Contract Tryd.prog 150 S150 := contract_of Tryd.func150 hb150 (Nat.le_of_ble_eq_true (by kernel_rfl)) (fun ⟨x0, _⟩ h _ w0 O q => at150 x0 h w0 O q)


end Go.Proofs.YtakodkjcmacofaaDoor

/- Function 125 (spec.l21One): its runs between cut points. Written by a program of this repo (gen). -/
set_option linter.unusedVariables false
set_option linter.unusedSimpArgs false
set_option maxRecDepth 100000
namespace Go.Proofs.YtakodkjcmacofaaDoor
open Go Go.Am Go.Proofs
def ext125 : Ext := [(148, S148), (124, S124), (149, S149), (150, S150)]
theorem call125_148 : Callable Tryd.prog 148 := ⟨Tryd.f148, Tryd.func148, by kernel_rfl, by kernel_rfl⟩
theorem call125_124 : Callable Tryd.prog 124 := ⟨Tryd.f124, Tryd.func124, by kernel_rfl, by kernel_rfl⟩
theorem call125_149 : Callable Tryd.prog 149 := ⟨Tryd.f149, Tryd.func149, by kernel_rfl, by kernel_rfl⟩
theorem call125_150 : Callable Tryd.prog 150 := ⟨Tryd.f150, Tryd.func150, by kernel_rfl, by kernel_rfl⟩
theorem ext125Ok : ExtOk Tryd.prog ext125 := ⟨⟨call125_148, con148⟩, ⟨call125_124, con124⟩, ⟨call125_149, con149⟩, ⟨call125_150, con150⟩, trivial⟩
/-! Function 125. -/
noncomputable def b125 : Code := bodyOf Tryd.f125
theorem hb125 : Tryd.f125.body = some b125 := by kernel_rfl
def sig125 : List AT := [AT.p (Ty.cons Ty.str (Ty.cons (Ty.int IntKind.i64) (Ty.cons (Ty.int IntKind.i64) (Ty.cons (Ty.int IntKind.i64) (Ty.cons (Ty.int IntKind.i64) Ty.unit)))))]
def tys125 : List Ty := [Ty.bool]
def P125 (x0 : ByteArray × Int × Int × Int × Int × Unit) : Prop := True
def g125_0 (x0 : ByteArray × Int × Int × Int × Int × Unit) : Bool := (if (g148_0 (Prod.fst x0)) = true then (if (g124_0 (Prod.fst (Prod.snd x0)) 1 100000) = true then (if (g124_0 (Prod.fst (Prod.snd (Prod.snd x0))) 1 1000000) = true then (if (g149_0 (Prod.fst (Prod.snd (Prod.snd (Prod.snd x0))))) = true then g150_0 (Prod.fst (Prod.snd (Prod.snd (Prod.snd (Prod.snd x0))))) else Bool.false) else Bool.false) else Bool.false) else Bool.false)
theorem p125_0 (x0 : ByteArray × Int × Int × Int × Int × Unit) : runF tab ext125 false 36 [] 2000 [] tys125 Tryd.f125.results [true, true, true, true] [.code b125] (entE 0 0 sig125 (x0, ())) (entL sig125 (x0, ())) = some ([Dyn.mk Ty.bool (g150_0 (Prod.fst (Prod.snd (Prod.snd (Prod.snd (Prod.snd x0))))))], [], [True, g148_0 (Prod.fst x0) = Bool.true, True, g124_0 (Prod.fst (Prod.snd x0)) 1 100000 = Bool.true, True, g124_0 (Prod.fst (Prod.snd (Prod.snd x0))) 1 1000000 = Bool.true, True, g149_0 (Prod.fst (Prod.snd (Prod.snd (Prod.snd x0)))) = Bool.true, True]) := by kernel_rfl
theorem p125_1 (x0 : ByteArray × Int × Int × Int × Int × Unit) : runF tab ext125 false 36 [] 2000 [] tys125 Tryd.f125.results [true, true, true, false] [.code b125] (entE 0 0 sig125 (x0, ())) (entL sig125 (x0, ())) = some ([Dyn.mk Ty.bool Bool.false], [], [True, g148_0 (Prod.fst x0) = Bool.true, True, g124_0 (Prod.fst (Prod.snd x0)) 1 100000 = Bool.true, True, g124_0 (Prod.fst (Prod.snd (Prod.snd x0))) 1 1000000 = Bool.true, True, g149_0 (Prod.fst (Prod.snd (Prod.snd (Prod.snd x0)))) = Bool.false]) := by kernel_rfl
theorem p125_2 (x0 : ByteArray × Int × Int × Int × Int × Unit) : runF tab ext125 false 36 [] 2000 [] tys125 Tryd.f125.results [true, true, false, false] [.code b125] (entE 0 0 sig125 (x0, ())) (entL sig125 (x0, ())) = some ([Dyn.mk Ty.bool Bool.false], [], [True, g148_0 (Prod.fst x0) = Bool.true, True, g124_0 (Prod.fst (Prod.snd x0)) 1 100000 = Bool.true, True, g124_0 (Prod.fst (Prod.snd (Prod.snd x0))) 1 1000000 = Bool.false, Bool.false = Bool.false]) := by kernel_rfl
theorem p125_3 (x0 : ByteArray × Int × Int × Int × Int × Unit) : runF tab ext125 false 36 [] 2000 [] tys125 Tryd.f125.results [true, false, false, false] [.code b125] (entE 0 0 sig125 (x0, ())) (entL sig125 (x0, ())) = some ([Dyn.mk Ty.bool Bool.false], [], [True, g148_0 (Prod.fst x0) = Bool.true, True, g124_0 (Prod.fst (Prod.snd x0)) 1 100000 = Bool.false, Bool.false = Bool.false, Bool.false = Bool.false]) := by kernel_rfl
theorem p125_4 (x0 : ByteArray × Int × Int × Int × Int × Unit) : runF tab ext125 false 36 [] 2000 [] tys125 Tryd.f125.results [false, false, false, false] [.code b125] (entE 0 0 sig125 (x0, ())) (entL sig125 (x0, ())) = some ([Dyn.mk Ty.bool Bool.false], [], [True, g148_0 (Prod.fst x0) = Bool.false, Bool.false = Bool.false, Bool.false = Bool.false, Bool.false = Bool.false]) := by kernel_rfl
theorem at125 (x0 : ByteArray × Int × Int × Int × Int × Unit) (h : P125 x0) (w0 : World) (O : List Nat) (q : Nat → Value) : AtV Tryd.prog 125 (PostR [⟨Ty.bool, g125_0 x0⟩] [] [] q w0 O) 36 w0 O q [] [.code b125] (entE 0 0 sig125 (x0, ())) (entL sig125 (x0, ())) := by
  unfold P125 at h
  unfold g125_0
  by_cases b0 : (g148_0 (Prod.fst x0)) = true
  · try simp only [if_pos b0] at h ⊢
    by_cases b1 : (g124_0 (Prod.fst (Prod.snd x0)) 1 100000) = true
    · try simp only [if_pos b1] at h ⊢
      by_cases b2 : (g124_0 (Prod.fst (Prod.snd (Prod.snd x0))) 1 1000000) = true
      · try simp only [if_pos b2] at h ⊢
        by_cases b3 : (g149_0 (Prod.fst (Prod.snd (Prod.snd (Prod.snd x0))))) = true
        · try simp only [if_pos b3] at h ⊢
          exact AtV.fin Tryd.func125 tabOk ext125Ok mixed (p125_0 x0) ⟨trivial, b0, trivial, b1, trivial, b2, trivial, b3, trivial, trivial⟩
        · try simp only [if_neg b3] at h ⊢
          replace b3 := Bool.eq_false_iff.2 b3
          exact AtV.fin Tryd.func125 tabOk ext125Ok mixed (p125_1 x0) ⟨trivial, b0, trivial, b1, trivial, b2, trivial, b3, trivial⟩
      · try simp only [if_neg b2] at h ⊢
        replace b2 := Bool.eq_false_iff.2 b2
        exact AtV.fin Tryd.func125 tabOk ext125Ok mixed (p125_2 x0) ⟨trivial, b0, trivial, b1, trivial, b2, rfl, trivial⟩
    · try simp only [if_neg b1] at h ⊢
      replace b1 := Bool.eq_false_iff.2 b1
      exact AtV.fin Tryd.func125 tabOk ext125Ok mixed (p125_3 x0) ⟨trivial, b0, trivial, b1, rfl, rfl, trivial⟩
  · try simp only [if_neg b0] at h ⊢
    replace b0 := Bool.eq_false_iff.2 b0
    exact AtV.fin Tryd.func125 tabOk ext125Ok mixed (p125_4 x0) ⟨trivial, b0, rfl, rfl, rfl, trivial⟩

def S125 : Am.Spec := { sig := sig125, pre := fun ⟨x0, _⟩ => P125 x0, res := fun ⟨x0, _⟩ => [⟨Ty.bool, g125_0 x0⟩] }
theorem con125 : Contract Tryd.prog 125 S125 := contract_of Tryd.func125 hb125 (Nat.le_of_ble_eq_true (by kernel_rfl)) (fun ⟨x0, _⟩ h _ w0 O q => at125 x0 h w0 O q)


end Go.Proofs.YtakodkjcmacofaaDoor

/- Function 71 (spec.l21Ok): its runs between cut points. Written by a program of this repo (gen). -/
set_option linter.unusedVariables false
set_option linter.unusedSimpArgs false
set_option maxRecDepth 100000
namespace Go.Proofs.YtakodkjcmacofaaDoor
open Go Go.Am Go.Proofs
def ext71 : Ext := [(125, S125)]
theorem call71_125 : Callable Tryd.prog 125 := ⟨Tryd.f125, Tryd.func125, by kernel_rfl, by kernel_rfl⟩
theorem ext71Ok : ExtOk Tryd.prog ext71 := ⟨⟨call71_125, con125⟩, trivial⟩
/-! Function 71. -/
noncomputable def b71 : Code := bodyOf Tryd.f71
theorem hb71 : Tryd.f71.body = some b71 := by kernel_rfl
def sig71 : List AT := [AT.v (Ty.sl (Ty.cons Ty.str (Ty.cons (Ty.int IntKind.i64) (Ty.cons (Ty.int IntKind.i64) (Ty.cons (Ty.int IntKind.i64) (Ty.cons (Ty.int IntKind.i64) Ty.unit))))))]
def tys71 : List Ty := [Ty.bool]
def E71_2 (v3 : Int) (x0 : List (ByteArray × Int × Int × Int × Int × Unit)) : Env := [(0, PV.a (Atom.sl (Ty.cons Ty.str (Ty.cons (Ty.int IntKind.i64) (Ty.cons (Ty.int IntKind.i64) (Ty.cons (Ty.int IntKind.i64) (Ty.cons (Ty.int IntKind.i64) Ty.unit))))) x0)), (3, PV.a (Atom.val (Value.int IntKind.i64 v3)))]
def L71_2 (v3 : Int) (x0 : List (ByteArray × Int × Int × Int × Int × Unit)) : Heap := []
mutual
def R71 : Nat → List (ByteArray × Int × Int × Int × Int × Unit) → List Dyn → Prop
  | 0, _, _ => False
  | n + 1, x0, ds => (R71_2 n (0) (x0) ds)
def R71_2 : Nat → Int → List (ByteArray × Int × Int × Int × Int × Unit) → List Dyn → Prop
  | 0, _, _, _ => False
  | n + 1, v3, x0, ds => (if (Decidable.decide (v3 < (↑(List.length x0) : Int))) = true then ((0 ≤ v3) ∧ (v3 < (↑(List.length x0) : Int)) ∧ (if (!g125_0 (List.getD x0 (Int.toNat v3) (ByteArray.empty, 0, 0, 0, 0, ()))) = true then (ds = [Dyn.mk Ty.bool Bool.false]) else (if (Decidable.decide (v3 > 0)) = true then ((InR IntKind.i64 (v3 - 1)) ∧ ((0 ≤ v3 - 1) ∧ (v3 - 1 < (↑(List.length x0) : Int)) ∧ ((0 ≤ v3) ∧ (v3 < (↑(List.length x0) : Int)) ∧ (if (!Op.bytesLess (ByteArray.toList (Prod.fst (List.getD x0 (Int.toNat (v3 - 1)) (ByteArray.empty, 0, 0, 0, 0, ())))) (ByteArray.toList (Prod.fst (List.getD x0 (Int.toNat v3) (ByteArray.empty, 0, 0, 0, 0, ()))))) = true then (ds = [Dyn.mk Ty.bool Bool.false]) else ((InR IntKind.i64 (v3 + 1)) ∧ (R71_2 n (v3 + 1) (x0) ds)))))) else ((InR IntKind.i64 (v3 + 1)) ∧ (R71_2 n (v3 + 1) (x0) ds))))) else (ds = [Dyn.mk Ty.bool (Decidable.decide ((↑(List.length x0) : Int) ≤ 16))]))
end
theorem p71_0 (x0 : List (ByteArray × Int × Int × Int × Int × Unit)) : Am.runN tab ext71 false 36 [] 2000 [] [] [0, 3] [] [] [.code b71] (entE 0 0 sig71 (x0, ())) (entL sig71 (x0, ())) = some (cutAt b71 2, E71_2 (0) (x0), L71_2 (0) (x0), []) := by kernel_rfl
theorem p71_1 (v3 : Int) (x0 : List (ByteArray × Int × Int × Int × Int × Unit)) : runF tab ext71 false 36 [] 2000 [] tys71 Tryd.f71.results [true, true, true] (cutAt b71 2) (E71_2 v3 x0) (L71_2 v3 x0) = some ([Dyn.mk Ty.bool Bool.false], [], [Decidable.decide (v3 < (↑(List.length x0) : Int)) = Bool.true, 0 ≤ v3, v3 < (↑(List.length x0) : Int), True, (!g125_0 (List.getD x0 (Int.toNat v3) (ByteArray.empty, 0, 0, 0, 0, ()))) = Bool.true, Bool.true = Bool.true]) := by kernel_rfl
theorem p71_2 (v3 : Int) (x0 : List (ByteArray × Int × Int × Int × Int × Unit)) : runF tab ext71 false 36 [] 2000 [] tys71 Tryd.f71.results [true, false, true, true] (cutAt b71 2) (E71_2 v3 x0) (L71_2 v3 x0) = some ([Dyn.mk Ty.bool Bool.false], [], [Decidable.decide (v3 < (↑(List.length x0) : Int)) = Bool.true, 0 ≤ v3, v3 < (↑(List.length x0) : Int), True, (!g125_0 (List.getD x0 (Int.toNat v3) (ByteArray.empty, 0, 0, 0, 0, ()))) = Bool.false, Decidable.decide (v3 > 0) = Bool.true, InR IntKind.i64 (v3 - 1), 0 ≤ v3 - 1, v3 - 1 < (↑(List.length x0) : Int), 0 ≤ v3, v3 < (↑(List.length x0) : Int), (!Op.bytesLess (ByteArray.toList (Prod.fst (List.getD x0 (Int.toNat (v3 - 1)) (ByteArray.empty, 0, 0, 0, 0, ())))) (ByteArray.toList (Prod.fst (List.getD x0 (Int.toNat v3) (ByteArray.empty, 0, 0, 0, 0, ()))))) = Bool.true]) := by kernel_rfl
theorem p71_3 (v3 : Int) (x0 : List (ByteArray × Int × Int × Int × Int × Unit)) : Am.runN tab ext71 false 36 [] 2000 [] [] [0, 3] [] [true, false, true, false] (cutAt b71 2) (E71_2 v3 x0) (L71_2 v3 x0) = some (cutAt b71 2, E71_2 (v3 + 1) (x0), L71_2 (v3 + 1) (x0), [Decidable.decide (v3 < (↑(List.length x0) : Int)) = Bool.true, 0 ≤ v3, v3 < (↑(List.length x0) : Int), True, (!g125_0 (List.getD x0 (Int.toNat v3) (ByteArray.empty, 0, 0, 0, 0, ()))) = Bool.false, Decidable.decide (v3 > 0) = Bool.true, InR IntKind.i64 (v3 - 1), 0 ≤ v3 - 1, v3 - 1 < (↑(List.length x0) : Int), 0 ≤ v3, v3 < (↑(List.length x0) : Int), (!Op.bytesLess (ByteArray.toList (Prod.fst (List.getD x0 (Int.toNat (v3 - 1)) (ByteArray.empty, 0, 0, 0, 0, ())))) (ByteArray.toList (Prod.fst (List.getD x0 (Int.toNat v3) (ByteArray.empty, 0, 0, 0, 0, ()))))) = Bool.false, InR IntKind.i64 (v3 + 1)]) := by kernel_rfl
theorem p71_4 (v3 : Int) (x0 : List (ByteArray × Int × Int × Int × Int × Unit)) : Am.runN tab ext71 false 36 [] 2000 [] [] [0, 3] [] [true, false, false, false] (cutAt b71 2) (E71_2 v3 x0) (L71_2 v3 x0) = some (cutAt b71 2, E71_2 (v3 + 1) (x0), L71_2 (v3 + 1) (x0), [Decidable.decide (v3 < (↑(List.length x0) : Int)) = Bool.true, 0 ≤ v3, v3 < (↑(List.length x0) : Int), True, (!g125_0 (List.getD x0 (Int.toNat v3) (ByteArray.empty, 0, 0, 0, 0, ()))) = Bool.false, Decidable.decide (v3 > 0) = Bool.false, Bool.false = Bool.false, InR IntKind.i64 (v3 + 1)]) := by kernel_rfl
theorem p71_5 (v3 : Int) (x0 : List (ByteArray × Int × Int × Int × Int × Unit)) : runF tab ext71 false 36 [] 2000 [] tys71 Tryd.f71.results [false] (cutAt b71 2) (E71_2 v3 x0) (L71_2 v3 x0) = some ([Dyn.mk Ty.bool (Decidable.decide ((↑(List.length x0) : Int) ≤ 16))], [], [Decidable.decide (v3 < (↑(List.length x0) : Int)) = Bool.false]) := by kernel_rfl
theorem snd71 : ∀ n, (∀ (x0 : List (ByteArray × Int × Int × Int × Int × Unit)) ds, R71 n x0 ds → ∀ w0 O q, AtV Tryd.prog 71 (PostR ds [] [] q w0 O) 36 w0 O q [] [.code b71] (entE 0 0 sig71 (x0, ())) (entL sig71 (x0, ()))) ∧ (∀ (v3 : Int) (x0 : List (ByteArray × Int × Int × Int × Int × Unit)) ds, R71_2 n v3 x0 ds → ∀ w0 O q, AtV Tryd.prog 71 (PostR ds [] [] q w0 O) 36 w0 O q [] (cutAt b71 2) (E71_2 v3 x0) (L71_2 v3 x0)) := by
  intro n
  induction n with
  | zero => exact ⟨fun _ _ h => by simp only [R71] at h, fun _ _ _ h => by simp only [R71_2] at h⟩
  | succ n ih =>
  obtain ⟨ih, ih2⟩ := ih
  refine ⟨?_, ?_⟩
  · intro x0 ds h w0 O q
    rw [R71] at h
    exact AtV.runN tabOk ext71Ok mixed (p71_0 x0) trivial (ih2 _ _ _ h w0 O q)

  · intro v3 x0 ds h w0 O q
    rw [R71_2] at h
    by_cases b0 : (Decidable.decide (v3 < (↑(List.length x0) : Int))) = true
    · rw [if_pos b0] at h
      obtain ⟨s0, s1, h⟩ := h
      by_cases b1 : (!g125_0 (List.getD x0 (Int.toNat v3) (ByteArray.empty, 0, 0, 0, 0, ()))) = true
      · rw [if_pos b1] at h
        subst h
        exact AtV.fin Tryd.func71 tabOk ext71Ok mixed (p71_1 v3 x0) ⟨b0, s0, s1, trivial, b1, rfl, trivial⟩
      · rw [if_neg b1] at h
        replace b1 := Bool.eq_false_iff.2 b1
        by_cases b2 : (Decidable.decide (v3 > 0)) = true
        · rw [if_pos b2] at h
          obtain ⟨s2, h⟩ := h
          obtain ⟨s3, s4, h⟩ := h
          obtain ⟨s5, s6, h⟩ := h
          by_cases b3 : (!Op.bytesLess (ByteArray.toList (Prod.fst (List.getD x0 (Int.toNat (v3 - 1)) (ByteArray.empty, 0, 0, 0, 0, ())))) (ByteArray.toList (Prod.fst (List.getD x0 (Int.toNat v3) (ByteArray.empty, 0, 0, 0, 0, ()))))) = true
          · rw [if_pos b3] at h
            subst h
            exact AtV.fin Tryd.func71 tabOk ext71Ok mixed (p71_2 v3 x0) ⟨b0, s0, s1, trivial, b1, b2, s2, s3, s4, s5, s6, b3, trivial⟩
          · rw [if_neg b3] at h
            replace b3 := Bool.eq_false_iff.2 b3
            obtain ⟨s7, h⟩ := h
            exact AtV.runN tabOk ext71Ok mixed (p71_3 v3 x0) ⟨b0, s0, s1, trivial, b1, b2, s2, s3, s4, s5, s6, b3, s7, trivial⟩ (ih2 _ _ _ h w0 O q)
        · rw [if_neg b2] at h
          replace b2 := Bool.eq_false_iff.2 b2
          obtain ⟨s2, h⟩ := h
          exact AtV.runN tabOk ext71Ok mixed (p71_4 v3 x0) ⟨b0, s0, s1, trivial, b1, b2, rfl, s2, trivial⟩ (ih2 _ _ _ h w0 O q)
    · rw [if_neg b0] at h
      replace b0 := Bool.eq_false_iff.2 b0
      subst h
      exact AtV.fin Tryd.func71 tabOk ext71Ok mixed (p71_5 v3 x0) ⟨b0, trivial⟩



/-- An inspection at its place. -/
def ok71 (x0 : List (ByteArray × Int × Int × Int × Int × Unit)) (i : Nat) (x : (ByteArray × Int × Int × Int × Int × Unit)) : Bool :=
  g125_0 x && (i == 0 || Op.bytesLess (ByteArray.toList (x0.getD (i - 1) (ByteArray.empty, (0 : Int), (0 : Int), (0 : Int), (0 : Int), ())).1) (ByteArray.toList x.1))
def g71_0 (x0 : List (ByteArray × Int × Int × Int × Int × Unit)) : Bool := allI (ok71 x0) 0 x0 && decide (x0.length ≤ 16)
def P71 (x0 : List (ByteArray × Int × Int × Int × Int × Unit)) : Prop := True

theorem step71 (n i : Nat) (x0 : List (ByteArray × Int × Int × Int × Int × Unit)) (hm : x0.length ≤ maxLen) (hi : i < x0.length) (ds : List Dyn) :
    (if ok71 x0 i (x0.getD i (ByteArray.empty, (0 : Int), (0 : Int), (0 : Int), (0 : Int), ())) = true then R71_2 n ((i : Int) + 1) x0 ds else ds = [⟨.bool, false⟩]) → R71_2 (n + 1) (i : Int) x0 ds := by
  intro h
  have hu := inR_up hm hi
  rw [R71_2, if_pos (by simp; omega)]
  refine ⟨by omega, by omega, ?_⟩
  simp only [Int.toNat_natCast]
  unfold ok71 at h
  cases h1 : g125_0 (x0.getD i (ByteArray.empty, (0 : Int), (0 : Int), (0 : Int), (0 : Int), ())) with
  | false =>
    rw [h1] at h
    rw [if_pos (by rfl)]
    simpa using h
  | true =>
    rw [h1] at h
    rw [if_neg (by simp)]
    by_cases h0 : (i : Int) > 0
    · rw [if_pos (by simpa using h0)]
      have hi0 : (i == 0) = false := by simp; omega
      have e : ((i : Int) - 1).toNat = i - 1 := by omega
      refine ⟨by rw [i64_iff]; have : maxLen ≤ 9223372036854775807 := by decide
                 omega, by omega, by omega, by omega, by omega, ?_⟩
      rw [e]
      by_cases h2 : Op.bytesLess (ByteArray.toList (x0.getD (i - 1) (ByteArray.empty, (0 : Int), (0 : Int), (0 : Int), (0 : Int), ())).1) (ByteArray.toList (x0.getD i (ByteArray.empty, (0 : Int), (0 : Int), (0 : Int), (0 : Int), ())).1) = true
      · rw [h2, hi0] at h
        rw [if_neg (by rw [h2]; simp)]
        exact ⟨hu, by simpa using h⟩
      · have h2 := Bool.eq_false_iff.2 h2
        rw [h2, hi0] at h
        rw [if_pos (by rw [h2]; rfl)]
        simpa using h
    · rw [if_neg (by simpa using h0)]
      have hi0 : (i == 0) = true := by simp; omega
      rw [hi0] at h
      exact ⟨hu, by simpa using h⟩

theorem top71 (x0 : List (ByteArray × Int × Int × Int × Int × Unit)) (hw : x0.length ≤ maxLen) : R71 (x0.length + 1 + 1) x0 [⟨.bool, g71_0 x0⟩] := by
  rw [R71]
  have key := loop_testI x0 (ByteArray.empty, (0 : Int), (0 : Int), (0 : Int), (0 : Int), ()) (ok71 x0) [(⟨.bool, false⟩ : Dyn)] [⟨.bool, decide (x0.length ≤ 16)⟩] (fun n i ds => R71_2 n i x0 ds) (fun n => ?_) (fun n i hi hok ds hr => ?_) (fun n i hi hok => ?_)
  · unfold g71_0
    cases h : allI (ok71 x0) 0 x0 with
    | true => rw [if_pos h] at key; simpa using key
    | false => rw [if_neg (by rw [h]; simp)] at key; simpa using key
  · rw [R71_2, if_neg (by simp)]
    have hc : decide ((x0.length : Int) ≤ 16) = decide (x0.length ≤ 16) := by
      congr 1; exact propext ⟨fun h => by omega, fun h => by omega⟩
    rw [hc]
  · exact step71 n i x0 hw hi ds (by rw [if_pos hok]; exact hr)
  · exact step71 n i x0 hw hi _ (by rw [if_neg (by rw [hok]; simp)])

def S71 : Am.Spec := { sig := sig71, pre := fun ⟨x0, _⟩ => P71 x0, res := fun ⟨x0, _⟩ => [⟨Ty.bool, g71_0 x0⟩] }
theorem con71 : Contract Tryd.prog 71 S71 := contract_of Tryd.func71 hb71 (Nat.le_of_ble_eq_true (by kernel_rfl)) (fun ⟨x0, _⟩ h hwf w0 O q =>
  (snd71 _).1 x0 _ (top71 x0 hwf.1.1) w0 O q)

end Go.Proofs.YtakodkjcmacofaaDoor

/- Function 129 (spec.l01Dec): its runs between cut points. Written by a program of this repo (gen). -/
set_option linter.unusedVariables false
set_option linter.unusedSimpArgs false
set_option maxRecDepth 100000
namespace Go.Proofs.YtakodkjcmacofaaDoor
open Go Go.Am Go.Proofs
def ext129 : Ext := []
theorem ext129Ok : ExtOk Tryd.prog ext129 := trivial
/-! Function 129. -/
noncomputable def b129 : Code := bodyOf Tryd.f129
theorem hb129 : Tryd.f129.body = some b129 := by kernel_rfl
def sig129 : List AT := [AT.v (Ty.int IntKind.i64)]
def tys129 : List Ty := [Ty.str]
def E129_5 (v4 : Int) (h0 : List Int) (x0 : Int) : Env := [(0, PV.a (Atom.val (Value.int IntKind.i64 x0))), (3, PV.a (Atom.osl 0 Option.none)), (4, PV.a (Atom.val (Value.int IntKind.i64 v4)))]
def L129_5 (v4 : Int) (h0 : List Int) (x0 : Int) : Heap := [Option.some (Arr.mk (Ty.int IntKind.u8) h0 Bool.false)]
def E129_15 (v7 : Int) (h0 : List Int) (h1 : List Int) : Env := [(3, PV.a (Atom.osl 0 Option.none)), (6, PV.a (Atom.osl 1 Option.none)), (7, PV.a (Atom.val (Value.int IntKind.i64 v7)))]
def L129_15 (v7 : Int) (h0 : List Int) (h1 : List Int) : Heap := [Option.some (Arr.mk (Ty.int IntKind.u8) h0 Bool.false), Option.some (Arr.mk (Ty.int IntKind.u8) h1 Bool.false)]
mutual
def R129 : Nat → Int → List Dyn → Prop
  | 0, _, _ => False
  | n + 1, x0, ds => (if (x0 == 0) = true then (ds = [Dyn.mk Ty.str (ByteArray.mk #[48])]) else (R129_5 n (x0) ([]) (x0) ds))
def R129_5 : Nat → Int → List Int → Int → List Dyn → Prop
  | 0, _, _, _, _ => False
  | n + 1, v4, h0, x0, ds => (if (v4 != 0) = true then ((InR IntKind.i64 (Int.tmod v4 10)) ∧ (if (Decidable.decide (Int.tmod v4 10 < 0)) = true then ((InR IntKind.i64 (0 - Int.tmod v4 10)) ∧ ((InR IntKind.i64 (48 + (0 - Int.tmod v4 10))) ∧ ((InR IntKind.u8 (48 + (0 - Int.tmod v4 10))) ∧ (((List.length h0 + 1) * 1 ≤ 140737488355328) ∧ ((InR IntKind.i64 (Int.tdiv v4 10)) ∧ (R129_5 n (Int.tdiv v4 10) (h0 ++ [48 + (0 - Int.tmod v4 10)]) (x0) ds)))))) else ((InR IntKind.i64 (48 + Int.tmod v4 10)) ∧ ((InR IntKind.u8 (48 + Int.tmod v4 10)) ∧ (((List.length h0 + 1) * 1 ≤ 140737488355328) ∧ ((InR IntKind.i64 (Int.tdiv v4 10)) ∧ (R129_5 n (Int.tdiv v4 10) (h0 ++ [48 + Int.tmod v4 10]) (x0) ds))))))) else (if (Decidable.decide (x0 < 0)) = true then (((List.length h0 + 1) * 1 ≤ 140737488355328) ∧ ((InR IntKind.i64 ((↑(List.length (h0 ++ [45])) : Int) - 1)) ∧ (R129_15 n ((↑(List.length (h0 ++ [45])) : Int) - 1) (h0 ++ [45]) ([]) ds))) else ((InR IntKind.i64 ((↑(List.length h0) : Int) - 1)) ∧ (R129_15 n ((↑(List.length h0) : Int) - 1) (h0) ([]) ds))))
def R129_15 : Nat → Int → List Int → List Int → List Dyn → Prop
  | 0, _, _, _, _ => False
  | n + 1, v7, h0, h1, ds => (if (Decidable.decide (v7 ≥ 0)) = true then ((0 ≤ v7) ∧ (v7 < (↑(List.length h0) : Int)) ∧ (((List.length h1 + 1) * 1 ≤ 140737488355328) ∧ ((InR IntKind.i64 (v7 - 1)) ∧ (R129_15 n (v7 - 1) (h0) (h1 ++ [List.getD h0 (Int.toNat v7) 0]) ds)))) else (ds = [Dyn.mk Ty.str (bytesStr h1)]))
end
theorem p129_0 (x0 : Int) : runF tab ext129 false 50 [] 2000 [] tys129 Tryd.f129.results [true] [.code b129] (entE 0 0 sig129 (x0, ())) (entL sig129 (x0, ())) = some ([Dyn.mk Ty.str (ByteArray.mk #[48])], [], [(x0 == 0) = Bool.true]) := by kernel_rfl
theorem p129_1 (x0 : Int) : Am.runN tab ext129 false 50 [] 2000 [] [] [0, 3, 4] [0] [false] [.code b129] (entE 0 0 sig129 (x0, ())) (entL sig129 (x0, ())) = some (cutAt b129 5, E129_5 (x0) ([]) (x0), L129_5 (x0) ([]) (x0), [(x0 == 0) = Bool.false]) := by kernel_rfl
theorem p129_2 (v4 : Int) (h0 : List Int) (x0 : Int) : Am.runN tab ext129 false 50 [] 2000 [] [] [0, 3, 4] [0] [true, true] (cutAt b129 5) (E129_5 v4 h0 x0) (L129_5 v4 h0 x0) = some (cutAt b129 5, E129_5 (Int.tdiv v4 10) (h0 ++ [48 + (0 - Int.tmod v4 10)]) (x0), L129_5 (Int.tdiv v4 10) (h0 ++ [48 + (0 - Int.tmod v4 10)]) (x0), [(v4 != 0) = Bool.true, (10 : Int) ≠ (0 : Int), InR IntKind.i64 (Int.tmod v4 10), Decidable.decide (Int.tmod v4 10 < 0) = Bool.true, InR IntKind.i64 (0 - Int.tmod v4 10), InR IntKind.i64 (48 + (0 - Int.tmod v4 10)), InR IntKind.u8 (48 + (0 - Int.tmod v4 10)), (List.length h0 + 1) * 1 ≤ 140737488355328, (10 : Int) ≠ (0 : Int), InR IntKind.i64 (Int.tdiv v4 10)]) := by kernel_rfl
theorem p129_3 (v4 : Int) (h0 : List Int) (x0 : Int) : Am.runN tab ext129 false 50 [] 2000 [] [] [0, 3, 4] [0] [true, false] (cutAt b129 5) (E129_5 v4 h0 x0) (L129_5 v4 h0 x0) = some (cutAt b129 5, E129_5 (Int.tdiv v4 10) (h0 ++ [48 + Int.tmod v4 10]) (x0), L129_5 (Int.tdiv v4 10) (h0 ++ [48 + Int.tmod v4 10]) (x0), [(v4 != 0) = Bool.true, (10 : Int) ≠ (0 : Int), InR IntKind.i64 (Int.tmod v4 10), Decidable.decide (Int.tmod v4 10 < 0) = Bool.false, InR IntKind.i64 (48 + Int.tmod v4 10), InR IntKind.u8 (48 + Int.tmod v4 10), (List.length h0 + 1) * 1 ≤ 140737488355328, (10 : Int) ≠ (0 : Int), InR IntKind.i64 (Int.tdiv v4 10)]) := by kernel_rfl
theorem p129_4 (v4 : Int) (h0 : List Int) (x0 : Int) : Am.runN tab ext129 false 50 [] 2000 [] [] [3, 6, 7] [0, 2] [false, true] (cutAt b129 5) (E129_5 v4 h0 x0) (L129_5 v4 h0 x0) = some (cutAt b129 15, E129_15 ((↑(List.length (h0 ++ [45])) : Int) - 1) (h0 ++ [45]) ([]), L129_15 ((↑(List.length (h0 ++ [45])) : Int) - 1) (h0 ++ [45]) ([]), [(v4 != 0) = Bool.false, Decidable.decide (x0 < 0) = Bool.true, (List.length h0 + 1) * 1 ≤ 140737488355328, InR IntKind.i64 ((↑(List.length (h0 ++ [45])) : Int) - 1)]) := by kernel_rfl
theorem p129_5 (v4 : Int) (h0 : List Int) (x0 : Int) : Am.runN tab ext129 false 50 [] 2000 [] [] [3, 6, 7] [0, 1] [false, false] (cutAt b129 5) (E129_5 v4 h0 x0) (L129_5 v4 h0 x0) = some (cutAt b129 15, E129_15 ((↑(List.length h0) : Int) - 1) (h0) ([]), L129_15 ((↑(List.length h0) : Int) - 1) (h0) ([]), [(v4 != 0) = Bool.false, Decidable.decide (x0 < 0) = Bool.false, InR IntKind.i64 ((↑(List.length h0) : Int) - 1)]) := by kernel_rfl
theorem p129_6 (v7 : Int) (h0 : List Int) (h1 : List Int) : Am.runN tab ext129 false 50 [] 2000 [] [] [3, 6, 7] [0, 1] [true] (cutAt b129 15) (E129_15 v7 h0 h1) (L129_15 v7 h0 h1) = some (cutAt b129 15, E129_15 (v7 - 1) (h0) (h1 ++ [List.getD h0 (Int.toNat v7) 0]), L129_15 (v7 - 1) (h0) (h1 ++ [List.getD h0 (Int.toNat v7) 0]), [Decidable.decide (v7 ≥ 0) = Bool.true, 0 ≤ v7, v7 < (↑(List.length h0) : Int), (List.length h1 + 1) * 1 ≤ 140737488355328, InR IntKind.i64 (v7 - 1)]) := by kernel_rfl
theorem p129_7 (v7 : Int) (h0 : List Int) (h1 : List Int) : runF tab ext129 false 50 [] 2000 [] tys129 Tryd.f129.results [false] (cutAt b129 15) (E129_15 v7 h0 h1) (L129_15 v7 h0 h1) = some ([Dyn.mk Ty.str (bytesStr h1)], [], [Decidable.decide (v7 ≥ 0) = Bool.false]) := by kernel_rfl
theorem snd129 : ∀ n, (∀ (x0 : Int) ds, R129 n x0 ds → ∀ w0 O q, AtV Tryd.prog 129 (PostR ds [] [] q w0 O) 50 w0 O q [] [.code b129] (entE 0 0 sig129 (x0, ())) (entL sig129 (x0, ()))) ∧ (∀ (v4 : Int) (h0 : List Int) (x0 : Int) ds, R129_5 n v4 h0 x0 ds → ∀ w0 O q, AtV Tryd.prog 129 (PostR ds [] [] q w0 O) 50 w0 O q [] (cutAt b129 5) (E129_5 v4 h0 x0) (L129_5 v4 h0 x0)) ∧ (∀ (v7 : Int) (h0 : List Int) (h1 : List Int) ds, R129_15 n v7 h0 h1 ds → ∀ w0 O q, AtV Tryd.prog 129 (PostR ds [] [] q w0 O) 50 w0 O q [] (cutAt b129 15) (E129_15 v7 h0 h1) (L129_15 v7 h0 h1)) := by
  intro n
  induction n with
  | zero => exact ⟨fun _ _ h => by simp only [R129] at h, fun _ _ _ _ h => by simp only [R129_5] at h, fun _ _ _ _ h => by simp only [R129_15] at h⟩
  | succ n ih =>
  obtain ⟨ih, ih5, ih15⟩ := ih
  refine ⟨?_, ?_, ?_⟩
  · intro x0 ds h w0 O q
    rw [R129] at h
    by_cases b0 : (x0 == 0) = true
    · rw [if_pos b0] at h
      subst h
      exact AtV.fin Tryd.func129 tabOk ext129Ok mixed (p129_0 x0) ⟨b0, trivial⟩
    · rw [if_neg b0] at h
      replace b0 := Bool.eq_false_iff.2 b0
      exact AtV.runN tabOk ext129Ok mixed (p129_1 x0) ⟨b0, trivial⟩ (ih5 _ _ _ _ h w0 O q)

  · intro v4 h0 x0 ds h w0 O q
    rw [R129_5] at h
    by_cases b0 : (v4 != 0) = true
    · rw [if_pos b0] at h
      obtain ⟨s0, h⟩ := h
      by_cases b1 : (Decidable.decide (Int.tmod v4 10 < 0)) = true
      · rw [if_pos b1] at h
        obtain ⟨s1, h⟩ := h
        obtain ⟨s2, h⟩ := h
        obtain ⟨s3, h⟩ := h
        obtain ⟨s4, h⟩ := h
        obtain ⟨s5, h⟩ := h
        exact AtV.runN tabOk ext129Ok mixed (p129_2 v4 h0 x0) ⟨b0, (by decide), s0, b1, s1, s2, s3, s4, (by decide), s5, trivial⟩ (ih5 _ _ _ _ h w0 O q)
      · rw [if_neg b1] at h
        replace b1 := Bool.eq_false_iff.2 b1
        obtain ⟨s1, h⟩ := h
        obtain ⟨s2, h⟩ := h
        obtain ⟨s3, h⟩ := h
        obtain ⟨s4, h⟩ := h
        exact AtV.runN tabOk ext129Ok mixed (p129_3 v4 h0 x0) ⟨b0, (by decide), s0, b1, s1, s2, s3, (by decide), s4, trivial⟩ (ih5 _ _ _ _ h w0 O q)
    · rw [if_neg b0] at h
      replace b0 := Bool.eq_false_iff.2 b0
      by_cases b1 : (Decidable.decide (x0 < 0)) = true
      · rw [if_pos b1] at h
        obtain ⟨s0, h⟩ := h
        obtain ⟨s1, h⟩ := h
        exact AtV.runN tabOk ext129Ok mixed (p129_4 v4 h0 x0) ⟨b0, b1, s0, s1, trivial⟩ (ih15 _ _ _ _ h w0 O q)
      · rw [if_neg b1] at h
        replace b1 := Bool.eq_false_iff.2 b1
        obtain ⟨s0, h⟩ := h
        exact AtV.runN tabOk ext129Ok mixed (p129_5 v4 h0 x0) ⟨b0, b1, s0, trivial⟩ (ih15 _ _ _ _ h w0 O q)

  · intro v7 h0 h1 ds h w0 O q
    rw [R129_15] at h
    by_cases b0 : (Decidable.decide (v7 ≥ 0)) = true
    · rw [if_pos b0] at h
      obtain ⟨s0, s1, h⟩ := h
      obtain ⟨s2, h⟩ := h
      obtain ⟨s3, h⟩ := h
      exact AtV.runN tabOk ext129Ok mixed (p129_6 v7 h0 h1) ⟨b0, s0, s1, s2, s3, trivial⟩ (ih15 _ _ _ _ h w0 O q)
    · rw [if_neg b0] at h
      replace b0 := Bool.eq_false_iff.2 b0
      subst h
      exact AtV.fin Tryd.func129 tabOk ext129Ok mixed (p129_7 v7 h0 h1) ⟨b0, trivial⟩



def g129_0 (x0 : Int) : ByteArray := numB x0
def P129 (x0 : Int) : Prop := True

theorem bstr129 (xs : List Int) : bytesStr xs = ⟨⟨xs.map fun n => UInt8.ofNat n.toNat⟩⟩ := by
  have key : ∀ (xs : List Int) (s : ByteArray), (xs.foldl (fun r n => r.push (UInt8.ofNat n.toNat)) s).data.toList = s.data.toList ++ xs.map fun n => UInt8.ofNat n.toNat := by
    intro xs
    induction xs with
    | nil => intro s; simp
    | cons a r ih =>
      intro s
      rw [List.foldl_cons, ih]
      show (s.data.push _).toList ++ _ = _
      rw [Array.toList_push]
      simp
  apply ByteArray.ext
  apply Array.ext'
  have := key xs ByteArray.empty
  unfold bytesStr
  rw [this]
  rfl
theorem bstrB129 (l : List UInt8) : bytesStr (l.map fun b => (b.toNat : Int)) = ⟨⟨l⟩⟩ := by
  rw [bstr129, List.map_map]
  congr 2
  conv => rhs; rw [← List.map_id l]
  refine List.map_congr_left fun b _ => ?_
  show UInt8.ofNat ((b.toNat : Int)).toNat = b
  rw [Int.toNat_natCast, UInt8.ofNat_toNat]

/-- The digits, the last ahead. -/
def rd129 (m : Nat) : List Int := if h : m = 0 then [] else ((48 + m % 10 : Nat) : Int) :: rd129 (m / 10)
termination_by m
decreasing_by omega
theorem rd0129 : rd129 0 = [] := by rw [rd129, dif_pos rfl]
theorem rds129 {m : Nat} (h : m ≠ 0) : rd129 m = ((48 + m % 10 : Nat) : Int) :: rd129 (m / 10) := by rw [rd129, dif_neg h]
theorem rdl129 : ∀ (k m : Nat), m < 10 ^ k → (rd129 m).length ≤ k
  | 0, m, h => by obtain rfl : m = 0 := by simpa using h
                  rw [rd0129]; exact Nat.le_refl _
  | k + 1, m, h => by
    by_cases h0 : m = 0
    · rw [h0, rd0129]; exact Nat.zero_le _
    · rw [rds129 h0, List.length_cons]
      have := rdl129 k (m / 10) (by rw [Nat.pow_succ] at h; omega)
      omega
theorem rdd129 (m : Nat) (h : m ≠ 0) : bytesStr (rd129 m).reverse = ⟨⟨Lib.decDigits m⟩⟩ := by
  have key : ∀ m : Nat, m ≠ 0 → (rd129 m).reverse = (Lib.decDigits m).map fun b => (b.toNat : Int) := by
    intro m
    induction m using Nat.strongRecOn with
    | _ m ih =>
      intro h
      rw [rds129 h, List.reverse_cons, Lib.decDigits]
      have e : (UInt8.ofNat (48 + m % 10)).toNat = 48 + m % 10 := by rw [UInt8.toNat_ofNat']; omega
      split
      · rename_i hs
        rw [show m / 10 = 0 by omega, rd0129]
        have e' : (UInt8.ofNat (48 + m)).toNat = 48 + m % 10 := by rw [UInt8.toNat_ofNat']; omega
        rw [List.map_singleton, e']
        rfl
      · rw [ih (m / 10) (by omega) (by omega), List.map_append, List.map_singleton, e]
  rw [key m h]
  exact bstrB129 _

theorem back129 (h0 : List Int) : ∀ (j : Nat) (h1 : List Int), j ≤ h0.length → h1.length + j ≤ 64 → R129_15 (j + 1) ((j : Int) - 1) h0 h1 [⟨.str, bytesStr (h1 ++ (h0.take j).reverse)⟩]
  | 0, h1, _, _ => by
    rw [R129_15, if_neg (by decide)]
    simp
  | j + 1, h1, hj, hl => by
    have ih := back129 h0 j (h1 ++ [h0.getD j 0]) (by omega) (by rw [List.length_append, List.length_singleton]; omega)
    have e : ((j + 1 : Nat) : Int) - 1 = (j : Int) := by omega
    rw [R129_15, e, if_pos (by simp only [decide_eq_true_eq]; omega), Int.toNat_natCast]
    refine ⟨by omega, by omega, by omega, by rw [i64_iff]; omega, ?_⟩
    have et : (h0.take (j + 1)).reverse = h0.getD j 0 :: (h0.take j).reverse := by
      have hlt : j < h0.length := by omega
      rw [List.take_add_one, List.getElem?_eq_getElem hlt, List.reverse_append, List.getD_eq_getElem?_getD, List.getElem?_eq_getElem hlt]
      rfl
    rw [et]
    rw [List.append_assoc] at ih
    exact ih

/-- The last part, from the digits on. -/
theorem last129 (x0 : Int) (h0 : List Int) (hl : h0.length ≤ 20) : R129_5 ((if x0 < 0 then h0.length + 1 else h0.length) + 1 + 1) 0 h0 x0 [⟨.str, bytesStr ((if x0 < 0 then h0 ++ [45] else h0)).reverse⟩] := by
  rw [R129_5, if_neg (by decide)]
  by_cases hx : x0 < 0
  · have b := back129 (h0 ++ [45]) (h0.length + 1) [] (by rw [List.length_append, List.length_singleton]; omega) (by simp; omega)
    have e : (h0 ++ [(45 : Int)]).length = h0.length + 1 := by rw [List.length_append, List.length_singleton]
    rw [List.take_of_length_le (by omega)] at b
    simp only [hx, decide_true, if_true]
    rw [e]
    exact ⟨by omega, by rw [i64_iff]; omega, b⟩
  · have b := back129 h0 h0.length [] (Nat.le_refl _) (by simp; omega)
    rw [List.take_of_length_le (Nat.le_refl _)] at b
    simp only [hx, decide_false, Bool.false_eq_true, if_false]
    exact ⟨by rw [i64_iff]; omega, b⟩

theorem run129 (x0 : Int) (ds : List Dyn) (F : List Int) (K : Nat) (hF : R129_5 K 0 F x0 ds) : ∀ (m : Nat) (v : Int) (h0 : List Int), (v = (m : Int) ∨ v = -(m : Int)) → m ≤ 9223372036854775808 → InR .i64 v → h0.length + (rd129 m).length ≤ 20 → h0 ++ rd129 m = F → R129_5 ((rd129 m).length + K) v h0 x0 ds := by
  intro m
  induction m using Nat.strongRecOn with
  | _ m ih =>
    intro v h0 hv hm hi hl he
    by_cases h : m = 0
    · subst h
      obtain rfl : v = 0 := by omega
      rw [rd0129] at he ⊢
      rw [List.append_nil] at he
      rw [he, List.length_nil, Nat.zero_add]
      exact hF
    · have hr := rds129 h
      rw [hr] at he hl ⊢
      rw [List.length_cons] at hl ⊢
      have hne : (v != 0) = true := by
        have : v ≠ 0 := by omega
        simpa using this
      rw [i64_iff] at hi
      have e1 : (rd129 (m / 10)).length + 1 + K = ((rd129 (m / 10)).length + K) + 1 := by omega
      have next : ∀ v', (v' = ((m / 10 : Nat) : Int) ∨ v' = -((m / 10 : Nat) : Int)) → R129_5 ((rd129 (m / 10)).length + K) v' (h0 ++ [((48 + m % 10 : Nat) : Int)]) x0 ds := fun v' hv' =>
        ih (m / 10) (by omega) v' _ hv' (by omega) (by rw [i64_iff]; omega) (by rw [List.length_append, List.length_singleton]; omega) (by rw [List.append_assoc]; exact he)
      rw [e1, R129_5, if_pos hne]
      rcases hv with rfl | rfl
      · have t1 : Int.tmod (m : Int) 10 = ((m % 10 : Nat) : Int) := rfl
        have t2 : Int.tdiv (m : Int) 10 = ((m / 10 : Nat) : Int) := rfl
        rw [t1, t2]
        refine ⟨by rw [i64_iff]; omega, ?_⟩
        rw [if_neg (by simp only [decide_eq_true_eq]; omega)]
        have e2 : 48 + ((m % 10 : Nat) : Int) = ((48 + m % 10 : Nat) : Int) := by omega
        rw [e2]
        exact ⟨by rw [i64_iff]; omega, by rw [u8_iff]; omega, by omega, by rw [i64_iff]; omega, next _ (.inl rfl)⟩
      · have t1 : Int.tmod (-(m : Int)) 10 = -((m % 10 : Nat) : Int) := by rw [Int.neg_tmod]; rfl
        have t2 : Int.tdiv (-(m : Int)) 10 = -((m / 10 : Nat) : Int) := by rw [Int.neg_tdiv]; rfl
        rw [t1, t2]
        refine ⟨by rw [i64_iff]; omega, ?_⟩
        by_cases hz : m % 10 = 0
        · rw [if_neg (by simp only [decide_eq_true_eq]; omega)]
          have e2 : 48 + -((m % 10 : Nat) : Int) = ((48 + m % 10 : Nat) : Int) := by omega
          rw [e2]
          exact ⟨by rw [i64_iff]; omega, by rw [u8_iff]; omega, by omega, by rw [i64_iff]; omega, next _ (.inr rfl)⟩
        · rw [if_pos (by simp only [decide_eq_true_eq]; omega)]
          have e2 : 48 + (0 - -((m % 10 : Nat) : Int)) = ((48 + m % 10 : Nat) : Int) := by omega
          rw [e2]
          exact ⟨by rw [i64_iff]; omega, by rw [i64_iff]; omega, by rw [u8_iff]; omega, by omega, by rw [i64_iff]; omega, next _ (.inr rfl)⟩

theorem top129 (x0 : Int) (hi : InR .i64 x0) : ∃ n, R129 n x0 [⟨.str, g129_0 x0⟩] := by
  unfold g129_0 numB Lib.itoa
  by_cases h : x0 = 0
  · subst h
    refine ⟨1, ?_⟩
    rw [R129, if_pos (by rfl), if_neg (by decide)]
    have e : Lib.decDigits (Int.toNat 0) = [48] := by rw [Lib.decDigits, dif_pos (by decide)]; rfl
    rw [e]
  · have hi' := hi
    rw [i64_iff] at hi'
    have hn : x0.natAbs ≠ 0 := by omega
    have hl := rdl129 19 x0.natAbs (by omega)
    refine ⟨(rd129 x0.natAbs).length + ((if x0 < 0 then (rd129 x0.natAbs).length + 1 else (rd129 x0.natAbs).length) + 1 + 1) + 1, ?_⟩
    rw [R129, if_neg (by simpa using h)]
    have hlast := last129 x0 (rd129 x0.natAbs) (by omega)
    have hrun := run129 x0 _ (rd129 x0.natAbs) _ hlast x0.natAbs x0 [] (by omega) (by omega) hi (by simp; omega) rfl
    have e : bytesStr (if x0 < 0 then rd129 x0.natAbs ++ [45] else rd129 x0.natAbs).reverse = ⟨(if x0 < 0 then 45 :: Lib.decDigits x0.natAbs else Lib.decDigits x0.toNat).toArray⟩ := by
      by_cases hx : x0 < 0
      · rw [if_pos hx, if_pos hx, List.reverse_append]
        show bytesStr ((45 : Int) :: (rd129 x0.natAbs).reverse) = _
        have := rdd129 x0.natAbs hn
        have e0 : bytesStr ((45 : Int) :: (rd129 x0.natAbs).reverse) = ⟨⟨45 :: (bytesStr (rd129 x0.natAbs).reverse).data.toList⟩⟩ := by rw [bstr129, bstr129]; rfl
        rw [e0, this]
      · rw [if_neg hx, if_neg hx, rdd129 x0.natAbs hn, show x0.natAbs = x0.toNat by omega]
    rw [e] at hrun
    exact hrun

def S129 : Am.Spec := { sig := sig129, pre := fun ⟨x0, _⟩ => P129 x0, res := fun ⟨x0, _⟩ => [⟨.str, g129_0 x0⟩] }
theorem con129 : Contract Tryd.prog 129 S129 := contract_of Tryd.func129 hb129 (Nat.le_of_ble_eq_true (by kernel_rfl)) (fun ⟨x0, _⟩ h hwf w0 O q => by
  obtain ⟨n, hn⟩ := top129 x0 hwf.1
  exact (snd129 n).1 x0 _ hn w0 O q)

end Go.Proofs.YtakodkjcmacofaaDoor

/- Function 126 (spec.l01List): its runs between cut points. Written by a program of this repo (gen). -/
set_option linter.unusedVariables false
set_option linter.unusedSimpArgs false
set_option maxRecDepth 100000
namespace Go.Proofs.YtakodkjcmacofaaDoor
open Go Go.Am Go.Proofs
def ext126 : Ext := [(129, S129)]
theorem call126_129 : Callable Tryd.prog 129 := ⟨Tryd.f129, Tryd.func129, by kernel_rfl, by kernel_rfl⟩
theorem ext126Ok : ExtOk Tryd.prog ext126 := ⟨⟨call126_129, con129⟩, trivial⟩
/-! Function 126. -/
noncomputable def b126 : Code := bodyOf Tryd.f126
theorem hb126 : Tryd.f126.body = some b126 := by kernel_rfl
def sig126 : List AT := [AT.v (Ty.sl (Ty.int IntKind.i64))]
def tys126 : List Ty := [Ty.str]
def E126_5 (v3 : ByteArray) (v4 : Int) (x0 : List Int) : Env := [(0, PV.a (Atom.sl (Ty.int IntKind.i64) x0)), (3, PV.a (Atom.val (Value.string v3))), (4, PV.a (Atom.val (Value.int IntKind.i64 v4)))]
def L126_5 (v3 : ByteArray) (v4 : Int) (x0 : List Int) : Heap := []
mutual
def R126 : Nat → List Int → List Dyn → Prop
  | 0, _, _ => False
  | n + 1, x0, ds => (if ((↑(List.length x0) : Int) == 0) = true then (ds = [Dyn.mk Ty.str (ByteArray.mk #[45])]) else (R126_5 n (ByteArray.mk #[]) (0) (x0) ds))
def R126_5 : Nat → ByteArray → Int → List Int → List Dyn → Prop
  | 0, _, _, _, _ => False
  | n + 1, v3, v4, x0, ds => (if (Decidable.decide (v4 < (↑(List.length x0) : Int))) = true then (if (Decidable.decide (v4 > 0)) = true then ((ByteArray.size v3 + 1 ≤ 9223372036854775807) ∧ ((0 ≤ v4) ∧ (v4 < (↑(List.length x0) : Int)) ∧ ((ByteArray.size (v3 ++ ByteArray.mk #[44]) + ByteArray.size (g129_0 (List.getD x0 (Int.toNat v4) 0)) ≤ 9223372036854775807) ∧ ((InR IntKind.i64 (v4 + 1)) ∧ (R126_5 n (v3 ++ ByteArray.mk #[44] ++ g129_0 (List.getD x0 (Int.toNat v4) 0)) (v4 + 1) (x0) ds))))) else ((0 ≤ v4) ∧ (v4 < (↑(List.length x0) : Int)) ∧ ((ByteArray.size v3 + ByteArray.size (g129_0 (List.getD x0 (Int.toNat v4) 0)) ≤ 9223372036854775807) ∧ ((InR IntKind.i64 (v4 + 1)) ∧ (R126_5 n (v3 ++ g129_0 (List.getD x0 (Int.toNat v4) 0)) (v4 + 1) (x0) ds))))) else (ds = [Dyn.mk Ty.str v3]))
end
theorem p126_0 (x0 : List Int) : runF tab ext126 false 26 [] 2000 [] tys126 Tryd.f126.results [true] [.code b126] (entE 0 0 sig126 (x0, ())) (entL sig126 (x0, ())) = some ([Dyn.mk Ty.str (ByteArray.mk #[45])], [], [((↑(List.length x0) : Int) == 0) = Bool.true]) := by kernel_rfl
theorem p126_1 (x0 : List Int) : Am.runN tab ext126 false 26 [] 2000 [] [] [0, 3, 4] [] [false] [.code b126] (entE 0 0 sig126 (x0, ())) (entL sig126 (x0, ())) = some (cutAt b126 5, E126_5 (ByteArray.mk #[]) (0) (x0), L126_5 (ByteArray.mk #[]) (0) (x0), [((↑(List.length x0) : Int) == 0) = Bool.false]) := by kernel_rfl
theorem p126_2 (v3 : ByteArray) (v4 : Int) (x0 : List Int) : Am.runN tab ext126 false 26 [] 2000 [] [] [0, 3, 4] [] [true, true] (cutAt b126 5) (E126_5 v3 v4 x0) (L126_5 v3 v4 x0) = some (cutAt b126 5, E126_5 (v3 ++ ByteArray.mk #[44] ++ g129_0 (List.getD x0 (Int.toNat v4) 0)) (v4 + 1) (x0), L126_5 (v3 ++ ByteArray.mk #[44] ++ g129_0 (List.getD x0 (Int.toNat v4) 0)) (v4 + 1) (x0), [Decidable.decide (v4 < (↑(List.length x0) : Int)) = Bool.true, Decidable.decide (v4 > 0) = Bool.true, ByteArray.size v3 + 1 ≤ 9223372036854775807, 0 ≤ v4, v4 < (↑(List.length x0) : Int), True, ByteArray.size (v3 ++ ByteArray.mk #[44]) + ByteArray.size (g129_0 (List.getD x0 (Int.toNat v4) 0)) ≤ 9223372036854775807, InR IntKind.i64 (v4 + 1)]) := by kernel_rfl
theorem p126_3 (v3 : ByteArray) (v4 : Int) (x0 : List Int) : Am.runN tab ext126 false 26 [] 2000 [] [] [0, 3, 4] [] [true, false] (cutAt b126 5) (E126_5 v3 v4 x0) (L126_5 v3 v4 x0) = some (cutAt b126 5, E126_5 (v3 ++ g129_0 (List.getD x0 (Int.toNat v4) 0)) (v4 + 1) (x0), L126_5 (v3 ++ g129_0 (List.getD x0 (Int.toNat v4) 0)) (v4 + 1) (x0), [Decidable.decide (v4 < (↑(List.length x0) : Int)) = Bool.true, Decidable.decide (v4 > 0) = Bool.false, 0 ≤ v4, v4 < (↑(List.length x0) : Int), True, ByteArray.size v3 + ByteArray.size (g129_0 (List.getD x0 (Int.toNat v4) 0)) ≤ 9223372036854775807, InR IntKind.i64 (v4 + 1)]) := by kernel_rfl
theorem p126_4 (v3 : ByteArray) (v4 : Int) (x0 : List Int) : runF tab ext126 false 26 [] 2000 [] tys126 Tryd.f126.results [false] (cutAt b126 5) (E126_5 v3 v4 x0) (L126_5 v3 v4 x0) = some ([Dyn.mk Ty.str v3], [], [Decidable.decide (v4 < (↑(List.length x0) : Int)) = Bool.false]) := by kernel_rfl
theorem snd126 : ∀ n, (∀ (x0 : List Int) ds, R126 n x0 ds → ∀ w0 O q, AtV Tryd.prog 126 (PostR ds [] [] q w0 O) 26 w0 O q [] [.code b126] (entE 0 0 sig126 (x0, ())) (entL sig126 (x0, ()))) ∧ (∀ (v3 : ByteArray) (v4 : Int) (x0 : List Int) ds, R126_5 n v3 v4 x0 ds → ∀ w0 O q, AtV Tryd.prog 126 (PostR ds [] [] q w0 O) 26 w0 O q [] (cutAt b126 5) (E126_5 v3 v4 x0) (L126_5 v3 v4 x0)) := by
  intro n
  induction n with
  | zero => exact ⟨fun _ _ h => by simp only [R126] at h, fun _ _ _ _ h => by simp only [R126_5] at h⟩
  | succ n ih =>
  obtain ⟨ih, ih5⟩ := ih
  refine ⟨?_, ?_⟩
  · intro x0 ds h w0 O q
    rw [R126] at h
    by_cases b0 : ((↑(List.length x0) : Int) == 0) = true
    · rw [if_pos b0] at h
      subst h
      exact AtV.fin Tryd.func126 tabOk ext126Ok mixed (p126_0 x0) ⟨b0, trivial⟩
    · rw [if_neg b0] at h
      replace b0 := Bool.eq_false_iff.2 b0
      exact AtV.runN tabOk ext126Ok mixed (p126_1 x0) ⟨b0, trivial⟩ (ih5 _ _ _ _ h w0 O q)

  · intro v3 v4 x0 ds h w0 O q
    rw [R126_5] at h
    by_cases b0 : (Decidable.decide (v4 < (↑(List.length x0) : Int))) = true
    · rw [if_pos b0] at h
      by_cases b1 : (Decidable.decide (v4 > 0)) = true
      · rw [if_pos b1] at h
        obtain ⟨s0, h⟩ := h
        obtain ⟨s1, s2, h⟩ := h
        obtain ⟨s3, h⟩ := h
        obtain ⟨s4, h⟩ := h
        exact AtV.runN tabOk ext126Ok mixed (p126_2 v3 v4 x0) ⟨b0, b1, s0, s1, s2, trivial, s3, s4, trivial⟩ (ih5 _ _ _ _ h w0 O q)
      · rw [if_neg b1] at h
        replace b1 := Bool.eq_false_iff.2 b1
        obtain ⟨s0, s1, h⟩ := h
        obtain ⟨s2, h⟩ := h
        obtain ⟨s3, h⟩ := h
        exact AtV.runN tabOk ext126Ok mixed (p126_3 v3 v4 x0) ⟨b0, b1, s0, s1, trivial, s2, s3, trivial⟩ (ih5 _ _ _ _ h w0 O q)
    · rw [if_neg b0] at h
      replace b0 := Bool.eq_false_iff.2 b0
      subst h
      exact AtV.fin Tryd.func126 tabOk ext126Ok mixed (p126_4 v3 v4 x0) ⟨b0, trivial⟩



def ap126 : Nat → ByteArray → List Int → ByteArray
  | _, o, [] => o
  | i, o, x :: r => ap126 (i + 1) ((if 0 < i then o ++ ByteArray.mk #[44] else o) ++ g129_0 x) r
def g126_0 (x0 : List Int) : ByteArray := if x0.length = 0 then ByteArray.mk #[45] else ap126 0 (ByteArray.mk #[]) x0
def P126 (x0 : List Int) : Prop := x0.length ≤ 1000 ∧ ∀ x ∈ x0, InR .i64 x

theorem run126 (x0 : List Int) (hm : x0.length ≤ 1000) (hx : ∀ x ∈ x0, InR .i64 x) : ∀ (k i : Nat) (o : ByteArray), i + k = x0.length → o.size ≤ 22 * i →
    R126_5 (k + 1) o (i : Int) x0 [⟨.str, ap126 i o (x0.drop i)⟩] := by
  intro k
  induction k with
  | zero =>
    intro i o hi ho
    rw [R126_5, if_neg (by simp; omega), drop_end x0 i (by omega)]
    rfl
  | succ k ih =>
    intro i o hi ho
    have hlt : i < x0.length := by omega
    have hr := hx (x0.getD i 0) (mem_getD x0 i 0 hlt)
    have hup : InR .i64 ((i : Int) + 1) := inR_up (xs := x0) (by unfold maxLen; omega) hlt
    rw [i64_iff] at hr
    have hs : (g129_0 (x0.getD i 0)).size ≤ 21 := numB_size _ (by omega) (by omega)
    rw [R126_5, if_pos (by simp; omega), drop_get x0 i 0 hlt]
    simp only [Int.toNat_natCast]
    unfold ap126
    have i44 : (ByteArray.mk #[44]).size = 1 := rfl
    by_cases h0 : 0 < i
    · rw [if_pos (by simp; omega), if_pos h0]
      have hs1 : (o ++ ByteArray.mk #[44]).size = o.size + 1 := by rw [ByteArray.size_append, i44]
      refine ⟨by omega, by omega, by omega, by rw [hs1]; omega, hup, ?_⟩
      exact ih (i + 1) _ (by omega) (by rw [ByteArray.size_append, hs1]; omega)
    · rw [if_neg (by simp; omega), if_neg h0]
      refine ⟨by omega, by omega, by omega, hup, ?_⟩
      exact ih (i + 1) _ (by omega) (by rw [ByteArray.size_append]; omega)

theorem top126 (x0 : List Int) (h : P126 x0) : R126 (x0.length + 1 + 1) x0 [⟨.str, g126_0 x0⟩] := by
  rw [R126]
  unfold g126_0
  by_cases h0 : x0.length = 0
  · rw [if_pos (by simp [h0]), if_pos h0]
  · rw [if_neg (by simp only [beq_iff_eq]; omega), if_neg h0]
    exact run126 x0 h.1 h.2 x0.length 0 (ByteArray.mk #[]) (by omega) (by decide)

def S126 : Am.Spec := { sig := sig126, pre := fun ⟨x0, _⟩ => P126 x0, res := fun ⟨x0, _⟩ => [⟨Ty.str, g126_0 x0⟩] }
theorem con126 : Contract Tryd.prog 126 S126 := contract_of Tryd.func126 hb126 (Nat.le_of_ble_eq_true (by kernel_rfl)) (fun ⟨x0, _⟩ h hwf w0 O q =>
  (snd126 _).1 x0 _ (top126 x0 h) w0 O q)

end Go.Proofs.YtakodkjcmacofaaDoor

/- Function 72 (spec.l21Text): its runs between cut points. Written by a program of this repo (gen). -/
set_option linter.unusedVariables false
set_option linter.unusedSimpArgs false
set_option maxRecDepth 100000
namespace Go.Proofs.YtakodkjcmacofaaDoor
open Go Go.Am Go.Proofs
def ext72 : Ext := [(126, S126)]
theorem call72_126 : Callable Tryd.prog 126 := ⟨Tryd.f126, Tryd.func126, by kernel_rfl, by kernel_rfl⟩
theorem ext72Ok : ExtOk Tryd.prog ext72 := ⟨⟨call72_126, con126⟩, trivial⟩
/-! Function 72. -/
noncomputable def b72 : Code := bodyOf Tryd.f72
theorem hb72 : Tryd.f72.body = some b72 := by kernel_rfl
def sig72 : List AT := [AT.p (Ty.cons Ty.str (Ty.cons (Ty.int IntKind.i64) (Ty.cons (Ty.int IntKind.i64) (Ty.cons (Ty.int IntKind.i64) (Ty.cons (Ty.int IntKind.i64) Ty.unit)))))]
def tys72 : List Ty := [Ty.str]
def P72 (x0 : ByteArray × Int × Int × Int × Int × Unit) : Prop := ((ByteArray.size (Prod.fst x0) + 1 ≤ 9223372036854775807) ∧ ((P126 [Prod.fst (Prod.snd x0), Prod.fst (Prod.snd (Prod.snd x0)), Prod.fst (Prod.snd (Prod.snd (Prod.snd x0))), Prod.fst (Prod.snd (Prod.snd (Prod.snd (Prod.snd x0))))]) ∧ ((ByteArray.size (Prod.fst x0 ++ ByteArray.mk #[32]) + ByteArray.size (g126_0 [Prod.fst (Prod.snd x0), Prod.fst (Prod.snd (Prod.snd x0)), Prod.fst (Prod.snd (Prod.snd (Prod.snd x0))), Prod.fst (Prod.snd (Prod.snd (Prod.snd (Prod.snd x0))))]) ≤ 9223372036854775807) ∧ True)))
def g72_0 (x0 : ByteArray × Int × Int × Int × Int × Unit) : ByteArray := Prod.fst x0 ++ ByteArray.mk #[32] ++ g126_0 [Prod.fst (Prod.snd x0), Prod.fst (Prod.snd (Prod.snd x0)), Prod.fst (Prod.snd (Prod.snd (Prod.snd x0))), Prod.fst (Prod.snd (Prod.snd (Prod.snd (Prod.snd x0))))]
theorem p72_0 (x0 : ByteArray × Int × Int × Int × Int × Unit) : runF tab ext72 false 27 [] 2000 [] tys72 Tryd.f72.results [] [.code b72] (entE 0 0 sig72 (x0, ())) (entL sig72 (x0, ())) = some ([Dyn.mk Ty.str (Prod.fst x0 ++ ByteArray.mk #[32] ++ g126_0 [Prod.fst (Prod.snd x0), Prod.fst (Prod.snd (Prod.snd x0)), Prod.fst (Prod.snd (Prod.snd (Prod.snd x0))), Prod.fst (Prod.snd (Prod.snd (Prod.snd (Prod.snd x0))))])], [], [ByteArray.size (Prod.fst x0) + 1 ≤ 9223372036854775807, P126 [Prod.fst (Prod.snd x0), Prod.fst (Prod.snd (Prod.snd x0)), Prod.fst (Prod.snd (Prod.snd (Prod.snd x0))), Prod.fst (Prod.snd (Prod.snd (Prod.snd (Prod.snd x0))))], ByteArray.size (Prod.fst x0 ++ ByteArray.mk #[32]) + ByteArray.size (g126_0 [Prod.fst (Prod.snd x0), Prod.fst (Prod.snd (Prod.snd x0)), Prod.fst (Prod.snd (Prod.snd (Prod.snd x0))), Prod.fst (Prod.snd (Prod.snd (Prod.snd (Prod.snd x0))))]) ≤ 9223372036854775807]) := by kernel_rfl
theorem at72 (x0 : ByteArray × Int × Int × Int × Int × Unit) (h : P72 x0) (w0 : World) (O : List Nat) (q : Nat → Value) : AtV Tryd.prog 72 (PostR [⟨Ty.str, g72_0 x0⟩] [] [] q w0 O) 27 w0 O q [] [.code b72] (entE 0 0 sig72 (x0, ())) (entL sig72 (x0, ())) := by
  unfold P72 at h
  unfold g72_0
  obtain ⟨s0, h⟩ := h
  obtain ⟨s1, h⟩ := h
  obtain ⟨s2, h⟩ := h
  exact AtV.fin Tryd.func72 tabOk ext72Ok mixed (p72_0 x0) ⟨s0, s1, s2, trivial⟩

def S72 : Am.Spec := { sig := sig72, pre := fun ⟨x0, _⟩ => P72 x0, res := fun ⟨x0, _⟩ => [⟨Ty.str, g72_0 x0⟩] }
theorem con72 : Contract Tryd.prog 72 S72 := contract_of Tryd.func72 hb72 (Nat.le_of_ble_eq_true (by kernel_rfl)) (fun ⟨x0, _⟩ h _ w0 O q => at72 x0 h w0 O q)


end Go.Proofs.YtakodkjcmacofaaDoor

/- Function 18 (spec.BlocksOfChecks): its runs between cut points. Written by a program of this repo (gen). -/
set_option linter.unusedVariables false
set_option linter.unusedSimpArgs false
set_option maxRecDepth 100000
namespace Go.Proofs.YtakodkjcmacofaaDoor
open Go Go.Am Go.Proofs
def ext18 : Ext := [(71, S71), (72, S72)]
theorem call18_71 : Callable Tryd.prog 71 := ⟨Tryd.f71, Tryd.func71, by kernel_rfl, by kernel_rfl⟩
theorem call18_72 : Callable Tryd.prog 72 := ⟨Tryd.f72, Tryd.func72, by kernel_rfl, by kernel_rfl⟩
theorem ext18Ok : ExtOk Tryd.prog ext18 := ⟨⟨call18_71, con71⟩, ⟨call18_72, con72⟩, trivial⟩
/-! Function 18. -/
noncomputable def b18 : Code := bodyOf Tryd.f18
theorem hb18 : Tryd.f18.body = some b18 := by kernel_rfl
def sig18 : List AT := [AT.v (Ty.sl (Ty.cons Ty.str (Ty.cons (Ty.int IntKind.i64) (Ty.cons (Ty.int IntKind.i64) (Ty.cons (Ty.int IntKind.i64) (Ty.cons (Ty.int IntKind.i64) Ty.unit))))))]
def tys18 : List Ty := [Ty.sl (Ty.cons Ty.str (Ty.cons Ty.str (Ty.cons Ty.str Ty.unit))), Ty.int IntKind.i64]
def E18_5 (v5 : Int) (h0 : List (ByteArray × ByteArray × ByteArray × Unit)) (x0 : List (ByteArray × Int × Int × Int × Int × Unit)) : Env := [(0, PV.a (Atom.sl (Ty.cons Ty.str (Ty.cons (Ty.int IntKind.i64) (Ty.cons (Ty.int IntKind.i64) (Ty.cons (Ty.int IntKind.i64) (Ty.cons (Ty.int IntKind.i64) Ty.unit))))) x0)), (4, PV.a (Atom.osl 0 Option.none)), (5, PV.a (Atom.val (Value.int IntKind.i64 v5)))]
def L18_5 (v5 : Int) (h0 : List (ByteArray × ByteArray × ByteArray × Unit)) (x0 : List (ByteArray × Int × Int × Int × Int × Unit)) : Heap := [Option.some (Arr.mk (Ty.cons Ty.str (Ty.cons Ty.str (Ty.cons Ty.str Ty.unit))) h0 Bool.false)]
mutual
def R18 : Nat → List (ByteArray × Int × Int × Int × Int × Unit) → List Dyn → Prop
  | 0, _, _ => False
  | n + 1, x0, ds => (if (!g71_0 x0) = true then (ds = [Dyn.mk (Ty.sl (Ty.cons Ty.str (Ty.cons Ty.str (Ty.cons Ty.str Ty.unit)))) [], Dyn.mk (Ty.int IntKind.i64) 1]) else (R18_5 n (0) ([]) (x0) ds))
def R18_5 : Nat → Int → List (ByteArray × ByteArray × ByteArray × Unit) → List (ByteArray × Int × Int × Int × Int × Unit) → List Dyn → Prop
  | 0, _, _, _, _ => False
  | n + 1, v5, h0, x0, ds => (if (Decidable.decide (v5 < (↑(List.length x0) : Int))) = true then ((0 ≤ v5) ∧ (v5 < (↑(List.length x0) : Int)) ∧ ((0 ≤ v5) ∧ (v5 < (↑(List.length x0) : Int)) ∧ ((P72 (List.getD x0 (Int.toNat v5) (ByteArray.empty, 0, 0, 0, 0, ()))) ∧ (((List.length h0 + 1) * 48 ≤ 140737488355328) ∧ ((InR IntKind.i64 (v5 + 1)) ∧ (R18_5 n (v5 + 1) (h0 ++ [(ByteArray.mk #[99, 104, 101, 99, 107], Prod.fst (List.getD x0 (Int.toNat v5) (ByteArray.empty, 0, 0, 0, 0, ())), g72_0 (List.getD x0 (Int.toNat v5) (ByteArray.empty, 0, 0, 0, 0, ())), ())]) (x0) ds)))))) else (ds = [Dyn.mk (Ty.sl (Ty.cons Ty.str (Ty.cons Ty.str (Ty.cons Ty.str Ty.unit)))) h0, Dyn.mk (Ty.int IntKind.i64) 0]))
end
theorem p18_0 (x0 : List (ByteArray × Int × Int × Int × Int × Unit)) : runF tab ext18 false 30 [] 2000 [] tys18 Tryd.f18.results [true] [.code b18] (entE 0 0 sig18 (x0, ())) (entL sig18 (x0, ())) = some ([Dyn.mk (Ty.sl (Ty.cons Ty.str (Ty.cons Ty.str (Ty.cons Ty.str Ty.unit)))) [], Dyn.mk (Ty.int IntKind.i64) 1], [], [True, (!g71_0 x0) = Bool.true]) := by kernel_rfl
theorem p18_1 (x0 : List (ByteArray × Int × Int × Int × Int × Unit)) : Am.runN tab ext18 false 30 [] 2000 [] [] [0, 4, 5] [0] [false] [.code b18] (entE 0 0 sig18 (x0, ())) (entL sig18 (x0, ())) = some (cutAt b18 5, E18_5 (0) ([]) (x0), L18_5 (0) ([]) (x0), [True, (!g71_0 x0) = Bool.false]) := by kernel_rfl
theorem p18_2 (v5 : Int) (h0 : List (ByteArray × ByteArray × ByteArray × Unit)) (x0 : List (ByteArray × Int × Int × Int × Int × Unit)) : Am.runN tab ext18 false 30 [] 2000 [] [] [0, 4, 5] [0] [true] (cutAt b18 5) (E18_5 v5 h0 x0) (L18_5 v5 h0 x0) = some (cutAt b18 5, E18_5 (v5 + 1) (h0 ++ [(ByteArray.mk #[99, 104, 101, 99, 107], Prod.fst (List.getD x0 (Int.toNat v5) (ByteArray.empty, 0, 0, 0, 0, ())), g72_0 (List.getD x0 (Int.toNat v5) (ByteArray.empty, 0, 0, 0, 0, ())), ())]) (x0), L18_5 (v5 + 1) (h0 ++ [(ByteArray.mk #[99, 104, 101, 99, 107], Prod.fst (List.getD x0 (Int.toNat v5) (ByteArray.empty, 0, 0, 0, 0, ())), g72_0 (List.getD x0 (Int.toNat v5) (ByteArray.empty, 0, 0, 0, 0, ())), ())]) (x0), [Decidable.decide (v5 < (↑(List.length x0) : Int)) = Bool.true, 0 ≤ v5, v5 < (↑(List.length x0) : Int), 0 ≤ v5, v5 < (↑(List.length x0) : Int), P72 (List.getD x0 (Int.toNat v5) (ByteArray.empty, 0, 0, 0, 0, ())), (List.length h0 + 1) * 48 ≤ 140737488355328, InR IntKind.i64 (v5 + 1)]) := by kernel_rfl
theorem p18_3 (v5 : Int) (h0 : List (ByteArray × ByteArray × ByteArray × Unit)) (x0 : List (ByteArray × Int × Int × Int × Int × Unit)) : runF tab ext18 false 30 [] 2000 [] tys18 Tryd.f18.results [false] (cutAt b18 5) (E18_5 v5 h0 x0) (L18_5 v5 h0 x0) = some ([Dyn.mk (Ty.sl (Ty.cons Ty.str (Ty.cons Ty.str (Ty.cons Ty.str Ty.unit)))) h0, Dyn.mk (Ty.int IntKind.i64) 0], [], [Decidable.decide (v5 < (↑(List.length x0) : Int)) = Bool.false]) := by kernel_rfl
theorem snd18 : ∀ n, (∀ (x0 : List (ByteArray × Int × Int × Int × Int × Unit)) ds, R18 n x0 ds → ∀ w0 O q, AtV Tryd.prog 18 (PostR ds [] [] q w0 O) 30 w0 O q [] [.code b18] (entE 0 0 sig18 (x0, ())) (entL sig18 (x0, ()))) ∧ (∀ (v5 : Int) (h0 : List (ByteArray × ByteArray × ByteArray × Unit)) (x0 : List (ByteArray × Int × Int × Int × Int × Unit)) ds, R18_5 n v5 h0 x0 ds → ∀ w0 O q, AtV Tryd.prog 18 (PostR ds [] [] q w0 O) 30 w0 O q [] (cutAt b18 5) (E18_5 v5 h0 x0) (L18_5 v5 h0 x0)) := by
  intro n
  induction n with
  | zero => exact ⟨fun _ _ h => by simp only [R18] at h, fun _ _ _ _ h => by simp only [R18_5] at h⟩
  | succ n ih =>
  obtain ⟨ih, ih5⟩ := ih
  refine ⟨?_, ?_⟩
  · intro x0 ds h w0 O q
    rw [R18] at h
    by_cases b0 : (!g71_0 x0) = true
    · rw [if_pos b0] at h
      subst h
      exact AtV.fin Tryd.func18 tabOk ext18Ok mixed (p18_0 x0) ⟨trivial, b0, trivial⟩
    · rw [if_neg b0] at h
      replace b0 := Bool.eq_false_iff.2 b0
      exact AtV.runN tabOk ext18Ok mixed (p18_1 x0) ⟨trivial, b0, trivial⟩ (ih5 _ _ _ _ h w0 O q)

  · intro v5 h0 x0 ds h w0 O q
    rw [R18_5] at h
    by_cases b0 : (Decidable.decide (v5 < (↑(List.length x0) : Int))) = true
    · rw [if_pos b0] at h
      obtain ⟨s0, s1, h⟩ := h
      obtain ⟨s2, s3, h⟩ := h
      obtain ⟨s4, h⟩ := h
      obtain ⟨s5, h⟩ := h
      obtain ⟨s6, h⟩ := h
      exact AtV.runN tabOk ext18Ok mixed (p18_2 v5 h0 x0) ⟨b0, s0, s1, s2, s3, s4, s5, s6, trivial⟩ (ih5 _ _ _ _ h w0 O q)
    · rw [if_neg b0] at h
      replace b0 := Bool.eq_false_iff.2 b0
      subst h
      exact AtV.fin Tryd.func18 tabOk ext18Ok mixed (p18_3 v5 h0 x0) ⟨b0, trivial⟩



def blk18 (x : (ByteArray × Int × Int × Int × Int × Unit)) : (ByteArray × ByteArray × ByteArray × Unit) := (ByteArray.mk #[99, 104, 101, 99, 107], x.1, g72_0 x, ())
def g18_0 (x0 : List (ByteArray × Int × Int × Int × Int × Unit)) : List (ByteArray × ByteArray × ByteArray × Unit) := if g71_0 x0 = true then x0.map blk18 else []
def g18_1 (x0 : List (ByteArray × Int × Int × Int × Int × Unit)) : Int := if g71_0 x0 = true then 0 else 1
def P18 (x0 : List (ByteArray × Int × Int × Int × Int × Unit)) : Prop := ∀ x ∈ x0, P72 x

theorem top18 (x0 : List (ByteArray × Int × Int × Int × Int × Unit)) (hp : P18 x0) : R18 (x0.length + 1 + 1) x0 [⟨.sl (.cons .str (.cons .str (.cons .str .unit))), g18_0 x0⟩, ⟨.int .i64, g18_1 x0⟩] := by
  rw [R18]
  unfold g18_0 g18_1
  cases hok : g71_0 x0 with
  | false => rw [if_pos (by simp)]; rfl
  | true =>
    rw [if_neg (by simp)]
    have hlen : x0.length ≤ 16 := by
      unfold g71_0 at hok
      simp only [Bool.and_eq_true, decide_eq_true_eq] at hok
      exact hok.2
    have hm : x0.length ≤ maxLen := by unfold maxLen; omega
    have key := loop_fold (b := []) x0 (ByteArray.empty, (0 : Int), (0 : Int), (0 : Int), (0 : Int), ()) (fun (h : List (ByteArray × ByteArray × ByteArray × Unit)) b => h ++ [blk18 b]) (fun h => [(⟨.sl (.cons .str (.cons .str (.cons .str .unit))), h⟩ : Dyn), ⟨.int .i64, (0 : Int)⟩]) (fun i h => h.length ≤ i) (fun n i h ds => R18_5 n i h x0 ds) (by simp) (fun n h _ => ?_) (fun n i h hi hl => ⟨len_up hl, fun ds hr => ?_⟩)
    · rw [foldl_snoc] at key
      simpa using key
    · show R18_5 (n + 1) x0.length h x0 _
      rw [R18_5, if_neg (by simp)]
    · rw [R18_5, if_pos (by simp; omega)]
      simp only [Int.toNat_natCast]
      have hP := hp (x0.getD i (ByteArray.empty, (0 : Int), (0 : Int), (0 : Int), (0 : Int), ())) (mem_getD x0 i _ hi)
      exact ⟨by omega, by omega, by omega, by omega, hP, by omega, inR_up hm hi, hr⟩

def S18 : Am.Spec := { sig := sig18, pre := fun ⟨x0, _⟩ => P18 x0, res := fun ⟨x0, _⟩ => [⟨.sl (.cons .str (.cons .str (.cons .str .unit))), g18_0 x0⟩, ⟨.int .i64, g18_1 x0⟩] }
theorem con18 : Contract Tryd.prog 18 S18 := contract_of Tryd.func18 hb18 (Nat.le_of_ble_eq_true (by kernel_rfl)) (fun ⟨x0, _⟩ h hwf w0 O q =>
  (snd18 _).1 x0 _ (top18 x0 h) w0 O q)

end Go.Proofs.YtakodkjcmacofaaDoor

/- Function 151 (impl.IsName): its runs between cut points. Written by a program of this repo (gen). -/
set_option linter.unusedVariables false
set_option linter.unusedSimpArgs false
set_option maxRecDepth 100000
namespace Go.Proofs.YtakodkjcmacofaaDoor
open Go Go.Am Go.Proofs
def ext151 : Ext := []
theorem ext151Ok : ExtOk Tryd.prog ext151 := trivial
/-! Function 151. -/
noncomputable def b151 : Code := bodyOf Tryd.f151
theorem hb151 : Tryd.f151.body = some b151 := by kernel_rfl
def sig151 : List AT := [AT.v (Ty.str)]
def tys151 : List Ty := [Ty.bool]
def E151_4 (v18 : Int) (x0 : ByteArray) : Env := [(16, PV.a (Atom.osl 0 Option.none)), (17, PV.a (Atom.val (Value.int IntKind.i64 (↑(List.length (bytesOf x0)) : Int)))), (18, PV.a (Atom.val (Value.int IntKind.i64 v18)))]
def L151_4 (v18 : Int) (x0 : ByteArray) : Heap := [Option.some (Arr.mk (Ty.int IntKind.u8) (bytesOf x0) Bool.false)]
mutual
def R151 : Nat → ByteArray → List Dyn → Prop
  | 0, _, _ => False
  | n + 1, x0, ds => (if (Decidable.decide ((↑(ByteArray.size x0) : Int) < 1)) = true then (ds = [Dyn.mk Ty.bool Bool.false]) else (if (Decidable.decide ((↑(ByteArray.size x0) : Int) > 10)) = true then (ds = [Dyn.mk Ty.bool Bool.false]) else (R151_4 n (0) (x0) ds)))
def R151_4 : Nat → Int → ByteArray → List Dyn → Prop
  | 0, _, _, _ => False
  | n + 1, v18, x0, ds => (if (Decidable.decide (v18 < (↑(List.length (bytesOf x0)) : Int))) = true then ((0 ≤ v18) ∧ (v18 < (↑(List.length (bytesOf x0)) : Int)) ∧ (if (Decidable.decide (List.getD (bytesOf x0) (Int.toNat v18) 0 ≥ 97)) = true then (if (Decidable.decide (List.getD (bytesOf x0) (Int.toNat v18) 0 ≥ 48)) = true then (if (!Decidable.decide (List.getD (bytesOf x0) (Int.toNat v18) 0 ≤ 122)) = true then (if (v18 == 0) = true then (ds = [Dyn.mk Ty.bool Bool.false]) else (if (!Decidable.decide (List.getD (bytesOf x0) (Int.toNat v18) 0 ≤ 57)) = true then (ds = [Dyn.mk Ty.bool Bool.false]) else ((InR IntKind.i64 (v18 + 1)) ∧ (R151_4 n (v18 + 1) (x0) ds)))) else ((InR IntKind.i64 (v18 + 1)) ∧ (R151_4 n (v18 + 1) (x0) ds))) else (if (!Decidable.decide (List.getD (bytesOf x0) (Int.toNat v18) 0 ≤ 122)) = true then (if (v18 == 0) = true then (ds = [Dyn.mk Ty.bool Bool.false]) else (ds = [Dyn.mk Ty.bool Bool.false])) else ((InR IntKind.i64 (v18 + 1)) ∧ (R151_4 n (v18 + 1) (x0) ds)))) else (if (Decidable.decide (List.getD (bytesOf x0) (Int.toNat v18) 0 ≥ 48)) = true then (if (v18 == 0) = true then (ds = [Dyn.mk Ty.bool Bool.false]) else (if (!Decidable.decide (List.getD (bytesOf x0) (Int.toNat v18) 0 ≤ 57)) = true then (ds = [Dyn.mk Ty.bool Bool.false]) else ((InR IntKind.i64 (v18 + 1)) ∧ (R151_4 n (v18 + 1) (x0) ds)))) else (if (v18 == 0) = true then (ds = [Dyn.mk Ty.bool Bool.false]) else (ds = [Dyn.mk Ty.bool Bool.false]))))) else (ds = [Dyn.mk Ty.bool Bool.true]))
end
theorem p151_0 (x0 : ByteArray) : runF tab ext151 false 46 [] 2000 [] tys151 Tryd.f151.results [true, true] [.code b151] (entE 0 0 sig151 (x0, ())) (entL sig151 (x0, ())) = some ([Dyn.mk Ty.bool Bool.false], [], [Decidable.decide ((↑(ByteArray.size x0) : Int) < 1) = Bool.true, Bool.true = Bool.true]) := by kernel_rfl
theorem p151_1 (x0 : ByteArray) : runF tab ext151 false 46 [] 2000 [] tys151 Tryd.f151.results [false, true] [.code b151] (entE 0 0 sig151 (x0, ())) (entL sig151 (x0, ())) = some ([Dyn.mk Ty.bool Bool.false], [], [Decidable.decide ((↑(ByteArray.size x0) : Int) < 1) = Bool.false, Decidable.decide ((↑(ByteArray.size x0) : Int) > 10) = Bool.true]) := by kernel_rfl
theorem p151_2 (x0 : ByteArray) : Am.runN tab ext151 false 46 [] 2000 [] [] [16, 17, 18] [0] [false, false] [.code b151] (entE 0 0 sig151 (x0, ())) (entL sig151 (x0, ())) = some (cutAt b151 4, E151_4 (0) (x0), L151_4 (0) (x0), [Decidable.decide ((↑(ByteArray.size x0) : Int) < 1) = Bool.false, Decidable.decide ((↑(ByteArray.size x0) : Int) > 10) = Bool.false]) := by kernel_rfl
theorem p151_3 (v18 : Int) (x0 : ByteArray) : runF tab ext151 false 46 [] 2000 [] tys151 Tryd.f151.results [true, true, true, true, true, true] (cutAt b151 4) (E151_4 v18 x0) (L151_4 v18 x0) = some ([Dyn.mk Ty.bool Bool.false], [], [Decidable.decide (v18 < (↑(List.length (bytesOf x0)) : Int)) = Bool.true, 0 ≤ v18, v18 < (↑(List.length (bytesOf x0)) : Int), Decidable.decide (List.getD (bytesOf x0) (Int.toNat v18) 0 ≥ 97) = Bool.true, Decidable.decide (List.getD (bytesOf x0) (Int.toNat v18) 0 ≥ 48) = Bool.true, (!Decidable.decide (List.getD (bytesOf x0) (Int.toNat v18) 0 ≤ 122)) = Bool.true, (v18 == 0) = Bool.true, Bool.true = Bool.true]) := by kernel_rfl
theorem p151_4 (v18 : Int) (x0 : ByteArray) : runF tab ext151 false 46 [] 2000 [] tys151 Tryd.f151.results [true, true, true, true, false, true] (cutAt b151 4) (E151_4 v18 x0) (L151_4 v18 x0) = some ([Dyn.mk Ty.bool Bool.false], [], [Decidable.decide (v18 < (↑(List.length (bytesOf x0)) : Int)) = Bool.true, 0 ≤ v18, v18 < (↑(List.length (bytesOf x0)) : Int), Decidable.decide (List.getD (bytesOf x0) (Int.toNat v18) 0 ≥ 97) = Bool.true, Decidable.decide (List.getD (bytesOf x0) (Int.toNat v18) 0 ≥ 48) = Bool.true, (!Decidable.decide (List.getD (bytesOf x0) (Int.toNat v18) 0 ≤ 122)) = Bool.true, (v18 == 0) = Bool.false, (!Decidable.decide (List.getD (bytesOf x0) (Int.toNat v18) 0 ≤ 57)) = Bool.true]) := by kernel_rfl
theorem p151_5 (v18 : Int) (x0 : ByteArray) : Am.runN tab ext151 false 46 [] 2000 [] [] [16, 17, 18] [0] [true, true, true, true, false, false] (cutAt b151 4) (E151_4 v18 x0) (L151_4 v18 x0) = some (cutAt b151 4, E151_4 (v18 + 1) (x0), L151_4 (v18 + 1) (x0), [Decidable.decide (v18 < (↑(List.length (bytesOf x0)) : Int)) = Bool.true, 0 ≤ v18, v18 < (↑(List.length (bytesOf x0)) : Int), Decidable.decide (List.getD (bytesOf x0) (Int.toNat v18) 0 ≥ 97) = Bool.true, Decidable.decide (List.getD (bytesOf x0) (Int.toNat v18) 0 ≥ 48) = Bool.true, (!Decidable.decide (List.getD (bytesOf x0) (Int.toNat v18) 0 ≤ 122)) = Bool.true, (v18 == 0) = Bool.false, (!Decidable.decide (List.getD (bytesOf x0) (Int.toNat v18) 0 ≤ 57)) = Bool.false, InR IntKind.i64 (v18 + 1)]) := by kernel_rfl
theorem p151_6 (v18 : Int) (x0 : ByteArray) : Am.runN tab ext151 false 46 [] 2000 [] [] [16, 17, 18] [0] [true, true, true, false, false] (cutAt b151 4) (E151_4 v18 x0) (L151_4 v18 x0) = some (cutAt b151 4, E151_4 (v18 + 1) (x0), L151_4 (v18 + 1) (x0), [Decidable.decide (v18 < (↑(List.length (bytesOf x0)) : Int)) = Bool.true, 0 ≤ v18, v18 < (↑(List.length (bytesOf x0)) : Int), Decidable.decide (List.getD (bytesOf x0) (Int.toNat v18) 0 ≥ 97) = Bool.true, Decidable.decide (List.getD (bytesOf x0) (Int.toNat v18) 0 ≥ 48) = Bool.true, (!Decidable.decide (List.getD (bytesOf x0) (Int.toNat v18) 0 ≤ 122)) = Bool.false, Bool.false = Bool.false, InR IntKind.i64 (v18 + 1)]) := by kernel_rfl
theorem p151_7 (v18 : Int) (x0 : ByteArray) : runF tab ext151 false 46 [] 2000 [] tys151 Tryd.f151.results [true, true, false, true, true, true] (cutAt b151 4) (E151_4 v18 x0) (L151_4 v18 x0) = some ([Dyn.mk Ty.bool Bool.false], [], [Decidable.decide (v18 < (↑(List.length (bytesOf x0)) : Int)) = Bool.true, 0 ≤ v18, v18 < (↑(List.length (bytesOf x0)) : Int), Decidable.decide (List.getD (bytesOf x0) (Int.toNat v18) 0 ≥ 97) = Bool.true, Decidable.decide (List.getD (bytesOf x0) (Int.toNat v18) 0 ≥ 48) = Bool.false, (!Decidable.decide (List.getD (bytesOf x0) (Int.toNat v18) 0 ≤ 122)) = Bool.true, (v18 == 0) = Bool.true, Bool.true = Bool.true]) := by kernel_rfl
theorem p151_8 (v18 : Int) (x0 : ByteArray) : runF tab ext151 false 46 [] 2000 [] tys151 Tryd.f151.results [true, true, false, true, false, true] (cutAt b151 4) (E151_4 v18 x0) (L151_4 v18 x0) = some ([Dyn.mk Ty.bool Bool.false], [], [Decidable.decide (v18 < (↑(List.length (bytesOf x0)) : Int)) = Bool.true, 0 ≤ v18, v18 < (↑(List.length (bytesOf x0)) : Int), Decidable.decide (List.getD (bytesOf x0) (Int.toNat v18) 0 ≥ 97) = Bool.true, Decidable.decide (List.getD (bytesOf x0) (Int.toNat v18) 0 ≥ 48) = Bool.false, (!Decidable.decide (List.getD (bytesOf x0) (Int.toNat v18) 0 ≤ 122)) = Bool.true, (v18 == 0) = Bool.false, Bool.true = Bool.true]) := by kernel_rfl
theorem p151_9 (v18 : Int) (x0 : ByteArray) : Am.runN tab ext151 false 46 [] 2000 [] [] [16, 17, 18] [0] [true, true, false, false, false] (cutAt b151 4) (E151_4 v18 x0) (L151_4 v18 x0) = some (cutAt b151 4, E151_4 (v18 + 1) (x0), L151_4 (v18 + 1) (x0), [Decidable.decide (v18 < (↑(List.length (bytesOf x0)) : Int)) = Bool.true, 0 ≤ v18, v18 < (↑(List.length (bytesOf x0)) : Int), Decidable.decide (List.getD (bytesOf x0) (Int.toNat v18) 0 ≥ 97) = Bool.true, Decidable.decide (List.getD (bytesOf x0) (Int.toNat v18) 0 ≥ 48) = Bool.false, (!Decidable.decide (List.getD (bytesOf x0) (Int.toNat v18) 0 ≤ 122)) = Bool.false, Bool.false = Bool.false, InR IntKind.i64 (v18 + 1)]) := by kernel_rfl
theorem p151_10 (v18 : Int) (x0 : ByteArray) : runF tab ext151 false 46 [] 2000 [] tys151 Tryd.f151.results [true, false, true, true, true, true] (cutAt b151 4) (E151_4 v18 x0) (L151_4 v18 x0) = some ([Dyn.mk Ty.bool Bool.false], [], [Decidable.decide (v18 < (↑(List.length (bytesOf x0)) : Int)) = Bool.true, 0 ≤ v18, v18 < (↑(List.length (bytesOf x0)) : Int), Decidable.decide (List.getD (bytesOf x0) (Int.toNat v18) 0 ≥ 97) = Bool.false, Decidable.decide (List.getD (bytesOf x0) (Int.toNat v18) 0 ≥ 48) = Bool.true, Bool.true = Bool.true, (v18 == 0) = Bool.true, Bool.true = Bool.true]) := by kernel_rfl
theorem p151_11 (v18 : Int) (x0 : ByteArray) : runF tab ext151 false 46 [] 2000 [] tys151 Tryd.f151.results [true, false, true, true, false, true] (cutAt b151 4) (E151_4 v18 x0) (L151_4 v18 x0) = some ([Dyn.mk Ty.bool Bool.false], [], [Decidable.decide (v18 < (↑(List.length (bytesOf x0)) : Int)) = Bool.true, 0 ≤ v18, v18 < (↑(List.length (bytesOf x0)) : Int), Decidable.decide (List.getD (bytesOf x0) (Int.toNat v18) 0 ≥ 97) = Bool.false, Decidable.decide (List.getD (bytesOf x0) (Int.toNat v18) 0 ≥ 48) = Bool.true, Bool.true = Bool.true, (v18 == 0) = Bool.false, (!Decidable.decide (List.getD (bytesOf x0) (Int.toNat v18) 0 ≤ 57)) = Bool.true]) := by kernel_rfl
theorem p151_12 (v18 : Int) (x0 : ByteArray) : Am.runN tab ext151 false 46 [] 2000 [] [] [16, 17, 18] [0] [true, false, true, true, false, false] (cutAt b151 4) (E151_4 v18 x0) (L151_4 v18 x0) = some (cutAt b151 4, E151_4 (v18 + 1) (x0), L151_4 (v18 + 1) (x0), [Decidable.decide (v18 < (↑(List.length (bytesOf x0)) : Int)) = Bool.true, 0 ≤ v18, v18 < (↑(List.length (bytesOf x0)) : Int), Decidable.decide (List.getD (bytesOf x0) (Int.toNat v18) 0 ≥ 97) = Bool.false, Decidable.decide (List.getD (bytesOf x0) (Int.toNat v18) 0 ≥ 48) = Bool.true, Bool.true = Bool.true, (v18 == 0) = Bool.false, (!Decidable.decide (List.getD (bytesOf x0) (Int.toNat v18) 0 ≤ 57)) = Bool.false, InR IntKind.i64 (v18 + 1)]) := by kernel_rfl
theorem p151_13 (v18 : Int) (x0 : ByteArray) : runF tab ext151 false 46 [] 2000 [] tys151 Tryd.f151.results [true, false, false, true, true, true] (cutAt b151 4) (E151_4 v18 x0) (L151_4 v18 x0) = some ([Dyn.mk Ty.bool Bool.false], [], [Decidable.decide (v18 < (↑(List.length (bytesOf x0)) : Int)) = Bool.true, 0 ≤ v18, v18 < (↑(List.length (bytesOf x0)) : Int), Decidable.decide (List.getD (bytesOf x0) (Int.toNat v18) 0 ≥ 97) = Bool.false, Decidable.decide (List.getD (bytesOf x0) (Int.toNat v18) 0 ≥ 48) = Bool.false, Bool.true = Bool.true, (v18 == 0) = Bool.true, Bool.true = Bool.true]) := by kernel_rfl
theorem p151_14 (v18 : Int) (x0 : ByteArray) : runF tab ext151 false 46 [] 2000 [] tys151 Tryd.f151.results [true, false, false, true, false, true] (cutAt b151 4) (E151_4 v18 x0) (L151_4 v18 x0) = some ([Dyn.mk Ty.bool Bool.false], [], [Decidable.decide (v18 < (↑(List.length (bytesOf x0)) : Int)) = Bool.true, 0 ≤ v18, v18 < (↑(List.length (bytesOf x0)) : Int), Decidable.decide (List.getD (bytesOf x0) (Int.toNat v18) 0 ≥ 97) = Bool.false, Decidable.decide (List.getD (bytesOf x0) (Int.toNat v18) 0 ≥ 48) = Bool.false, Bool.true = Bool.true, (v18 == 0) = Bool.false, Bool.true = Bool.true]) := by kernel_rfl
theorem p151_15 (v18 : Int) (x0 : ByteArray) : runF tab ext151 false 46 [] 2000 [] tys151 Tryd.f151.results [false] (cutAt b151 4) (E151_4 v18 x0) (L151_4 v18 x0) = some ([Dyn.mk Ty.bool Bool.true], [], [Decidable.decide (v18 < (↑(List.length (bytesOf x0)) : Int)) = Bool.false]) := by kernel_rfl
theorem snd151 : ∀ n, (∀ (x0 : ByteArray) ds, R151 n x0 ds → ∀ w0 O q, AtV Tryd.prog 151 (PostR ds [] [] q w0 O) 46 w0 O q [] [.code b151] (entE 0 0 sig151 (x0, ())) (entL sig151 (x0, ()))) ∧ (∀ (v18 : Int) (x0 : ByteArray) ds, R151_4 n v18 x0 ds → ∀ w0 O q, AtV Tryd.prog 151 (PostR ds [] [] q w0 O) 46 w0 O q [] (cutAt b151 4) (E151_4 v18 x0) (L151_4 v18 x0)) := by
  intro n
  induction n with
  | zero => exact ⟨fun _ _ h => by simp only [R151] at h, fun _ _ _ h => by simp only [R151_4] at h⟩
  | succ n ih =>
  obtain ⟨ih, ih4⟩ := ih
  refine ⟨?_, ?_⟩
  · intro x0 ds h w0 O q
    rw [R151] at h
    by_cases b0 : (Decidable.decide ((↑(ByteArray.size x0) : Int) < 1)) = true
    · rw [if_pos b0] at h
      subst h
      exact AtV.fin Tryd.func151 tabOk ext151Ok mixed (p151_0 x0) ⟨b0, rfl, trivial⟩
    · rw [if_neg b0] at h
      replace b0 := Bool.eq_false_iff.2 b0
      by_cases b1 : (Decidable.decide ((↑(ByteArray.size x0) : Int) > 10)) = true
      · rw [if_pos b1] at h
        subst h
        exact AtV.fin Tryd.func151 tabOk ext151Ok mixed (p151_1 x0) ⟨b0, b1, trivial⟩
      · rw [if_neg b1] at h
        replace b1 := Bool.eq_false_iff.2 b1
        exact AtV.runN tabOk ext151Ok mixed (p151_2 x0) ⟨b0, b1, trivial⟩ (ih4 _ _ _ h w0 O q)

  · intro v18 x0 ds h w0 O q
    rw [R151_4] at h
    by_cases b0 : (Decidable.decide (v18 < (↑(List.length (bytesOf x0)) : Int))) = true
    · rw [if_pos b0] at h
      obtain ⟨s0, s1, h⟩ := h
      by_cases b1 : (Decidable.decide (List.getD (bytesOf x0) (Int.toNat v18) 0 ≥ 97)) = true
      · rw [if_pos b1] at h
        by_cases b2 : (Decidable.decide (List.getD (bytesOf x0) (Int.toNat v18) 0 ≥ 48)) = true
        · rw [if_pos b2] at h
          by_cases b3 : (!Decidable.decide (List.getD (bytesOf x0) (Int.toNat v18) 0 ≤ 122)) = true
          · rw [if_pos b3] at h
            by_cases b4 : (v18 == 0) = true
            · rw [if_pos b4] at h
              subst h
              exact AtV.fin Tryd.func151 tabOk ext151Ok mixed (p151_3 v18 x0) ⟨b0, s0, s1, b1, b2, b3, b4, rfl, trivial⟩
            · rw [if_neg b4] at h
              replace b4 := Bool.eq_false_iff.2 b4
              by_cases b5 : (!Decidable.decide (List.getD (bytesOf x0) (Int.toNat v18) 0 ≤ 57)) = true
              · rw [if_pos b5] at h
                subst h
                exact AtV.fin Tryd.func151 tabOk ext151Ok mixed (p151_4 v18 x0) ⟨b0, s0, s1, b1, b2, b3, b4, b5, trivial⟩
              · rw [if_neg b5] at h
                replace b5 := Bool.eq_false_iff.2 b5
                obtain ⟨s2, h⟩ := h
                exact AtV.runN tabOk ext151Ok mixed (p151_5 v18 x0) ⟨b0, s0, s1, b1, b2, b3, b4, b5, s2, trivial⟩ (ih4 _ _ _ h w0 O q)
          · rw [if_neg b3] at h
            replace b3 := Bool.eq_false_iff.2 b3
            obtain ⟨s2, h⟩ := h
            exact AtV.runN tabOk ext151Ok mixed (p151_6 v18 x0) ⟨b0, s0, s1, b1, b2, b3, rfl, s2, trivial⟩ (ih4 _ _ _ h w0 O q)
        · rw [if_neg b2] at h
          replace b2 := Bool.eq_false_iff.2 b2
          by_cases b3 : (!Decidable.decide (List.getD (bytesOf x0) (Int.toNat v18) 0 ≤ 122)) = true
          · rw [if_pos b3] at h
            by_cases b4 : (v18 == 0) = true
            · rw [if_pos b4] at h
              subst h
              exact AtV.fin Tryd.func151 tabOk ext151Ok mixed (p151_7 v18 x0) ⟨b0, s0, s1, b1, b2, b3, b4, rfl, trivial⟩
            · rw [if_neg b4] at h
              replace b4 := Bool.eq_false_iff.2 b4
              subst h
              exact AtV.fin Tryd.func151 tabOk ext151Ok mixed (p151_8 v18 x0) ⟨b0, s0, s1, b1, b2, b3, b4, rfl, trivial⟩
          · rw [if_neg b3] at h
            replace b3 := Bool.eq_false_iff.2 b3
            obtain ⟨s2, h⟩ := h
            exact AtV.runN tabOk ext151Ok mixed (p151_9 v18 x0) ⟨b0, s0, s1, b1, b2, b3, rfl, s2, trivial⟩ (ih4 _ _ _ h w0 O q)
      · rw [if_neg b1] at h
        replace b1 := Bool.eq_false_iff.2 b1
        by_cases b2 : (Decidable.decide (List.getD (bytesOf x0) (Int.toNat v18) 0 ≥ 48)) = true
        · rw [if_pos b2] at h
          by_cases b3 : (v18 == 0) = true
          · rw [if_pos b3] at h
            subst h
            exact AtV.fin Tryd.func151 tabOk ext151Ok mixed (p151_10 v18 x0) ⟨b0, s0, s1, b1, b2, rfl, b3, rfl, trivial⟩
          · rw [if_neg b3] at h
            replace b3 := Bool.eq_false_iff.2 b3
            by_cases b4 : (!Decidable.decide (List.getD (bytesOf x0) (Int.toNat v18) 0 ≤ 57)) = true
            · rw [if_pos b4] at h
              subst h
              exact AtV.fin Tryd.func151 tabOk ext151Ok mixed (p151_11 v18 x0) ⟨b0, s0, s1, b1, b2, rfl, b3, b4, trivial⟩
            · rw [if_neg b4] at h
              replace b4 := Bool.eq_false_iff.2 b4
              obtain ⟨s2, h⟩ := h
              exact AtV.runN tabOk ext151Ok mixed (p151_12 v18 x0) ⟨b0, s0, s1, b1, b2, rfl, b3, b4, s2, trivial⟩ (ih4 _ _ _ h w0 O q)
        · rw [if_neg b2] at h
          replace b2 := Bool.eq_false_iff.2 b2
          by_cases b3 : (v18 == 0) = true
          · rw [if_pos b3] at h
            subst h
            exact AtV.fin Tryd.func151 tabOk ext151Ok mixed (p151_13 v18 x0) ⟨b0, s0, s1, b1, b2, rfl, b3, rfl, trivial⟩
          · rw [if_neg b3] at h
            replace b3 := Bool.eq_false_iff.2 b3
            subst h
            exact AtV.fin Tryd.func151 tabOk ext151Ok mixed (p151_14 v18 x0) ⟨b0, s0, s1, b1, b2, rfl, b3, rfl, trivial⟩
    · rw [if_neg b0] at h
      replace b0 := Bool.eq_false_iff.2 b0
      subst h
      exact AtV.fin Tryd.func151 tabOk ext151Ok mixed (p151_15 v18 x0) ⟨b0, trivial⟩



/-- A byte of a name, at its place. -/
def ok151 (i : Nat) (b : Int) : Bool := (decide (97 ≤ b) && decide (b ≤ 122)) || (!(i == 0) && (decide (48 ≤ b) && decide (b ≤ 57)))
def g151_0 (x0 : ByteArray) : Bool := decide (1 ≤ x0.size) && decide (x0.size ≤ 10) && allI ok151 0 (bytesOf x0)
def P151 (x0 : ByteArray) : Prop := True

theorem step151 (n i : Nat) (x0 : ByteArray) (hw : Wf .str x0) (hi : i < (bytesOf x0).length) (ds : List Dyn) :
    R151_4 (n + 1) (i : Int) x0 ds ↔ (if ok151 i ((bytesOf x0).getD i 0) = true then R151_4 n ((i : Int) + 1) x0 ds else ds = [⟨.bool, false⟩]) := by
  have hu := inR_up (xs := bytesOf x0) (by rw [bytesOf_length]; exact hw) hi
  rw [R151_4, if_pos (by simp; omega)]
  simp only [Int.toNat_natCast]
  have hb : (0 : Int) ≤ (i : Int) ∧ (i : Int) < ((bytesOf x0).length : Int) := by omega
  have hz : ((i : Int) == 0) = (i == 0) := by
    cases i with
    | zero => rfl
    | succ k => simp; omega
  simp only [hz, ok151, hu, true_and, hb.1, hb.2, ge_iff_le]
  by_cases h1 : (97 : Int) ≤ (bytesOf x0).getD i 0 <;> by_cases h2 : (bytesOf x0).getD i 0 ≤ 122 <;> by_cases h3 : (48 : Int) ≤ (bytesOf x0).getD i 0 <;> by_cases h4 : (bytesOf x0).getD i 0 ≤ 57 <;> rcases Bool.eq_false_or_eq_true (i == 0) with e0 | e0 <;> first | (exfalso; omega) | simp only [h1, h2, h3, h4, e0, decide_true, decide_false, Bool.not_true, Bool.not_false, Bool.true_and, Bool.false_and, Bool.and_true, Bool.and_false, Bool.true_or, Bool.or_true, Bool.or_false, Bool.false_or, if_true, if_false, Bool.false_eq_true]

theorem top151 (x0 : ByteArray) (hw : Wf .str x0) : R151 (x0.size + 1 + 1) x0 [⟨.bool, g151_0 x0⟩] := by
  have hl := bytesOf_length x0
  rw [R151]
  by_cases h0 : (x0.size : Int) < 1
  · rw [if_pos (by simpa using h0)]
    have : ¬ 1 ≤ x0.size := by omega
    simp [g151_0, this]
  · rw [if_neg (by simpa using h0)]
    by_cases h1 : (x0.size : Int) > 10
    · rw [if_pos (by simpa using h1)]
      have : ¬ x0.size ≤ 10 := by omega
      simp [g151_0, this]
    · rw [if_neg (by simpa using h1)]
      have key := loop_testI (bytesOf x0) 0 ok151 [(⟨.bool, false⟩ : Dyn)] [⟨.bool, true⟩] (fun n i ds => R151_4 n i x0 ds) (fun n => ?_) (fun n i hi hok ds hr => ?_) (fun n i hi hok => ?_)
      · rw [hl] at key
        have e : g151_0 x0 = allI ok151 0 (bytesOf x0) := by
          have a : 1 ≤ x0.size := by omega
          have b : x0.size ≤ 10 := by omega
          simp [g151_0, a, b]
        rw [e]
        cases h : allI ok151 0 (bytesOf x0) with
        | true => rw [if_pos h] at key; exact key
        | false => rw [if_neg (by rw [h]; simp)] at key; exact key
      · show R151_4 (n + 1) ((bytesOf x0).length : Int) x0 _
        rw [R151_4, if_neg (by simp)]
      · exact (step151 n i x0 hw hi ds).2 (by rw [if_pos hok]; exact hr)
      · exact (step151 n i x0 hw hi _).2 (by rw [if_neg (by rw [hok]; simp)])

def S151 : Am.Spec := { sig := sig151, pre := fun ⟨x0, _⟩ => P151 x0, res := fun ⟨x0, _⟩ => [⟨Ty.bool, g151_0 x0⟩] }
theorem con151 : Contract Tryd.prog 151 S151 := contract_of Tryd.func151 hb151 (Nat.le_of_ble_eq_true (by kernel_rfl)) (fun ⟨x0, _⟩ h hwf w0 O q =>
  (snd151 _).1 x0 _ (top151 x0 hwf.1) w0 O q)

end Go.Proofs.YtakodkjcmacofaaDoor

/- Function 102 (impl.within): its runs between cut points. Written by a program of this repo (gen). -/
set_option linter.unusedVariables false
set_option linter.unusedSimpArgs false
set_option maxRecDepth 100000
namespace Go.Proofs.YtakodkjcmacofaaDoor
open Go Go.Am Go.Proofs
def ext102 : Ext := []
theorem ext102Ok : ExtOk Tryd.prog ext102 := trivial
/-! Function 102. -/
noncomputable def b102 : Code := bodyOf Tryd.f102
theorem hb102 : Tryd.f102.body = some b102 := by kernel_rfl
def sig102 : List AT := [AT.v (Ty.int IntKind.i64), AT.v (Ty.int IntKind.i64), AT.v (Ty.int IntKind.i64)]
def tys102 : List Ty := [Ty.bool]
def P102 (x0 : Int) (x1 : Int) (x2 : Int) : Prop := True
def g102_0 (x0 : Int) (x1 : Int) (x2 : Int) : Bool := (if (Decidable.decide (x0 ≥ x1)) = true then Decidable.decide (x0 ≤ x2) else Bool.false)
theorem p102_0 (x0 : Int) (x1 : Int) (x2 : Int) : runF tab ext102 false 15 [] 2000 [] tys102 Tryd.f102.results [true] [.code b102] (entE 0 0 sig102 (x0, x1, x2, ())) (entL sig102 (x0, x1, x2, ())) = some ([Dyn.mk Ty.bool (Decidable.decide (x0 ≤ x2))], [], [Decidable.decide (x0 ≥ x1) = Bool.true]) := by kernel_rfl
theorem p102_1 (x0 : Int) (x1 : Int) (x2 : Int) : runF tab ext102 false 15 [] 2000 [] tys102 Tryd.f102.results [false] [.code b102] (entE 0 0 sig102 (x0, x1, x2, ())) (entL sig102 (x0, x1, x2, ())) = some ([Dyn.mk Ty.bool Bool.false], [], [Decidable.decide (x0 ≥ x1) = Bool.false]) := by kernel_rfl
theorem at102 (x0 : Int) (x1 : Int) (x2 : Int) (h : P102 x0 x1 x2) (w0 : World) (O : List Nat) (q : Nat → Value) : AtV Tryd.prog 102 (PostR [⟨Ty.bool, g102_0 x0 x1 x2⟩] [] [] q w0 O) 15 w0 O q [] [.code b102] (entE 0 0 sig102 (x0, x1, x2, ())) (entL sig102 (x0, x1, x2, ())) := by
  unfold P102 at h
  unfold g102_0
  by_cases b0 : (Decidable.decide (x0 ≥ x1)) = true
  · try simp only [if_pos b0] at h ⊢
    exact AtV.fin Tryd.func102 tabOk ext102Ok mixed (p102_0 x0 x1 x2) ⟨b0, trivial⟩
  · try simp only [if_neg b0] at h ⊢
    replace b0 := Bool.eq_false_iff.2 b0
    exact AtV.fin Tryd.func102 tabOk ext102Ok mixed (p102_1 x0 x1 x2) ⟨b0, trivial⟩

def S102 : Am.Spec := { sig := sig102, pre := fun ⟨x0, x1, x2, _⟩ => P102 x0 x1 x2, res := fun ⟨x0, x1, x2, _⟩ => [⟨Ty.bool, g102_0 x0 x1 x2⟩] }
theorem con102 : Contract Tryd.prog 102 S102 := contract_of Tryd.func102 hb102 (Nat.le_of_ble_eq_true (by kernel_rfl)) (fun ⟨x0, x1, x2, _⟩ h _ w0 O q => at102 x0 x1 x2 h w0 O q)


end Go.Proofs.YtakodkjcmacofaaDoor

/- Function 152 (impl.isOpsDay): its runs between cut points. Written by a program of this repo (gen). -/
set_option linter.unusedVariables false
set_option linter.unusedSimpArgs false
set_option maxRecDepth 100000
namespace Go.Proofs.YtakodkjcmacofaaDoor
open Go Go.Am Go.Proofs
def ext152 : Ext := [(102, S102)]
theorem call152_102 : Callable Tryd.prog 102 := ⟨Tryd.f102, Tryd.func102, by kernel_rfl, by kernel_rfl⟩
theorem ext152Ok : ExtOk Tryd.prog ext152 := ⟨⟨call152_102, con102⟩, trivial⟩
/-! Function 152. -/
noncomputable def b152 : Code := bodyOf Tryd.f152
theorem hb152 : Tryd.f152.body = some b152 := by kernel_rfl
def sig152 : List AT := [AT.v (Ty.int IntKind.i64)]
def tys152 : List Ty := [Ty.bool]
def P152 (x0 : Int) : Prop := True
def g152_0 (x0 : Int) : Bool := g102_0 x0 0 100000
theorem p152_0 (x0 : Int) : runF tab ext152 false 5 [] 2000 [] tys152 Tryd.f152.results [] [.code b152] (entE 0 0 sig152 (x0, ())) (entL sig152 (x0, ())) = some ([Dyn.mk Ty.bool (g102_0 x0 0 100000)], [], [True]) := by kernel_rfl
theorem at152 (x0 : Int) (h : P152 x0) (w0 : World) (O : List Nat) (q : Nat → Value) : AtV Tryd.prog 152 (PostR [⟨Ty.bool, g152_0 x0⟩] [] [] q w0 O) 5 w0 O q [] [.code b152] (entE 0 0 sig152 (x0, ())) (entL sig152 (x0, ())) := by
  unfold P152 at h
  unfold g152_0
  exact AtV.fin Tryd.func152 tabOk ext152Ok mixed (p152_0 x0) ⟨trivial, trivial⟩

def S152 : Am.Spec := { sig := sig152, pre := fun ⟨x0, _⟩ => P152 x0, res := fun ⟨x0, _⟩ => [⟨Ty.bool, g152_0 x0⟩] }
theorem con152 : Contract Tryd.prog 152 S152 := contract_of Tryd.func152 hb152 (Nat.le_of_ble_eq_true (by kernel_rfl)) (fun ⟨x0, _⟩ h _ w0 O q => at152 x0 h w0 O q)


end Go.Proofs.YtakodkjcmacofaaDoor

/- Function 153 (impl.isCount): its runs between cut points. Written by a program of this repo (gen). -/
set_option linter.unusedVariables false
set_option linter.unusedSimpArgs false
set_option maxRecDepth 100000
namespace Go.Proofs.YtakodkjcmacofaaDoor
open Go Go.Am Go.Proofs
def ext153 : Ext := [(102, S102)]
theorem call153_102 : Callable Tryd.prog 102 := ⟨Tryd.f102, Tryd.func102, by kernel_rfl, by kernel_rfl⟩
theorem ext153Ok : ExtOk Tryd.prog ext153 := ⟨⟨call153_102, con102⟩, trivial⟩
/-! Function 153. -/
noncomputable def b153 : Code := bodyOf Tryd.f153
theorem hb153 : Tryd.f153.body = some b153 := by kernel_rfl
def sig153 : List AT := [AT.v (Ty.int IntKind.i64)]
def tys153 : List Ty := [Ty.bool]
def P153 (x0 : Int) : Prop := True
def g153_0 (x0 : Int) : Bool := g102_0 x0 0 1000000
theorem p153_0 (x0 : Int) : runF tab ext153 false 5 [] 2000 [] tys153 Tryd.f153.results [] [.code b153] (entE 0 0 sig153 (x0, ())) (entL sig153 (x0, ())) = some ([Dyn.mk Ty.bool (g102_0 x0 0 1000000)], [], [True]) := by kernel_rfl
theorem at153 (x0 : Int) (h : P153 x0) (w0 : World) (O : List Nat) (q : Nat → Value) : AtV Tryd.prog 153 (PostR [⟨Ty.bool, g153_0 x0⟩] [] [] q w0 O) 5 w0 O q [] [.code b153] (entE 0 0 sig153 (x0, ())) (entL sig153 (x0, ())) := by
  unfold P153 at h
  unfold g153_0
  exact AtV.fin Tryd.func153 tabOk ext153Ok mixed (p153_0 x0) ⟨trivial, trivial⟩

def S153 : Am.Spec := { sig := sig153, pre := fun ⟨x0, _⟩ => P153 x0, res := fun ⟨x0, _⟩ => [⟨Ty.bool, g153_0 x0⟩] }
theorem con153 : Contract Tryd.prog 153 S153 := contract_of Tryd.func153 hb153 (Nat.le_of_ble_eq_true (by kernel_rfl)) (fun ⟨x0, _⟩ h _ w0 O q => at153 x0 h w0 O q)


end Go.Proofs.YtakodkjcmacofaaDoor

/- Function 127 (impl.validCheck): its runs between cut points. Written by a program of this repo (gen). -/
set_option linter.unusedVariables false
set_option linter.unusedSimpArgs false
set_option maxRecDepth 100000
namespace Go.Proofs.YtakodkjcmacofaaDoor
open Go Go.Am Go.Proofs
def ext127 : Ext := [(151, S151), (102, S102), (152, S152), (153, S153)]
theorem call127_151 : Callable Tryd.prog 151 := ⟨Tryd.f151, Tryd.func151, by kernel_rfl, by kernel_rfl⟩
theorem call127_102 : Callable Tryd.prog 102 := ⟨Tryd.f102, Tryd.func102, by kernel_rfl, by kernel_rfl⟩
theorem call127_152 : Callable Tryd.prog 152 := ⟨Tryd.f152, Tryd.func152, by kernel_rfl, by kernel_rfl⟩
theorem call127_153 : Callable Tryd.prog 153 := ⟨Tryd.f153, Tryd.func153, by kernel_rfl, by kernel_rfl⟩
theorem ext127Ok : ExtOk Tryd.prog ext127 := ⟨⟨call127_151, con151⟩, ⟨call127_102, con102⟩, ⟨call127_152, con152⟩, ⟨call127_153, con153⟩, trivial⟩
/-! Function 127. -/
noncomputable def b127 : Code := bodyOf Tryd.f127
theorem hb127 : Tryd.f127.body = some b127 := by kernel_rfl
def sig127 : List AT := [AT.v (Ty.cons Ty.str (Ty.cons (Ty.int IntKind.i64) (Ty.cons (Ty.int IntKind.i64) (Ty.cons (Ty.int IntKind.i64) (Ty.cons (Ty.int IntKind.i64) Ty.unit)))))]
def tys127 : List Ty := [Ty.bool]
def P127 (x0 : ByteArray × Int × Int × Int × Int × Unit) : Prop := True
def g127_0 (x0 : ByteArray × Int × Int × Int × Int × Unit) : Bool := (if (g151_0 (Prod.fst x0)) = true then (if (g102_0 (Prod.fst (Prod.snd x0)) 1 100000) = true then (if (g102_0 (Prod.fst (Prod.snd (Prod.snd x0))) 1 1000000) = true then (if (g152_0 (Prod.fst (Prod.snd (Prod.snd (Prod.snd x0))))) = true then g153_0 (Prod.fst (Prod.snd (Prod.snd (Prod.snd (Prod.snd x0))))) else Bool.false) else Bool.false) else Bool.false) else Bool.false)
theorem p127_0 (x0 : ByteArray × Int × Int × Int × Int × Unit) : runF tab ext127 false 26 [] 2000 [] tys127 Tryd.f127.results [true, true, true, true] [.code b127] (entE 0 0 sig127 (x0, ())) (entL sig127 (x0, ())) = some ([Dyn.mk Ty.bool (g153_0 (Prod.fst (Prod.snd (Prod.snd (Prod.snd (Prod.snd x0))))))], [], [True, g151_0 (Prod.fst x0) = Bool.true, True, g102_0 (Prod.fst (Prod.snd x0)) 1 100000 = Bool.true, True, g102_0 (Prod.fst (Prod.snd (Prod.snd x0))) 1 1000000 = Bool.true, True, g152_0 (Prod.fst (Prod.snd (Prod.snd (Prod.snd x0)))) = Bool.true, True]) := by kernel_rfl
theorem p127_1 (x0 : ByteArray × Int × Int × Int × Int × Unit) : runF tab ext127 false 26 [] 2000 [] tys127 Tryd.f127.results [true, true, true, false] [.code b127] (entE 0 0 sig127 (x0, ())) (entL sig127 (x0, ())) = some ([Dyn.mk Ty.bool Bool.false], [], [True, g151_0 (Prod.fst x0) = Bool.true, True, g102_0 (Prod.fst (Prod.snd x0)) 1 100000 = Bool.true, True, g102_0 (Prod.fst (Prod.snd (Prod.snd x0))) 1 1000000 = Bool.true, True, g152_0 (Prod.fst (Prod.snd (Prod.snd (Prod.snd x0)))) = Bool.false]) := by kernel_rfl
theorem p127_2 (x0 : ByteArray × Int × Int × Int × Int × Unit) : runF tab ext127 false 26 [] 2000 [] tys127 Tryd.f127.results [true, true, false, false] [.code b127] (entE 0 0 sig127 (x0, ())) (entL sig127 (x0, ())) = some ([Dyn.mk Ty.bool Bool.false], [], [True, g151_0 (Prod.fst x0) = Bool.true, True, g102_0 (Prod.fst (Prod.snd x0)) 1 100000 = Bool.true, True, g102_0 (Prod.fst (Prod.snd (Prod.snd x0))) 1 1000000 = Bool.false, Bool.false = Bool.false]) := by kernel_rfl
theorem p127_3 (x0 : ByteArray × Int × Int × Int × Int × Unit) : runF tab ext127 false 26 [] 2000 [] tys127 Tryd.f127.results [true, false, false, false] [.code b127] (entE 0 0 sig127 (x0, ())) (entL sig127 (x0, ())) = some ([Dyn.mk Ty.bool Bool.false], [], [True, g151_0 (Prod.fst x0) = Bool.true, True, g102_0 (Prod.fst (Prod.snd x0)) 1 100000 = Bool.false, Bool.false = Bool.false, Bool.false = Bool.false]) := by kernel_rfl
theorem p127_4 (x0 : ByteArray × Int × Int × Int × Int × Unit) : runF tab ext127 false 26 [] 2000 [] tys127 Tryd.f127.results [false, false, false, false] [.code b127] (entE 0 0 sig127 (x0, ())) (entL sig127 (x0, ())) = some ([Dyn.mk Ty.bool Bool.false], [], [True, g151_0 (Prod.fst x0) = Bool.false, Bool.false = Bool.false, Bool.false = Bool.false, Bool.false = Bool.false]) := by kernel_rfl
theorem at127 (x0 : ByteArray × Int × Int × Int × Int × Unit) (h : P127 x0) (w0 : World) (O : List Nat) (q : Nat → Value) : AtV Tryd.prog 127 (PostR [⟨Ty.bool, g127_0 x0⟩] [] [] q w0 O) 26 w0 O q [] [.code b127] (entE 0 0 sig127 (x0, ())) (entL sig127 (x0, ())) := by
  unfold P127 at h
  unfold g127_0
  by_cases b0 : (g151_0 (Prod.fst x0)) = true
  · try simp only [if_pos b0] at h ⊢
    by_cases b1 : (g102_0 (Prod.fst (Prod.snd x0)) 1 100000) = true
    · try simp only [if_pos b1] at h ⊢
      by_cases b2 : (g102_0 (Prod.fst (Prod.snd (Prod.snd x0))) 1 1000000) = true
      · try simp only [if_pos b2] at h ⊢
        by_cases b3 : (g152_0 (Prod.fst (Prod.snd (Prod.snd (Prod.snd x0))))) = true
        · try simp only [if_pos b3] at h ⊢
          exact AtV.fin Tryd.func127 tabOk ext127Ok mixed (p127_0 x0) ⟨trivial, b0, trivial, b1, trivial, b2, trivial, b3, trivial, trivial⟩
        · try simp only [if_neg b3] at h ⊢
          replace b3 := Bool.eq_false_iff.2 b3
          exact AtV.fin Tryd.func127 tabOk ext127Ok mixed (p127_1 x0) ⟨trivial, b0, trivial, b1, trivial, b2, trivial, b3, trivial⟩
      · try simp only [if_neg b2] at h ⊢
        replace b2 := Bool.eq_false_iff.2 b2
        exact AtV.fin Tryd.func127 tabOk ext127Ok mixed (p127_2 x0) ⟨trivial, b0, trivial, b1, trivial, b2, rfl, trivial⟩
    · try simp only [if_neg b1] at h ⊢
      replace b1 := Bool.eq_false_iff.2 b1
      exact AtV.fin Tryd.func127 tabOk ext127Ok mixed (p127_3 x0) ⟨trivial, b0, trivial, b1, rfl, rfl, trivial⟩
  · try simp only [if_neg b0] at h ⊢
    replace b0 := Bool.eq_false_iff.2 b0
    exact AtV.fin Tryd.func127 tabOk ext127Ok mixed (p127_4 x0) ⟨trivial, b0, rfl, rfl, rfl, trivial⟩

def S127 : Am.Spec := { sig := sig127, pre := fun ⟨x0, _⟩ => P127 x0, res := fun ⟨x0, _⟩ => [⟨Ty.bool, g127_0 x0⟩] }
theorem con127 : Contract Tryd.prog 127 S127 := contract_of Tryd.func127 hb127 (Nat.le_of_ble_eq_true (by kernel_rfl)) (fun ⟨x0, _⟩ h _ w0 O q => at127 x0 h w0 O q)


end Go.Proofs.YtakodkjcmacofaaDoor

/- Function 74 (impl.ValidChecks): its runs between cut points. Written by a program of this repo (gen). -/
set_option linter.unusedVariables false
set_option linter.unusedSimpArgs false
set_option maxRecDepth 100000
namespace Go.Proofs.YtakodkjcmacofaaDoor
open Go Go.Am Go.Proofs
def ext74 : Ext := [(127, S127)]
theorem call74_127 : Callable Tryd.prog 127 := ⟨Tryd.f127, Tryd.func127, by kernel_rfl, by kernel_rfl⟩
theorem ext74Ok : ExtOk Tryd.prog ext74 := ⟨⟨call74_127, con127⟩, trivial⟩
/-! Function 74. -/
noncomputable def b74 : Code := bodyOf Tryd.f74
theorem hb74 : Tryd.f74.body = some b74 := by kernel_rfl
def sig74 : List AT := [AT.v (Ty.sl (Ty.cons Ty.str (Ty.cons (Ty.int IntKind.i64) (Ty.cons (Ty.int IntKind.i64) (Ty.cons (Ty.int IntKind.i64) (Ty.cons (Ty.int IntKind.i64) Ty.unit))))))]
def tys74 : List Ty := [Ty.bool]
def E74_2 (v7 : Int) (x0 : List (ByteArray × Int × Int × Int × Int × Unit)) : Env := [(0, PV.a (Atom.sl (Ty.cons Ty.str (Ty.cons (Ty.int IntKind.i64) (Ty.cons (Ty.int IntKind.i64) (Ty.cons (Ty.int IntKind.i64) (Ty.cons (Ty.int IntKind.i64) Ty.unit))))) x0)), (5, PV.a (Atom.sl (Ty.cons Ty.str (Ty.cons (Ty.int IntKind.i64) (Ty.cons (Ty.int IntKind.i64) (Ty.cons (Ty.int IntKind.i64) (Ty.cons (Ty.int IntKind.i64) Ty.unit))))) x0)), (6, PV.a (Atom.val (Value.int IntKind.i64 (↑(List.length x0) : Int)))), (7, PV.a (Atom.val (Value.int IntKind.i64 v7)))]
def L74_2 (v7 : Int) (x0 : List (ByteArray × Int × Int × Int × Int × Unit)) : Heap := []
mutual
def R74 : Nat → List (ByteArray × Int × Int × Int × Int × Unit) → List Dyn → Prop
  | 0, _, _ => False
  | n + 1, x0, ds => (R74_2 n (0) (x0) ds)
def R74_2 : Nat → Int → List (ByteArray × Int × Int × Int × Int × Unit) → List Dyn → Prop
  | 0, _, _, _ => False
  | n + 1, v7, x0, ds => (if (Decidable.decide (v7 < (↑(List.length x0) : Int))) = true then ((0 ≤ v7) ∧ (v7 < (↑(List.length x0) : Int)) ∧ (if (!g127_0 (List.getD x0 (Int.toNat v7) (ByteArray.empty, 0, 0, 0, 0, ()))) = true then (ds = [Dyn.mk Ty.bool Bool.false]) else (if (Decidable.decide (v7 > 0)) = true then ((InR IntKind.i64 (v7 - 1)) ∧ ((0 ≤ v7 - 1) ∧ (v7 - 1 < (↑(List.length x0) : Int)) ∧ (if (Op.bytesLess (ByteArray.toList (Prod.fst (List.getD x0 (Int.toNat v7) (ByteArray.empty, 0, 0, 0, 0, ())))) (ByteArray.toList (Prod.fst (List.getD x0 (Int.toNat (v7 - 1)) (ByteArray.empty, 0, 0, 0, 0, ())))) || ByteArray.toList (Prod.fst (List.getD x0 (Int.toNat v7) (ByteArray.empty, 0, 0, 0, 0, ()))) == ByteArray.toList (Prod.fst (List.getD x0 (Int.toNat (v7 - 1)) (ByteArray.empty, 0, 0, 0, 0, ())))) = true then (ds = [Dyn.mk Ty.bool Bool.false]) else ((InR IntKind.i64 (v7 + 1)) ∧ (R74_2 n (v7 + 1) (x0) ds))))) else ((InR IntKind.i64 (v7 + 1)) ∧ (R74_2 n (v7 + 1) (x0) ds))))) else (ds = [Dyn.mk Ty.bool (Decidable.decide ((↑(List.length x0) : Int) ≤ 16))]))
end
theorem p74_0 (x0 : List (ByteArray × Int × Int × Int × Int × Unit)) : Am.runN tab ext74 false 34 [] 2000 [] [] [0, 5, 6, 7] [] [] [.code b74] (entE 0 0 sig74 (x0, ())) (entL sig74 (x0, ())) = some (cutAt b74 2, E74_2 (0) (x0), L74_2 (0) (x0), []) := by kernel_rfl
theorem p74_1 (v7 : Int) (x0 : List (ByteArray × Int × Int × Int × Int × Unit)) : runF tab ext74 false 34 [] 2000 [] tys74 Tryd.f74.results [true, true, true] (cutAt b74 2) (E74_2 v7 x0) (L74_2 v7 x0) = some ([Dyn.mk Ty.bool Bool.false], [], [Decidable.decide (v7 < (↑(List.length x0) : Int)) = Bool.true, 0 ≤ v7, v7 < (↑(List.length x0) : Int), True, (!g127_0 (List.getD x0 (Int.toNat v7) (ByteArray.empty, 0, 0, 0, 0, ()))) = Bool.true, Bool.true = Bool.true]) := by kernel_rfl
theorem p74_2 (v7 : Int) (x0 : List (ByteArray × Int × Int × Int × Int × Unit)) : runF tab ext74 false 34 [] 2000 [] tys74 Tryd.f74.results [true, false, true, true] (cutAt b74 2) (E74_2 v7 x0) (L74_2 v7 x0) = some ([Dyn.mk Ty.bool Bool.false], [], [Decidable.decide (v7 < (↑(List.length x0) : Int)) = Bool.true, 0 ≤ v7, v7 < (↑(List.length x0) : Int), True, (!g127_0 (List.getD x0 (Int.toNat v7) (ByteArray.empty, 0, 0, 0, 0, ()))) = Bool.false, Decidable.decide (v7 > 0) = Bool.true, InR IntKind.i64 (v7 - 1), 0 ≤ v7 - 1, v7 - 1 < (↑(List.length x0) : Int), (Op.bytesLess (ByteArray.toList (Prod.fst (List.getD x0 (Int.toNat v7) (ByteArray.empty, 0, 0, 0, 0, ())))) (ByteArray.toList (Prod.fst (List.getD x0 (Int.toNat (v7 - 1)) (ByteArray.empty, 0, 0, 0, 0, ())))) || ByteArray.toList (Prod.fst (List.getD x0 (Int.toNat v7) (ByteArray.empty, 0, 0, 0, 0, ()))) == ByteArray.toList (Prod.fst (List.getD x0 (Int.toNat (v7 - 1)) (ByteArray.empty, 0, 0, 0, 0, ())))) = Bool.true]) := by kernel_rfl
theorem p74_3 (v7 : Int) (x0 : List (ByteArray × Int × Int × Int × Int × Unit)) : Am.runN tab ext74 false 34 [] 2000 [] [] [0, 5, 6, 7] [] [true, false, true, false] (cutAt b74 2) (E74_2 v7 x0) (L74_2 v7 x0) = some (cutAt b74 2, E74_2 (v7 + 1) (x0), L74_2 (v7 + 1) (x0), [Decidable.decide (v7 < (↑(List.length x0) : Int)) = Bool.true, 0 ≤ v7, v7 < (↑(List.length x0) : Int), True, (!g127_0 (List.getD x0 (Int.toNat v7) (ByteArray.empty, 0, 0, 0, 0, ()))) = Bool.false, Decidable.decide (v7 > 0) = Bool.true, InR IntKind.i64 (v7 - 1), 0 ≤ v7 - 1, v7 - 1 < (↑(List.length x0) : Int), (Op.bytesLess (ByteArray.toList (Prod.fst (List.getD x0 (Int.toNat v7) (ByteArray.empty, 0, 0, 0, 0, ())))) (ByteArray.toList (Prod.fst (List.getD x0 (Int.toNat (v7 - 1)) (ByteArray.empty, 0, 0, 0, 0, ())))) || ByteArray.toList (Prod.fst (List.getD x0 (Int.toNat v7) (ByteArray.empty, 0, 0, 0, 0, ()))) == ByteArray.toList (Prod.fst (List.getD x0 (Int.toNat (v7 - 1)) (ByteArray.empty, 0, 0, 0, 0, ())))) = Bool.false, InR IntKind.i64 (v7 + 1)]) := by kernel_rfl
theorem p74_4 (v7 : Int) (x0 : List (ByteArray × Int × Int × Int × Int × Unit)) : Am.runN tab ext74 false 34 [] 2000 [] [] [0, 5, 6, 7] [] [true, false, false, false] (cutAt b74 2) (E74_2 v7 x0) (L74_2 v7 x0) = some (cutAt b74 2, E74_2 (v7 + 1) (x0), L74_2 (v7 + 1) (x0), [Decidable.decide (v7 < (↑(List.length x0) : Int)) = Bool.true, 0 ≤ v7, v7 < (↑(List.length x0) : Int), True, (!g127_0 (List.getD x0 (Int.toNat v7) (ByteArray.empty, 0, 0, 0, 0, ()))) = Bool.false, Decidable.decide (v7 > 0) = Bool.false, Bool.false = Bool.false, InR IntKind.i64 (v7 + 1)]) := by kernel_rfl
theorem p74_5 (v7 : Int) (x0 : List (ByteArray × Int × Int × Int × Int × Unit)) : runF tab ext74 false 34 [] 2000 [] tys74 Tryd.f74.results [false] (cutAt b74 2) (E74_2 v7 x0) (L74_2 v7 x0) = some ([Dyn.mk Ty.bool (Decidable.decide ((↑(List.length x0) : Int) ≤ 16))], [], [Decidable.decide (v7 < (↑(List.length x0) : Int)) = Bool.false]) := by kernel_rfl
theorem snd74 : ∀ n, (∀ (x0 : List (ByteArray × Int × Int × Int × Int × Unit)) ds, R74 n x0 ds → ∀ w0 O q, AtV Tryd.prog 74 (PostR ds [] [] q w0 O) 34 w0 O q [] [.code b74] (entE 0 0 sig74 (x0, ())) (entL sig74 (x0, ()))) ∧ (∀ (v7 : Int) (x0 : List (ByteArray × Int × Int × Int × Int × Unit)) ds, R74_2 n v7 x0 ds → ∀ w0 O q, AtV Tryd.prog 74 (PostR ds [] [] q w0 O) 34 w0 O q [] (cutAt b74 2) (E74_2 v7 x0) (L74_2 v7 x0)) := by
  intro n
  induction n with
  | zero => exact ⟨fun _ _ h => by simp only [R74] at h, fun _ _ _ h => by simp only [R74_2] at h⟩
  | succ n ih =>
  obtain ⟨ih, ih2⟩ := ih
  refine ⟨?_, ?_⟩
  · intro x0 ds h w0 O q
    rw [R74] at h
    exact AtV.runN tabOk ext74Ok mixed (p74_0 x0) trivial (ih2 _ _ _ h w0 O q)

  · intro v7 x0 ds h w0 O q
    rw [R74_2] at h
    by_cases b0 : (Decidable.decide (v7 < (↑(List.length x0) : Int))) = true
    · rw [if_pos b0] at h
      obtain ⟨s0, s1, h⟩ := h
      by_cases b1 : (!g127_0 (List.getD x0 (Int.toNat v7) (ByteArray.empty, 0, 0, 0, 0, ()))) = true
      · rw [if_pos b1] at h
        subst h
        exact AtV.fin Tryd.func74 tabOk ext74Ok mixed (p74_1 v7 x0) ⟨b0, s0, s1, trivial, b1, rfl, trivial⟩
      · rw [if_neg b1] at h
        replace b1 := Bool.eq_false_iff.2 b1
        by_cases b2 : (Decidable.decide (v7 > 0)) = true
        · rw [if_pos b2] at h
          obtain ⟨s2, h⟩ := h
          obtain ⟨s3, s4, h⟩ := h
          by_cases b3 : (Op.bytesLess (ByteArray.toList (Prod.fst (List.getD x0 (Int.toNat v7) (ByteArray.empty, 0, 0, 0, 0, ())))) (ByteArray.toList (Prod.fst (List.getD x0 (Int.toNat (v7 - 1)) (ByteArray.empty, 0, 0, 0, 0, ())))) || ByteArray.toList (Prod.fst (List.getD x0 (Int.toNat v7) (ByteArray.empty, 0, 0, 0, 0, ()))) == ByteArray.toList (Prod.fst (List.getD x0 (Int.toNat (v7 - 1)) (ByteArray.empty, 0, 0, 0, 0, ())))) = true
          · rw [if_pos b3] at h
            subst h
            exact AtV.fin Tryd.func74 tabOk ext74Ok mixed (p74_2 v7 x0) ⟨b0, s0, s1, trivial, b1, b2, s2, s3, s4, b3, trivial⟩
          · rw [if_neg b3] at h
            replace b3 := Bool.eq_false_iff.2 b3
            obtain ⟨s5, h⟩ := h
            exact AtV.runN tabOk ext74Ok mixed (p74_3 v7 x0) ⟨b0, s0, s1, trivial, b1, b2, s2, s3, s4, b3, s5, trivial⟩ (ih2 _ _ _ h w0 O q)
        · rw [if_neg b2] at h
          replace b2 := Bool.eq_false_iff.2 b2
          obtain ⟨s2, h⟩ := h
          exact AtV.runN tabOk ext74Ok mixed (p74_4 v7 x0) ⟨b0, s0, s1, trivial, b1, b2, rfl, s2, trivial⟩ (ih2 _ _ _ h w0 O q)
    · rw [if_neg b0] at h
      replace b0 := Bool.eq_false_iff.2 b0
      subst h
      exact AtV.fin Tryd.func74 tabOk ext74Ok mixed (p74_5 v7 x0) ⟨b0, trivial⟩



/-- An inspection at its place. -/
def ok74 (x0 : List (ByteArray × Int × Int × Int × Int × Unit)) (i : Nat) (x : (ByteArray × Int × Int × Int × Int × Unit)) : Bool :=
  g127_0 x && (i == 0 || !(Op.bytesLess (ByteArray.toList x.1) (ByteArray.toList (x0.getD (i - 1) (ByteArray.empty, (0 : Int), (0 : Int), (0 : Int), (0 : Int), ())).1) || ByteArray.toList x.1 == ByteArray.toList (x0.getD (i - 1) (ByteArray.empty, (0 : Int), (0 : Int), (0 : Int), (0 : Int), ())).1))
def g74_0 (x0 : List (ByteArray × Int × Int × Int × Int × Unit)) : Bool := allI (ok74 x0) 0 x0 && decide (x0.length ≤ 16)
def P74 (x0 : List (ByteArray × Int × Int × Int × Int × Unit)) : Prop := True

theorem step74 (n i : Nat) (x0 : List (ByteArray × Int × Int × Int × Int × Unit)) (hm : x0.length ≤ maxLen) (hi : i < x0.length) (ds : List Dyn) :
    (if ok74 x0 i (x0.getD i (ByteArray.empty, (0 : Int), (0 : Int), (0 : Int), (0 : Int), ())) = true then R74_2 n ((i : Int) + 1) x0 ds else ds = [⟨.bool, false⟩]) → R74_2 (n + 1) (i : Int) x0 ds := by
  intro h
  have hu := inR_up hm hi
  rw [R74_2, if_pos (by simp; omega)]
  refine ⟨by omega, by omega, ?_⟩
  simp only [Int.toNat_natCast]
  unfold ok74 at h
  by_cases h1 : g127_0 (x0.getD i (ByteArray.empty, (0 : Int), (0 : Int), (0 : Int), (0 : Int), ())) = true
  case neg =>
    have h1 := Bool.eq_false_iff.2 h1
    rw [h1] at h
    rw [if_pos (by rw [h1]; rfl)]
    simpa using h
  case pos =>
    rw [h1] at h
    rw [if_neg (by rw [h1]; simp)]
    by_cases h0 : (i : Int) > 0
    · rw [if_pos (by simpa using h0)]
      have hi0 : (i == 0) = false := by simp; omega
      have e : ((i : Int) - 1).toNat = i - 1 := by omega
      refine ⟨by rw [i64_iff]; have : maxLen ≤ 9223372036854775807 := by decide
                 omega, by omega, by omega, ?_⟩
      rw [e]
      by_cases h2 : (Op.bytesLess (ByteArray.toList (x0.getD i (ByteArray.empty, (0 : Int), (0 : Int), (0 : Int), (0 : Int), ())).1) (ByteArray.toList (x0.getD (i - 1) (ByteArray.empty, (0 : Int), (0 : Int), (0 : Int), (0 : Int), ())).1) || ByteArray.toList (x0.getD i (ByteArray.empty, (0 : Int), (0 : Int), (0 : Int), (0 : Int), ())).1 == ByteArray.toList (x0.getD (i - 1) (ByteArray.empty, (0 : Int), (0 : Int), (0 : Int), (0 : Int), ())).1) = true
      · rw [if_pos h2]
        rw [hi0, h2] at h
        simpa using h
      · rw [if_neg h2]
        rw [hi0, Bool.eq_false_iff.2 h2] at h
        exact ⟨hu, by simpa using h⟩
    · rw [if_neg (by simpa using h0)]
      have hi0 : (i == 0) = true := by simp; omega
      rw [hi0] at h
      exact ⟨hu, by simpa using h⟩

theorem top74 (x0 : List (ByteArray × Int × Int × Int × Int × Unit)) (hw : x0.length ≤ maxLen) : R74 (x0.length + 1 + 1) x0 [⟨.bool, g74_0 x0⟩] := by
  rw [R74]
  have key := loop_testI x0 (ByteArray.empty, (0 : Int), (0 : Int), (0 : Int), (0 : Int), ()) (ok74 x0) [(⟨.bool, false⟩ : Dyn)] [⟨.bool, decide (x0.length ≤ 16)⟩] (fun n i ds => R74_2 n i x0 ds) (fun n => ?_) (fun n i hi hok ds hr => ?_) (fun n i hi hok => ?_)
  · unfold g74_0
    cases h : allI (ok74 x0) 0 x0 with
    | true => rw [if_pos h] at key; simpa using key
    | false => rw [if_neg (by rw [h]; simp)] at key; simpa using key
  · rw [R74_2, if_neg (by simp)]
    have hc : decide ((x0.length : Int) ≤ 16) = decide (x0.length ≤ 16) := by
      congr 1; exact propext ⟨fun h => by omega, fun h => by omega⟩
    rw [hc]
  · exact step74 n i x0 hw hi ds (by rw [if_pos hok]; exact hr)
  · exact step74 n i x0 hw hi _ (by rw [if_neg (by rw [hok]; simp)])

def S74 : Am.Spec := { sig := sig74, pre := fun ⟨x0, _⟩ => P74 x0, res := fun ⟨x0, _⟩ => [⟨Ty.bool, g74_0 x0⟩] }
theorem con74 : Contract Tryd.prog 74 S74 := contract_of Tryd.func74 hb74 (Nat.le_of_ble_eq_true (by kernel_rfl)) (fun ⟨x0, _⟩ h hwf w0 O q =>
  (snd74 _).1 x0 _ (top74 x0 hwf.1.1) w0 O q)

end Go.Proofs.YtakodkjcmacofaaDoor

/- The contracts of the library that this program uses, laid at this program. Written by a tool of the kit. -/
set_option linter.unusedVariables false
set_option maxRecDepth 100000
namespace Go.Proofs
open Go.Shelf
def Tryd.lays156_ren : Go.Shelf.Ren := ⟨fun | 156 => 157 | 165 => 169 | 166 => 93 | 169 => 97 | 240 => 140 | 241 => 187 | 276 => 166 | 277 => 196 | n => n, fun | 31 => 67 | 9 => 9 | 3 => 3 | 4 => 4 | 0 => 0 | 20 => 20 | 72 => 95 | 76 => 98 | 70 => 93 | 37 => 45 | 75 => 97 | 127 => 133 | 164 => 143 | 5 => 5 | 80 => 102 | n => n, fun | n => n⟩
theorem Tryd.lays156 : Go.Proofs.Lays.n156 Tryd.prog Tryd.lays156_ren := {
  mixed := by kernel_rfl
  f156 := Tryd.func157.trans (congrArg some (by kernel_rfl))
  f165 := Tryd.func169.trans (congrArg some (by kernel_rfl))
  f166 := Tryd.func93.trans (congrArg some (by kernel_rfl))
  f169 := Tryd.func97.trans (congrArg some (by kernel_rfl))
  f240 := Tryd.func140.trans (congrArg some (by kernel_rfl))
  f241 := Tryd.func187.trans (congrArg some (by kernel_rfl))
  f276 := Tryd.func166.trans (congrArg some (by kernel_rfl))
  f277 := Tryd.func196.trans (congrArg some (by kernel_rfl))
  t0 := Tryd.underlying0
  a0 := Tryd.isAgg0
  z0 := Tryd.sizeOf0
  v0 := Tryd.zeroValue0
  t3 := Tryd.underlying3
  a3 := Tryd.isAgg3
  z3 := Tryd.sizeOf3
  v3 := Tryd.zeroValue3
  t4 := Tryd.underlying4
  a4 := Tryd.isAgg4
  z4 := Tryd.sizeOf4
  v4 := Tryd.zeroValue4
  t9 := Tryd.underlying9
  a9 := Tryd.isAgg9
  z9 := Tryd.sizeOf9
  v9 := Tryd.zeroValue9
  t20 := Tryd.underlying20
  a20 := Tryd.isAgg20
  z20 := Tryd.sizeOf20
  v20 := Tryd.zeroValue20
  t31 := Tryd.underlying67
  a31 := Tryd.isAgg67
  z31 := Tryd.sizeOf67
  v31 := Tryd.zeroValue67
  t37 := Tryd.underlying45
  a37 := Tryd.isAgg45
  z37 := Tryd.sizeOf45
  v37 := Tryd.zeroValue45
  t70 := Tryd.underlying93
  a70 := Tryd.isAgg93
  z70 := Tryd.sizeOf93
  v70 := Tryd.zeroValue93
  t72 := Tryd.underlying95
  a72 := Tryd.isAgg95
  z72 := Tryd.sizeOf95
  v72 := Tryd.zeroValue95
  t75 := Tryd.underlying97
  a75 := Tryd.isAgg97
  z75 := Tryd.sizeOf97
  v75 := Tryd.zeroValue97
  t76 := Tryd.underlying98
  a76 := Tryd.isAgg98
  z76 := Tryd.sizeOf98
  v76 := Tryd.zeroValue98
  t127 := Tryd.underlying133
  a127 := Tryd.isAgg133
  z127 := Tryd.sizeOf133
  v127 := Tryd.zeroValue133
  t164 := Tryd.underlying143
  a164 := Tryd.isAgg143
  z164 := Tryd.sizeOf143
  v164 := Tryd.zeroValue143 }
theorem Tryd.Builder_Extra_156 : Builder.Extra Tryd.prog Tryd.lays156_ren := {
  sizeBuilder := by kernel_rfl
  liesBuilder := by kernel_rfl
  t5 := Tryd.underlying5
  a5 := Tryd.isAgg5
  z5 := Tryd.sizeOf5
  v5 := Tryd.zeroValue5
  infoByte := by kernel_rfl
  cellsByte := by kernel_rfl
  sizeByte := by kernel_rfl
  neB5 := by decide }
open Go.RowKit in theorem Tryd.strings_Join_none (a : Option Addr) (c : Nat) (sep : ByteArray) (w : World) :
    Calls Tryd.prog 157 #[.slice a 0 c, .string sep] w fun e w' => e = .returned (.string ⟨#[]⟩) ∧ w' = w := Any.strings_Join_none Tryd.lays156 Tryd.Builder_Extra_156 a c sep w
open Go.RowKit in theorem Tryd.strings_Join (bk o c : Nat) (xs : List ByteArray) (sep : ByteArray) (w : World) (hcells : ∀ (j : Nat) x, xs[j]? = some x → w.cell? ⟨bk, o + j, none⟩ = some (.string x)) (hbk : bk < w.heap.size) (hN : xs.length ≤ 140737488355328) (hcap : xs.length ≤ c) (hlen : (Lib.join (xs.map (·.data.toList)) sep.data.toList).length ≤ 140737488355328) :
    Calls Tryd.prog 157 #[.slice (some ⟨bk, o, none⟩) xs.length c, .string sep] w fun e w' => e = .returned (.string ⟨(Lib.join (xs.map (·.data.toList)) sep.data.toList).toArray⟩) ∧ Below w.heap.size w w' := Any.strings_Join Tryd.lays156 Tryd.Builder_Extra_156 bk o c xs sep w hcells hbk hN hcap hlen
def Tryd.laysM173_ren : Go.Shelf.Ren := ⟨fun | 173 => 141 | 246 => 167 | 283 => 181 | 284 => 182 | 285 => 183 | 286 => 184 | 129 => 192 | 317 => 191 | 318 => 193 | 319 => 194 | 320 => 195 | 337 => 197 | 338 => 198 | n => n, fun | 2 => 2 | 3 => 3 | 9 => 9 | 4 => 4 | 171 => 157 | 0 => 0 | 53 => 134 | 37 => 45 | 5 => 5 | 173 => 160 | 212 => 169 | 51 => 162 | 20 => 20 | 213 => 170 | 46 => 145 | 232 => 179 | 233 => 180 | n => n, fun | 17 => 1 | 18 => 4 | 19 => 5 | n => n⟩
theorem Tryd.laysM173 : Go.Proofs.LaysM.n173 Tryd.prog Tryd.laysM173_ren := {
  mixed := by kernel_rfl
  f129 := Tryd.func192.trans (congrArg some (by kernel_rfl))
  f173 := Tryd.func141.trans (congrArg some (by kernel_rfl))
  f246 := Tryd.func167.trans (congrArg some (by kernel_rfl))
  f283 := Tryd.func181.trans (congrArg some (by kernel_rfl))
  f284 := Tryd.func182.trans (congrArg some (by kernel_rfl))
  f285 := Tryd.func183.trans (congrArg some (by kernel_rfl))
  f286 := Tryd.func184.trans (congrArg some (by kernel_rfl))
  f317 := Tryd.func191.trans (congrArg some (by kernel_rfl))
  f318 := Tryd.func193.trans (congrArg some (by kernel_rfl))
  f319 := Tryd.func194.trans (congrArg some (by kernel_rfl))
  f320 := Tryd.func195.trans (congrArg some (by kernel_rfl))
  f337 := Tryd.func197.trans (congrArg some (by kernel_rfl))
  f338 := Tryd.func198.trans (congrArg some (by kernel_rfl))
  t0 := Tryd.underlying0
  a0 := Tryd.isAgg0
  z0 := Tryd.sizeOf0
  v0 := Tryd.zeroValue0
  t2 := Tryd.underlying2
  a2 := Tryd.isAgg2
  z2 := Tryd.sizeOf2
  v2 := Tryd.zeroValue2
  t3 := Tryd.underlying3
  a3 := Tryd.isAgg3
  z3 := Tryd.sizeOf3
  v3 := Tryd.zeroValue3
  t4 := Tryd.underlying4
  a4 := Tryd.isAgg4
  z4 := Tryd.sizeOf4
  v4 := Tryd.zeroValue4
  t5 := Tryd.underlying5
  a5 := Tryd.isAgg5
  z5 := Tryd.sizeOf5
  v5 := Tryd.zeroValue5
  t9 := Tryd.underlying9
  a9 := Tryd.isAgg9
  z9 := Tryd.sizeOf9
  v9 := Tryd.zeroValue9
  t20 := Tryd.underlying20
  a20 := Tryd.isAgg20
  z20 := Tryd.sizeOf20
  v20 := Tryd.zeroValue20
  t37 := Tryd.underlying45
  a37 := Tryd.isAgg45
  z37 := Tryd.sizeOf45
  v37 := Tryd.zeroValue45
  t46 := Tryd.underlying145
  a46 := Tryd.isAgg145
  z46 := Tryd.sizeOf145
  v46 := Tryd.zeroValue145
  t51 := Tryd.underlying162
  a51 := Tryd.isAgg162
  z51 := Tryd.sizeOf162
  v51 := Tryd.zeroValue162
  t53 := Tryd.underlying134
  a53 := Tryd.isAgg134
  z53 := Tryd.sizeOf134
  v53 := Tryd.zeroValue134
  t171 := Tryd.underlying157
  a171 := Tryd.isAgg157
  z171 := Tryd.sizeOf157
  v171 := Tryd.zeroValue157
  t173 := Tryd.underlying160
  a173 := Tryd.isAgg160
  z173 := Tryd.sizeOf160
  v173 := Tryd.zeroValue160
  t212 := Tryd.underlying169
  a212 := Tryd.isAgg169
  z212 := Tryd.sizeOf169
  v212 := Tryd.zeroValue169
  t213 := Tryd.underlying170
  a213 := Tryd.isAgg170
  z213 := Tryd.sizeOf170
  t232 := Tryd.underlying179
  a232 := Tryd.isAgg179
  z232 := Tryd.sizeOf179
  v232 := Tryd.zeroValue179
  t233 := Tryd.underlying180
  a233 := Tryd.isAgg180
  z233 := Tryd.sizeOf180
  v233 := Tryd.zeroValue180
  g17 := by kernel_rfl
  g18 := by kernel_rfl
  g19 := by kernel_rfl
  i0 := by kernel_rfl
  i2 := by kernel_rfl
  i3 := by kernel_rfl
  i4 := by kernel_rfl
  i5 := by kernel_rfl
  i9 := by kernel_rfl
  i20 := by kernel_rfl
  i37 := by kernel_rfl
  i46 := by kernel_rfl
  i51 := by kernel_rfl
  i53 := by kernel_rfl
  i171 := by kernel_rfl
  i173 := by kernel_rfl
  i212 := by kernel_rfl
  i232 := by kernel_rfl
  i233 := by kernel_rfl
  m17 := by kernel_rfl
  m18 := by kernel_rfl
  m19 := by kernel_rfl }
open Go.RowKit Go.Sort Go.Lib in theorem Tryd.strconv_FormatInt_10 (n : Int) (h0 : -9223372036854775808 ≤ n) (h1 : n ≤ 9223372036854775807) (w : World) (htab : Lib.TabIs Tryd.prog w "internal/strconv.uint64pow10" .u64 Lib.pow10Tab) :
    Calls Tryd.prog 141 #[.int .i64 n, .int .i64 10] w fun e w' => e = .returned (.string ⟨(Lib.itoa n).toArray⟩) ∧ ∃ k os, w' = grow (w.drewN k) os := Any.strconv_FormatInt_10 Tryd.laysM173 n h0 h1 w htab
def Tryd.lays144_ren : Go.Shelf.Ren := ⟨fun | 144 => 163 | 143 => 162 | 219 => 147 | 217 => 171 | 225 => 172 | 224 => 173 | 267 => 174 | 266 => 188 | 314 => 189 | n => n, fun | 9 => 9 | 4 => 4 | 3 => 3 | 5 => 5 | 46 => 145 | 146 => 163 | 51 => 162 | n => n, fun | 1 => 0 | n => n⟩
theorem Tryd.lays144 : Go.Proofs.Lays.n144 Tryd.prog Tryd.lays144_ren := {
  mixed := by kernel_rfl
  f143 := Tryd.func162.trans (congrArg some (by kernel_rfl))
  f144 := Tryd.func163.trans (congrArg some (by kernel_rfl))
  f217 := Tryd.func171.trans (congrArg some (by kernel_rfl))
  f219 := Tryd.func147.trans (congrArg some (by kernel_rfl))
  f224 := Tryd.func173.trans (congrArg some (by kernel_rfl))
  f225 := Tryd.func172.trans (congrArg some (by kernel_rfl))
  f266 := Tryd.func188.trans (congrArg some (by kernel_rfl))
  f267 := Tryd.func174.trans (congrArg some (by kernel_rfl))
  f314 := Tryd.func189.trans (congrArg some (by kernel_rfl))
  t3 := Tryd.underlying3
  a3 := Tryd.isAgg3
  z3 := Tryd.sizeOf3
  v3 := Tryd.zeroValue3
  t4 := Tryd.underlying4
  a4 := Tryd.isAgg4
  z4 := Tryd.sizeOf4
  v4 := Tryd.zeroValue4
  t5 := Tryd.underlying5
  a5 := Tryd.isAgg5
  z5 := Tryd.sizeOf5
  v5 := Tryd.zeroValue5
  t9 := Tryd.underlying9
  a9 := Tryd.isAgg9
  z9 := Tryd.sizeOf9
  v9 := Tryd.zeroValue9
  t46 := Tryd.underlying145
  a46 := Tryd.isAgg145
  z46 := Tryd.sizeOf145
  v46 := Tryd.zeroValue145
  t51 := Tryd.underlying162
  a51 := Tryd.isAgg162
  z51 := Tryd.sizeOf162
  v51 := Tryd.zeroValue162
  t146 := Tryd.underlying163
  a146 := Tryd.isAgg163
  z146 := Tryd.sizeOf163
  v146 := Tryd.zeroValue163
  g1 := by kernel_rfl }
open Go.RowKit Go.Lib in theorem Tryd.strings_Contains (s sub : ByteArray) (m : Int) (w : World) (hs : s.size < 4294967281) (hm : w.cell? ⟨0, 0, none⟩ = some (.int .i64 m)) :
    Calls Tryd.prog 163 #[.string s, .string sub] w fun e w' => e = .returned (.bool (Lib.contains s.data.toList sub.data.toList)) ∧ w' = w := Any.strings_Contains Tryd.lays144 s sub m w hs hm
def Tryd.lays145_ren : Go.Shelf.Ren := ⟨fun | 145 => 64 | 220 => 123 | 219 => 147 | 217 => 171 | 225 => 172 | 224 => 173 | 267 => 174 | 266 => 188 | 314 => 189 | n => n, fun | 9 => 9 | 4 => 4 | 59 => 64 | 3 => 3 | 5 => 5 | 46 => 145 | 146 => 163 | 51 => 162 | n => n, fun | 1 => 0 | n => n⟩
theorem Tryd.lays145 : Go.Proofs.Lays.n145 Tryd.prog Tryd.lays145_ren := {
  mixed := by kernel_rfl
  f145 := Tryd.func64.trans (congrArg some (by kernel_rfl))
  f217 := Tryd.func171.trans (congrArg some (by kernel_rfl))
  f219 := Tryd.func147.trans (congrArg some (by kernel_rfl))
  f220 := Tryd.func123.trans (congrArg some (by kernel_rfl))
  f224 := Tryd.func173.trans (congrArg some (by kernel_rfl))
  f225 := Tryd.func172.trans (congrArg some (by kernel_rfl))
  f266 := Tryd.func188.trans (congrArg some (by kernel_rfl))
  f267 := Tryd.func174.trans (congrArg some (by kernel_rfl))
  f314 := Tryd.func189.trans (congrArg some (by kernel_rfl))
  t3 := Tryd.underlying3
  a3 := Tryd.isAgg3
  z3 := Tryd.sizeOf3
  v3 := Tryd.zeroValue3
  t4 := Tryd.underlying4
  a4 := Tryd.isAgg4
  z4 := Tryd.sizeOf4
  v4 := Tryd.zeroValue4
  t5 := Tryd.underlying5
  a5 := Tryd.isAgg5
  z5 := Tryd.sizeOf5
  v5 := Tryd.zeroValue5
  t9 := Tryd.underlying9
  a9 := Tryd.isAgg9
  z9 := Tryd.sizeOf9
  v9 := Tryd.zeroValue9
  t46 := Tryd.underlying145
  a46 := Tryd.isAgg145
  z46 := Tryd.sizeOf145
  v46 := Tryd.zeroValue145
  t51 := Tryd.underlying162
  a51 := Tryd.isAgg162
  z51 := Tryd.sizeOf162
  v51 := Tryd.zeroValue162
  t59 := Tryd.underlying64
  a59 := Tryd.isAgg64
  z59 := Tryd.sizeOf64
  v59 := Tryd.zeroValue64
  t146 := Tryd.underlying163
  a146 := Tryd.isAgg163
  z146 := Tryd.sizeOf163
  v146 := Tryd.zeroValue163
  g1 := by kernel_rfl }
open Go.RowKit Go.Lib in theorem Tryd.strings_Cut (s sep : ByteArray) (m : Int) (w : World) (hs : s.size < 4294967281) (hm : w.cell? ⟨0, 0, none⟩ = some (.int .i64 m)) :
    Calls Tryd.prog 64 #[.string s, .string sep] w fun e w' => e = .returned (.tuple #[.string ⟨(Lib.cut s.data.toList sep.data.toList).1.toArray⟩, .string ⟨(Lib.cut s.data.toList sep.data.toList).2.1.toArray⟩, .bool (Lib.cut s.data.toList sep.data.toList).2.2]) ∧ ∃ n, w' = w.drewN n := Any.strings_Cut Tryd.lays145 s sep m w hs hm
def Tryd.lays99_ren : Go.Shelf.Ren := ⟨fun | 99 => 84 | 206 => 131 | n => n, fun | 9 => 9 | 4 => 4 | 3 => 3 | n => n, fun | n => n⟩
theorem Tryd.lays99 : Go.Proofs.Lays.n99 Tryd.prog Tryd.lays99_ren := {
  mixed := by kernel_rfl
  f99 := Tryd.func84.trans (congrArg some (by kernel_rfl))
  f206 := Tryd.func131.trans (congrArg some (by kernel_rfl))
  t3 := Tryd.underlying3
  a3 := Tryd.isAgg3
  z3 := Tryd.sizeOf3
  v3 := Tryd.zeroValue3
  t4 := Tryd.underlying4
  a4 := Tryd.isAgg4
  z4 := Tryd.sizeOf4
  v4 := Tryd.zeroValue4
  t9 := Tryd.underlying9
  a9 := Tryd.isAgg9
  z9 := Tryd.sizeOf9
  v9 := Tryd.zeroValue9 }
open Go.RowKit Go.Lib in theorem Tryd.strings_HasPrefix (s p : ByteArray) (w : World) :
    Calls Tryd.prog 84 #[.string s, .string p] w fun e w' => e = .returned (.bool (Lib.hasPrefix s.data.toList p.data.toList)) ∧ w' = w := Any.strings_HasPrefix Tryd.lays99 s p w
def Tryd.lays101_ren : Go.Shelf.Ren := ⟨fun | 101 => 83 | 208 => 130 | 206 => 131 | n => n, fun | 9 => 9 | 4 => 4 | 3 => 3 | n => n, fun | n => n⟩
theorem Tryd.lays101 : Go.Proofs.Lays.n101 Tryd.prog Tryd.lays101_ren := {
  mixed := by kernel_rfl
  f101 := Tryd.func83.trans (congrArg some (by kernel_rfl))
  f206 := Tryd.func131.trans (congrArg some (by kernel_rfl))
  f208 := Tryd.func130.trans (congrArg some (by kernel_rfl))
  t3 := Tryd.underlying3
  a3 := Tryd.isAgg3
  z3 := Tryd.sizeOf3
  v3 := Tryd.zeroValue3
  t4 := Tryd.underlying4
  a4 := Tryd.isAgg4
  z4 := Tryd.sizeOf4
  v4 := Tryd.zeroValue4
  t9 := Tryd.underlying9
  a9 := Tryd.isAgg9
  z9 := Tryd.sizeOf9
  v9 := Tryd.zeroValue9 }
open Go.RowKit Go.Lib in theorem Tryd.strings_TrimPrefix (s p : ByteArray) (w : World) :
    Calls Tryd.prog 83 #[.string s, .string p] w fun e w' => e = .returned (.string ⟨(Lib.trimPrefix s.data.toList p.data.toList).toArray⟩) ∧ w' = w := Any.strings_TrimPrefix Tryd.lays101 s p w
def Tryd.lays102_ren : Go.Shelf.Ren := ⟨fun | 102 => 85 | 209 => 132 | 207 => 158 | n => n, fun | 9 => 9 | 4 => 4 | 3 => 3 | n => n, fun | n => n⟩
theorem Tryd.lays102 : Go.Proofs.Lays.n102 Tryd.prog Tryd.lays102_ren := {
  mixed := by kernel_rfl
  f102 := Tryd.func85.trans (congrArg some (by kernel_rfl))
  f207 := Tryd.func158.trans (congrArg some (by kernel_rfl))
  f209 := Tryd.func132.trans (congrArg some (by kernel_rfl))
  t3 := Tryd.underlying3
  a3 := Tryd.isAgg3
  z3 := Tryd.sizeOf3
  v3 := Tryd.zeroValue3
  t4 := Tryd.underlying4
  a4 := Tryd.isAgg4
  z4 := Tryd.sizeOf4
  v4 := Tryd.zeroValue4
  t9 := Tryd.underlying9
  a9 := Tryd.isAgg9
  z9 := Tryd.sizeOf9
  v9 := Tryd.zeroValue9 }
open Go.RowKit Go.Lib in theorem Tryd.strings_TrimSuffix (s p : ByteArray) (w : World) (hs : s.size ≤ 9223372036854775807) :
    Calls Tryd.prog 85 #[.string s, .string p] w fun e w' => e = .returned (.string ⟨(Lib.trimSuffix s.data.toList p.data.toList).toArray⟩) ∧ w' = w := Any.strings_TrimSuffix Tryd.lays102 s p w hs
def Tryd.lays146_ren : Go.Shelf.Ren := ⟨fun | 146 => 87 | 221 => 134 | 268 => 160 | 138 => 161 | 143 => 162 | 195 => 177 | 197 => 178 | 218 => 179 | 219 => 147 | 260 => 190 | 217 => 171 | 225 => 172 | 224 => 173 | 267 => 174 | 266 => 188 | 314 => 189 | n => n, fun | 9 => 9 | 31 => 67 | 3 => 3 | 4 => 4 | 0 => 0 | 105 => 154 | 21 => 21 | 5 => 5 | 46 => 145 | 119 => 174 | 139 => 177 | 138 => 176 | 146 => 163 | 51 => 162 | n => n, fun | 1 => 0 | 3 => 2 | 4 => 3 | n => n⟩
theorem Tryd.lays146 : Go.Proofs.Lays.n146 Tryd.prog Tryd.lays146_ren := {
  mixed := by kernel_rfl
  f138 := Tryd.func161.trans (congrArg some (by kernel_rfl))
  f143 := Tryd.func162.trans (congrArg some (by kernel_rfl))
  f146 := Tryd.func87.trans (congrArg some (by kernel_rfl))
  f195 := Tryd.func177.trans (congrArg some (by kernel_rfl))
  f197 := Tryd.func178.trans (congrArg some (by kernel_rfl))
  f217 := Tryd.func171.trans (congrArg some (by kernel_rfl))
  f218 := Tryd.func179.trans (congrArg some (by kernel_rfl))
  f219 := Tryd.func147.trans (congrArg some (by kernel_rfl))
  f221 := Tryd.func134.trans (congrArg some (by kernel_rfl))
  f224 := Tryd.func173.trans (congrArg some (by kernel_rfl))
  f225 := Tryd.func172.trans (congrArg some (by kernel_rfl))
  f260 := Tryd.func190.trans (congrArg some (by kernel_rfl))
  f266 := Tryd.func188.trans (congrArg some (by kernel_rfl))
  f267 := Tryd.func174.trans (congrArg some (by kernel_rfl))
  f268 := Tryd.func160.trans (congrArg some (by kernel_rfl))
  f314 := Tryd.func189.trans (congrArg some (by kernel_rfl))
  t0 := Tryd.underlying0
  a0 := Tryd.isAgg0
  z0 := Tryd.sizeOf0
  v0 := Tryd.zeroValue0
  t3 := Tryd.underlying3
  a3 := Tryd.isAgg3
  z3 := Tryd.sizeOf3
  v3 := Tryd.zeroValue3
  t4 := Tryd.underlying4
  a4 := Tryd.isAgg4
  z4 := Tryd.sizeOf4
  v4 := Tryd.zeroValue4
  t5 := Tryd.underlying5
  a5 := Tryd.isAgg5
  z5 := Tryd.sizeOf5
  v5 := Tryd.zeroValue5
  t9 := Tryd.underlying9
  a9 := Tryd.isAgg9
  z9 := Tryd.sizeOf9
  v9 := Tryd.zeroValue9
  t21 := Tryd.underlying21
  a21 := Tryd.isAgg21
  z21 := Tryd.sizeOf21
  v21 := Tryd.zeroValue21
  t31 := Tryd.underlying67
  a31 := Tryd.isAgg67
  z31 := Tryd.sizeOf67
  v31 := Tryd.zeroValue67
  t46 := Tryd.underlying145
  a46 := Tryd.isAgg145
  z46 := Tryd.sizeOf145
  v46 := Tryd.zeroValue145
  t51 := Tryd.underlying162
  a51 := Tryd.isAgg162
  z51 := Tryd.sizeOf162
  v51 := Tryd.zeroValue162
  t105 := Tryd.underlying154
  a105 := Tryd.isAgg154
  z105 := Tryd.sizeOf154
  v105 := Tryd.zeroValue154
  t119 := Tryd.underlying174
  a119 := Tryd.isAgg174
  z119 := Tryd.sizeOf174
  t138 := Tryd.underlying176
  a138 := Tryd.isAgg176
  z138 := Tryd.sizeOf176
  v138 := Tryd.zeroValue176
  t139 := Tryd.underlying177
  a139 := Tryd.isAgg177
  z139 := Tryd.sizeOf177
  v139 := Tryd.zeroValue177
  t146 := Tryd.underlying163
  a146 := Tryd.isAgg163
  z146 := Tryd.sizeOf163
  v146 := Tryd.zeroValue163
  g1 := by kernel_rfl
  g3 := by kernel_rfl
  g4 := by kernel_rfl }
open Go.RowKit Go.Lib in theorem Tryd.strings_Split (s sep : ByteArray) (m : Int) (w : World) (hs : s.size < 4294967281) (hm : w.cell? ⟨0, 0, none⟩ = some (.int .i64 m)) (h1 : 1 ≤ sep.size) :
    Calls Tryd.prog 87 #[.string s, .string sep] w fun e w' =>
      e = .returned (.slice (some ⟨w.heap.size, 0, none⟩) (Lib.countB s sep + 1) (Lib.countB s sep + 1)) ∧ w' = w.alloc (.cells ((Lib.splitB sep 0 (Lib.countB s sep) s).map Value.string).toArray 9) := Any.strings_Split Tryd.lays146 (by kernel_rfl) s sep m w hs hm h1
def Tryd.lays105_ren : Go.Shelf.Ren := ⟨fun | 105 => 143 | 212 => 168 | 99 => 84 | 165 => 169 | 166 => 93 | 170 => 170 | 169 => 97 | 263 => 185 | 264 => 186 | 206 => 131 | 240 => 140 | 241 => 187 | 276 => 166 | 277 => 196 | n => n, fun | 9 => 9 | 3 => 3 | 4 => 4 | 20 => 20 | 0 => 0 | 46 => 145 | 109 => 146 | 5 => 5 | 72 => 95 | 76 => 98 | 51 => 162 | 146 => 163 | 53 => 134 | 148 => 165 | 70 => 93 | 37 => 45 | 75 => 97 | 127 => 133 | 164 => 143 | 80 => 102 | n => n, fun | n => n⟩
theorem Tryd.lays105 : Go.Proofs.Lays.n105 Tryd.prog Tryd.lays105_ren := {
  mixed := by kernel_rfl
  f99 := Tryd.func84.trans (congrArg some (by kernel_rfl))
  f105 := Tryd.func143.trans (congrArg some (by kernel_rfl))
  f165 := Tryd.func169.trans (congrArg some (by kernel_rfl))
  f166 := Tryd.func93.trans (congrArg some (by kernel_rfl))
  f169 := Tryd.func97.trans (congrArg some (by kernel_rfl))
  f170 := Tryd.func170.trans (congrArg some (by kernel_rfl))
  f206 := Tryd.func131.trans (congrArg some (by kernel_rfl))
  f212 := Tryd.func168.trans (congrArg some (by kernel_rfl))
  f240 := Tryd.func140.trans (congrArg some (by kernel_rfl))
  f241 := Tryd.func187.trans (congrArg some (by kernel_rfl))
  f263 := Tryd.func185.trans (congrArg some (by kernel_rfl))
  f264 := Tryd.func186.trans (congrArg some (by kernel_rfl))
  f276 := Tryd.func166.trans (congrArg some (by kernel_rfl))
  f277 := Tryd.func196.trans (congrArg some (by kernel_rfl))
  t0 := Tryd.underlying0
  a0 := Tryd.isAgg0
  z0 := Tryd.sizeOf0
  v0 := Tryd.zeroValue0
  t3 := Tryd.underlying3
  a3 := Tryd.isAgg3
  z3 := Tryd.sizeOf3
  v3 := Tryd.zeroValue3
  t4 := Tryd.underlying4
  a4 := Tryd.isAgg4
  z4 := Tryd.sizeOf4
  v4 := Tryd.zeroValue4
  t5 := Tryd.underlying5
  a5 := Tryd.isAgg5
  z5 := Tryd.sizeOf5
  v5 := Tryd.zeroValue5
  t9 := Tryd.underlying9
  a9 := Tryd.isAgg9
  z9 := Tryd.sizeOf9
  v9 := Tryd.zeroValue9
  t20 := Tryd.underlying20
  a20 := Tryd.isAgg20
  z20 := Tryd.sizeOf20
  v20 := Tryd.zeroValue20
  t37 := Tryd.underlying45
  a37 := Tryd.isAgg45
  z37 := Tryd.sizeOf45
  v37 := Tryd.zeroValue45
  t46 := Tryd.underlying145
  a46 := Tryd.isAgg145
  z46 := Tryd.sizeOf145
  v46 := Tryd.zeroValue145
  t51 := Tryd.underlying162
  a51 := Tryd.isAgg162
  z51 := Tryd.sizeOf162
  v51 := Tryd.zeroValue162
  t53 := Tryd.underlying134
  a53 := Tryd.isAgg134
  z53 := Tryd.sizeOf134
  v53 := Tryd.zeroValue134
  t70 := Tryd.underlying93
  a70 := Tryd.isAgg93
  z70 := Tryd.sizeOf93
  v70 := Tryd.zeroValue93
  t72 := Tryd.underlying95
  a72 := Tryd.isAgg95
  z72 := Tryd.sizeOf95
  v72 := Tryd.zeroValue95
  t75 := Tryd.underlying97
  a75 := Tryd.isAgg97
  z75 := Tryd.sizeOf97
  v75 := Tryd.zeroValue97
  t76 := Tryd.underlying98
  a76 := Tryd.isAgg98
  z76 := Tryd.sizeOf98
  v76 := Tryd.zeroValue98
  t109 := Tryd.underlying146
  a109 := Tryd.isAgg146
  z109 := Tryd.sizeOf146
  v109 := Tryd.zeroValue146
  t127 := Tryd.underlying133
  a127 := Tryd.isAgg133
  z127 := Tryd.sizeOf133
  v127 := Tryd.zeroValue133
  t146 := Tryd.underlying163
  a146 := Tryd.isAgg163
  z146 := Tryd.sizeOf163
  v146 := Tryd.zeroValue163
  t148 := Tryd.underlying165
  a148 := Tryd.isAgg165
  z148 := Tryd.sizeOf165
  v148 := Tryd.zeroValue165
  t164 := Tryd.underlying143
  a164 := Tryd.isAgg143
  z164 := Tryd.sizeOf143
  v164 := Tryd.zeroValue143 }
theorem Tryd.Builder_Extra_105 : Builder.Extra Tryd.prog Tryd.lays105_ren := {
  sizeBuilder := by kernel_rfl
  liesBuilder := by kernel_rfl
  t5 := Tryd.underlying5
  a5 := Tryd.isAgg5
  z5 := Tryd.sizeOf5
  v5 := Tryd.zeroValue5
  infoByte := by kernel_rfl
  cellsByte := by kernel_rfl
  sizeByte := by kernel_rfl
  neB5 := by decide }
open Go.RowKit Go.Lib in theorem Tryd.strings_Repeat (s : ByteArray) (c : Nat) (w : World) (hc : c ≤ 9223372036854775807) (hlen : s.size * c ≤ 140737488355328) :
    Calls Tryd.prog 143 #[.string s, .int .i64 c] w fun e w' => e = .returned (.string ⟨(Lib.repeatL s.data.toList c).toArray⟩) ∧ Below w.heap.size w w' := Any.strings_Repeat Tryd.lays105 Tryd.Builder_Extra_105 s c w hc hlen
end Go.Proofs

/- Function 141 (strconv.FormatInt): its contract, off what is known of the library. -/
set_option linter.unusedVariables false
set_option linter.unusedSimpArgs false
set_option maxRecDepth 100000
namespace Go.Proofs.YtakodkjcmacofaaDoor
open Go Go.Am Go.Proofs

def sig141 : List AT := [AT.v (Ty.int .i64), AT.v (Ty.int .i64)]
def g141_0 (x0 x1 : Int) : ByteArray := numB x0
def P141 (x0 x1 : Int) : Prop := x1 = 10
def S141 : Am.Spec := { sig := sig141, pre := fun ⟨x0, x1, _⟩ => P141 x0 x1, res := fun ⟨x0, x1, _⟩ => [⟨Ty.str, g141_0 x0 x1⟩] }
theorem con141 : Contract Tryd.prog 141 S141 := contract_flat rfl fun w ⟨x0, x1, _⟩ vs bss hg hp hw ha => by
  obtain ⟨v0, s0, _, _, rfl, _, ⟨_, rfl, hi⟩, v1, s1, _, _, rfl, _, ⟨_, rfl, _⟩, rfl, _⟩ := ha
  obtain rfl : x1 = 10 := hp
  have hi : InR .i64 x0 := hi
  rw [i64_iff] at hi
  refine ⟨fun d hd => ?_, ?_⟩
  · rw [List.mem_singleton.1 hd]
    refine ⟨rfl, ?_⟩
    show (numB x0).size ≤ maxLen
    have := numB_size x0 hi.1 hi.2
    unfold maxLen; omega
  · refine (Tryd.strconv_FormatInt_10 x0 hi.1 hi.2 w (pow10G hg)).mono ?_
    rintro e w' ⟨rfl, n, os, rfl⟩
    exact ⟨rfl, kept_grow _ _ _⟩

end Go.Proofs.YtakodkjcmacofaaDoor

/- Function 94 (impl.Decimal): its runs between cut points. Written by a program of this repo (gen). -/
set_option linter.unusedVariables false
set_option linter.unusedSimpArgs false
set_option maxRecDepth 100000
namespace Go.Proofs.YtakodkjcmacofaaDoor
open Go Go.Am Go.Proofs
def ext94 : Ext := [(141, S141)]
theorem call94_141 : Callable Tryd.prog 141 := ⟨Tryd.f141, Tryd.func141, by kernel_rfl, by kernel_rfl⟩
theorem ext94Ok : ExtOk Tryd.prog ext94 := ⟨⟨call94_141, con141⟩, trivial⟩
/-! Function 94. -/
noncomputable def b94 : Code := bodyOf Tryd.f94
theorem hb94 : Tryd.f94.body = some b94 := by kernel_rfl
def sig94 : List AT := [AT.v (Ty.int IntKind.i64)]
def tys94 : List Ty := [Ty.str]
def P94 (x0 : Int) : Prop := ((P141 x0 10) ∧ True)
def g94_0 (x0 : Int) : ByteArray := g141_0 x0 10
theorem p94_0 (x0 : Int) : runF tab ext94 false 5 [] 2000 [] tys94 Tryd.f94.results [] [.code b94] (entE 0 0 sig94 (x0, ())) (entL sig94 (x0, ())) = some ([Dyn.mk Ty.str (g141_0 x0 10)], [], [P141 x0 10]) := by kernel_rfl
theorem at94 (x0 : Int) (h : P94 x0) (w0 : World) (O : List Nat) (q : Nat → Value) : AtV Tryd.prog 94 (PostR [⟨Ty.str, g94_0 x0⟩] [] [] q w0 O) 5 w0 O q [] [.code b94] (entE 0 0 sig94 (x0, ())) (entL sig94 (x0, ())) := by
  unfold P94 at h
  unfold g94_0
  obtain ⟨s0, h⟩ := h
  exact AtV.fin Tryd.func94 tabOk ext94Ok mixed (p94_0 x0) ⟨s0, trivial⟩

def S94 : Am.Spec := { sig := sig94, pre := fun ⟨x0, _⟩ => P94 x0, res := fun ⟨x0, _⟩ => [⟨Ty.str, g94_0 x0⟩] }
theorem con94 : Contract Tryd.prog 94 S94 := contract_of Tryd.func94 hb94 (Nat.le_of_ble_eq_true (by kernel_rfl)) (fun ⟨x0, _⟩ h _ w0 O q => at94 x0 h w0 O q)


end Go.Proofs.YtakodkjcmacofaaDoor

/- Function 157 (strings.Join): its contract, off what is known of the library. -/
set_option linter.unusedVariables false
set_option linter.unusedSimpArgs false
set_option maxRecDepth 100000
namespace Go.Proofs.YtakodkjcmacofaaDoor
open Go Go.Am Go.Proofs

def sig157 : List AT := [AT.v (Ty.sl Ty.str), AT.v Ty.str]
def g157_0 (x0 : List ByteArray) (x1 : ByteArray) : ByteArray := ⟨(Lib.join (x0.map fun x => x.data.toList) x1.data.toList).toArray⟩
def P157 (x0 : List ByteArray) (x1 : ByteArray) : Prop := x0.length ≤ 1048576 ∧ (Lib.join (x0.map fun x => x.data.toList) x1.data.toList).length ≤ 140737488355328
def S157 : Am.Spec := { sig := sig157, pre := fun ⟨x0, x1, _⟩ => P157 x0 x1, res := fun ⟨x0, x1, _⟩ => [⟨Ty.str, g157_0 x0 x1⟩] }
theorem con157 : Contract Tryd.prog 157 S157 := contract_flat rfl fun w ⟨x0, x1, _⟩ vs bss hg hp hw ha => by
  obtain ⟨v0, s0, _, _, rfl, _, ⟨_, ho⟩, v1, s1, _, _, rfl, _, ⟨_, rfl, _⟩, rfl, _⟩ := ha
  obtain ⟨h0, h1⟩ : x0.length ≤ 1048576 ∧ (Lib.join (x0.map fun x => x.data.toList) x1.data.toList).length ≤ 140737488355328 := hp
  refine ⟨fun d hd => ?_, ?_⟩
  · rw [List.mem_singleton.1 hd]
    refine ⟨rfl, ?_⟩
    show (List.toArray _).size ≤ maxLen
    rw [List.size_toArray]; exact Nat.le_trans h1 (by decide)
  · obtain ⟨_, _, hcase⟩ := slAt_flat (t := .str) rfl ho
    rcases hcase with ⟨ad, rfl, rfl⟩ | ⟨b', off, cap, rfl, h2, h3, hG, hcells⟩
    · refine (Tryd.strings_Join_none ad 0 x1 w).mono ?_
      rintro e w' ⟨rfl, rfl⟩
      exact ⟨rfl, Kept.refl _ _⟩
    · refine (Tryd.strings_Join b' off cap x0 x1 w (fun j x hx => ?_) hG.1 (by omega) h2 h1).mono ?_
      · refine hcells j _ ?_
        have e : fcs .str x0 = x0.map Value.string := by
          have : ∀ xs : List ByteArray, fcs .str xs = xs.map Value.string := by
            intro xs
            induction xs with
            | nil => rfl
            | cons a r ih => unfold fcs at ih ⊢; rw [List.map_cons, List.flatten_cons, ih]; rfl
          exact this x0
        rw [e, List.getElem?_map, hx]
        rfl
      · rintro e w' ⟨rfl, hb⟩
        exact ⟨rfl, Kept.of_below hb⟩

end Go.Proofs.YtakodkjcmacofaaDoor

/- Function 156 (impl.isValue): its runs between cut points. Written by a program of this repo (gen). -/
set_option linter.unusedVariables false
set_option linter.unusedSimpArgs false
set_option maxRecDepth 100000
namespace Go.Proofs.YtakodkjcmacofaaDoor
open Go Go.Am Go.Proofs
def ext156 : Ext := [(102, S102)]
theorem call156_102 : Callable Tryd.prog 102 := ⟨Tryd.f102, Tryd.func102, by kernel_rfl, by kernel_rfl⟩
theorem ext156Ok : ExtOk Tryd.prog ext156 := ⟨⟨call156_102, con102⟩, trivial⟩
/-! Function 156. -/
noncomputable def b156 : Code := bodyOf Tryd.f156
theorem hb156 : Tryd.f156.body = some b156 := by kernel_rfl
def sig156 : List AT := [AT.v (Ty.int IntKind.i64)]
def tys156 : List Ty := [Ty.bool]
def P156 (x0 : Int) : Prop := True
def g156_0 (x0 : Int) : Bool := g102_0 x0 (-1000000000000) 1000000000000
theorem p156_0 (x0 : Int) : runF tab ext156 false 5 [] 2000 [] tys156 Tryd.f156.results [] [.code b156] (entE 0 0 sig156 (x0, ())) (entL sig156 (x0, ())) = some ([Dyn.mk Ty.bool (g102_0 x0 (-1000000000000) 1000000000000)], [], [True]) := by kernel_rfl
theorem at156 (x0 : Int) (h : P156 x0) (w0 : World) (O : List Nat) (q : Nat → Value) : AtV Tryd.prog 156 (PostR [⟨Ty.bool, g156_0 x0⟩] [] [] q w0 O) 5 w0 O q [] [.code b156] (entE 0 0 sig156 (x0, ())) (entL sig156 (x0, ())) := by
  unfold P156 at h
  unfold g156_0
  exact AtV.fin Tryd.func156 tabOk ext156Ok mixed (p156_0 x0) ⟨trivial, trivial⟩

def S156 : Am.Spec := { sig := sig156, pre := fun ⟨x0, _⟩ => P156 x0, res := fun ⟨x0, _⟩ => [⟨Ty.bool, g156_0 x0⟩] }
theorem con156 : Contract Tryd.prog 156 S156 := contract_of Tryd.func156 hb156 (Nat.le_of_ble_eq_true (by kernel_rfl)) (fun ⟨x0, _⟩ h _ w0 O q => at156 x0 h w0 O q)


end Go.Proofs.YtakodkjcmacofaaDoor

/- Function 155 (impl.ListText$1): its runs between cut points. Written by a program of this repo (gen). -/
set_option linter.unusedVariables false
set_option linter.unusedSimpArgs false
set_option maxRecDepth 100000
namespace Go.Proofs.YtakodkjcmacofaaDoor
open Go Go.Am Go.Proofs
def ext155 : Ext := [(156, S156)]
theorem call155_156 : Callable Tryd.prog 156 := ⟨Tryd.f156, Tryd.func156, by kernel_rfl, by kernel_rfl⟩
theorem ext155Ok : ExtOk Tryd.prog ext155 := ⟨⟨call155_156, con156⟩, trivial⟩
/-! Function 155. -/
noncomputable def b155 : Code := bodyOf Tryd.f155
theorem hb155 : Tryd.f155.body = some b155 := by kernel_rfl
def sig155 : List AT := [AT.v (Ty.int IntKind.i64)]
def tys155 : List Ty := [Ty.bool]
def P155 (x0 : Int) : Prop := True
def g155_0 (x0 : Int) : Bool := !g156_0 x0
theorem p155_0 (x0 : Int) : runF tab ext155 false 6 [] 2000 [] tys155 Tryd.f155.results [] [.code b155] (entE 0 0 sig155 (x0, ())) (entL sig155 (x0, ())) = some ([Dyn.mk Ty.bool !g156_0 x0], [], [True]) := by kernel_rfl
theorem at155 (x0 : Int) (h : P155 x0) (w0 : World) (O : List Nat) (q : Nat → Value) : AtV Tryd.prog 155 (PostR [⟨Ty.bool, g155_0 x0⟩] [] [] q w0 O) 6 w0 O q [] [.code b155] (entE 0 0 sig155 (x0, ())) (entL sig155 (x0, ())) := by
  unfold P155 at h
  unfold g155_0
  exact AtV.fin Tryd.func155 tabOk ext155Ok mixed (p155_0 x0) ⟨trivial, trivial⟩

def S155 : Am.Spec := { sig := sig155, pre := fun ⟨x0, _⟩ => P155 x0, res := fun ⟨x0, _⟩ => [⟨Ty.bool, g155_0 x0⟩] }
theorem con155 : Contract Tryd.prog 155 S155 := contract_of Tryd.func155 hb155 (Nat.le_of_ble_eq_true (by kernel_rfl)) (fun ⟨x0, _⟩ h _ w0 O q => at155 x0 h w0 O q)


end Go.Proofs.YtakodkjcmacofaaDoor

/- Function 176 (slices.IndexFunc[[]int64,int64]): its runs between cut points. Written by a program of this repo (gen). -/
set_option linter.unusedVariables false
set_option linter.unusedSimpArgs false
set_option maxRecDepth 100000
namespace Go.Proofs.YtakodkjcmacofaaDoor
open Go Go.Am Go.Proofs
def ext176c155 : Ext := [(155, S155)]
theorem call176c155_155 : Callable Tryd.prog 155 := ⟨Tryd.f155, Tryd.func155, by kernel_rfl, by kernel_rfl⟩
theorem ext176c155Ok : ExtOk Tryd.prog ext176c155 := ⟨⟨call176c155_155, con155⟩, trivial⟩
/-! Function 176c155. -/
noncomputable def b176c155 : Code := bodyOf Tryd.f176
theorem hb176c155 : Tryd.f176.body = some b176c155 := by kernel_rfl
def sig176c155 : List AT := [AT.v (Ty.sl (Ty.int IntKind.i64)), AT.fn 155 []]
def tys176c155 : List Ty := [Ty.int IntKind.i64]
def E176c155_2 (v8 : Int) (x0 : List Int) : Env := [(0, PV.a (Atom.sl (Ty.int IntKind.i64) x0)), (1, PV.fn 155 []), (7, PV.a (Atom.val (Value.int IntKind.i64 (↑(List.length x0) : Int)))), (8, PV.a (Atom.val (Value.int IntKind.i64 v8)))]
def L176c155_2 (v8 : Int) (x0 : List Int) : Heap := []
mutual
def R176c155 : Nat → List Int → List Dyn → Prop
  | 0, _, _ => False
  | n + 1, x0, ds => (R176c155_2 n (0) (x0) ds)
def R176c155_2 : Nat → Int → List Int → List Dyn → Prop
  | 0, _, _, _ => False
  | n + 1, v8, x0, ds => (if (Decidable.decide (v8 < (↑(List.length x0) : Int))) = true then ((0 ≤ v8) ∧ (v8 < (↑(List.length x0) : Int)) ∧ (if (g155_0 (List.getD x0 (Int.toNat v8) 0)) = true then (ds = [Dyn.mk (Ty.int IntKind.i64) v8]) else ((InR IntKind.i64 (v8 + 1)) ∧ (R176c155_2 n (v8 + 1) (x0) ds)))) else (ds = [Dyn.mk (Ty.int IntKind.i64) (-1)]))
end
theorem p176c155_0 (x0 : List Int) : Am.runN tab ext176c155 false 19 [] 2000 [] [] [0, 1, 7, 8] [] [] [.code b176c155] (entE 0 0 sig176c155 (x0, (), ())) (entL sig176c155 (x0, (), ())) = some (cutAt b176c155 2, E176c155_2 (0) (x0), L176c155_2 (0) (x0), []) := by kernel_rfl
theorem p176c155_1 (v8 : Int) (x0 : List Int) : runF tab ext176c155 false 19 [] 2000 [] tys176c155 Tryd.f176.results [true, true] (cutAt b176c155 2) (E176c155_2 v8 x0) (L176c155_2 v8 x0) = some ([Dyn.mk (Ty.int IntKind.i64) v8], [], [Decidable.decide (v8 < (↑(List.length x0) : Int)) = Bool.true, 0 ≤ v8, v8 < (↑(List.length x0) : Int), True, g155_0 (List.getD x0 (Int.toNat v8) 0) = Bool.true]) := by kernel_rfl
theorem p176c155_2 (v8 : Int) (x0 : List Int) : Am.runN tab ext176c155 false 19 [] 2000 [] [] [0, 1, 7, 8] [] [true, false] (cutAt b176c155 2) (E176c155_2 v8 x0) (L176c155_2 v8 x0) = some (cutAt b176c155 2, E176c155_2 (v8 + 1) (x0), L176c155_2 (v8 + 1) (x0), [Decidable.decide (v8 < (↑(List.length x0) : Int)) = Bool.true, 0 ≤ v8, v8 < (↑(List.length x0) : Int), True, g155_0 (List.getD x0 (Int.toNat v8) 0) = Bool.false, InR IntKind.i64 (v8 + 1)]) := by kernel_rfl
theorem p176c155_3 (v8 : Int) (x0 : List Int) : runF tab ext176c155 false 19 [] 2000 [] tys176c155 Tryd.f176.results [false] (cutAt b176c155 2) (E176c155_2 v8 x0) (L176c155_2 v8 x0) = some ([Dyn.mk (Ty.int IntKind.i64) (-1)], [], [Decidable.decide (v8 < (↑(List.length x0) : Int)) = Bool.false]) := by kernel_rfl
theorem snd176c155 : ∀ n, (∀ (x0 : List Int) ds, R176c155 n x0 ds → ∀ w0 O q, AtV Tryd.prog 176 (PostR ds [] [] q w0 O) 19 w0 O q [] [.code b176c155] (entE 0 0 sig176c155 (x0, (), ())) (entL sig176c155 (x0, (), ()))) ∧ (∀ (v8 : Int) (x0 : List Int) ds, R176c155_2 n v8 x0 ds → ∀ w0 O q, AtV Tryd.prog 176 (PostR ds [] [] q w0 O) 19 w0 O q [] (cutAt b176c155 2) (E176c155_2 v8 x0) (L176c155_2 v8 x0)) := by
  intro n
  induction n with
  | zero => exact ⟨fun _ _ h => by simp only [R176c155] at h, fun _ _ _ h => by simp only [R176c155_2] at h⟩
  | succ n ih =>
  obtain ⟨ih, ih2⟩ := ih
  refine ⟨?_, ?_⟩
  · intro x0 ds h w0 O q
    rw [R176c155] at h
    exact AtV.runN tabOk ext176c155Ok mixed (p176c155_0 x0) trivial (ih2 _ _ _ h w0 O q)

  · intro v8 x0 ds h w0 O q
    rw [R176c155_2] at h
    by_cases b0 : (Decidable.decide (v8 < (↑(List.length x0) : Int))) = true
    · rw [if_pos b0] at h
      obtain ⟨s0, s1, h⟩ := h
      by_cases b1 : (g155_0 (List.getD x0 (Int.toNat v8) 0)) = true
      · rw [if_pos b1] at h
        subst h
        exact AtV.fin Tryd.func176 tabOk ext176c155Ok mixed (p176c155_1 v8 x0) ⟨b0, s0, s1, trivial, b1, trivial⟩
      · rw [if_neg b1] at h
        replace b1 := Bool.eq_false_iff.2 b1
        obtain ⟨s2, h⟩ := h
        exact AtV.runN tabOk ext176c155Ok mixed (p176c155_2 v8 x0) ⟨b0, s0, s1, trivial, b1, s2, trivial⟩ (ih2 _ _ _ h w0 O q)
    · rw [if_neg b0] at h
      replace b0 := Bool.eq_false_iff.2 b0
      subst h
      exact AtV.fin Tryd.func176 tabOk ext176c155Ok mixed (p176c155_3 v8 x0) ⟨b0, trivial⟩



def g176c155_0 (x0 : List (Int)) : Int := idx (x0.findIdx? g155_0)
def P176c155 (x0 : List (Int)) : Prop := True

theorem top176c155 (x0 : List (Int)) (hm : x0.length ≤ maxLen) : R176c155 (x0.length + 1 + 1) x0 [⟨.int .i64, g176c155_0 x0⟩] := by
  rw [R176c155]
  have key := loop_find x0 (0 : Int) g155_0 [(⟨.int .i64, -1⟩ : Dyn)] (fun k => [⟨.int .i64, k⟩]) (fun n i ds => R176c155_2 n i x0 ds) (fun n => ?_) (fun n i hi hok ds hr => ?_) (fun n i hi hok => ?_)
  · unfold g176c155_0
    cases h : x0.findIdx? g155_0 <;> rw [h] at key <;> exact key
  · rw [R176c155_2, if_neg (by simp)]
  · rw [R176c155_2, if_pos (by simp; omega)]
    simp only [Int.toNat_natCast]
    refine ⟨by omega, by omega, ?_⟩
    rw [if_neg (by rw [hok]; simp)]
    exact ⟨inR_up hm hi, hr⟩
  · rw [R176c155_2, if_pos (by simp; omega)]
    simp only [Int.toNat_natCast]
    refine ⟨by omega, by omega, ?_⟩
    rw [if_pos hok] <;> trivial

def S176c155 : Am.Spec := { sig := sig176c155, pre := fun ⟨x0, _⟩ => P176c155 x0, res := fun ⟨x0, _⟩ => [⟨Ty.int .i64, g176c155_0 x0⟩] }
theorem con176c155 : Contract Tryd.prog 176 S176c155 := contract_of Tryd.func176 hb176c155 (Nat.le_of_ble_eq_true (by kernel_rfl)) (fun ⟨x0, _⟩ h hwf w0 O q =>
  (snd176c155 _).1 x0 _ (top176c155 x0 hwf.1.1) w0 O q)

theorem any176c155 (x0 : List (Int)) : decide (g176c155_0 x0 ≥ 0) = x0.any g155_0 := by
  have := findIdx_any g155_0 x0
  unfold g176c155_0
  cases h : x0.any g155_0 with
  | true => rw [h] at this; simpa using this
  | false => rw [h] at this; simpa using this

end Go.Proofs.YtakodkjcmacofaaDoor

/- Function 154 (slices.ContainsFunc[[]int64,int64]): its runs between cut points. Written by a program of this repo (gen). -/
set_option linter.unusedVariables false
set_option linter.unusedSimpArgs false
set_option maxRecDepth 100000
namespace Go.Proofs.YtakodkjcmacofaaDoor
open Go Go.Am Go.Proofs
def ext154c155 : Ext := [(176, S176c155), (155, S155)]
theorem call154c155_176 : Callable Tryd.prog 176 := ⟨Tryd.f176, Tryd.func176, by kernel_rfl, by kernel_rfl⟩
theorem call154c155_155 : Callable Tryd.prog 155 := ⟨Tryd.f155, Tryd.func155, by kernel_rfl, by kernel_rfl⟩
theorem ext154c155Ok : ExtOk Tryd.prog ext154c155 := ⟨⟨call154c155_176, con176c155⟩, ⟨call154c155_155, con155⟩, trivial⟩
/-! Function 154c155. -/
noncomputable def b154c155 : Code := bodyOf Tryd.f154
theorem hb154c155 : Tryd.f154.body = some b154c155 := by kernel_rfl
def sig154c155 : List AT := [AT.v (Ty.sl (Ty.int IntKind.i64)), AT.fn 155 []]
def tys154c155 : List Ty := [Ty.bool]
def P154c155 (x0 : List Int) : Prop := True
def g154c155_0 (x0 : List Int) : Bool := Decidable.decide (g176c155_0 x0 ≥ 0)
theorem p154c155_0 (x0 : List Int) : runF tab ext154c155 false 9 [] 2000 [] tys154c155 Tryd.f154.results [] [.code b154c155] (entE 0 0 sig154c155 (x0, (), ())) (entL sig154c155 (x0, (), ())) = some ([Dyn.mk Ty.bool (Decidable.decide (g176c155_0 x0 ≥ 0))], [], [True]) := by kernel_rfl
theorem at154c155 (x0 : List Int) (h : P154c155 x0) (w0 : World) (O : List Nat) (q : Nat → Value) : AtV Tryd.prog 154 (PostR [⟨Ty.bool, g154c155_0 x0⟩] [] [] q w0 O) 9 w0 O q [] [.code b154c155] (entE 0 0 sig154c155 (x0, (), ())) (entL sig154c155 (x0, (), ())) := by
  unfold P154c155 at h
  unfold g154c155_0
  exact AtV.fin Tryd.func154 tabOk ext154c155Ok mixed (p154c155_0 x0) ⟨trivial, trivial⟩

def S154c155 : Am.Spec := { sig := sig154c155, pre := fun ⟨x0, _⟩ => P154c155 x0, res := fun ⟨x0, _⟩ => [⟨Ty.bool, g154c155_0 x0⟩] }
theorem con154c155 : Contract Tryd.prog 154 S154c155 := contract_of Tryd.func154 hb154c155 (Nat.le_of_ble_eq_true (by kernel_rfl)) (fun ⟨x0, _⟩ h _ w0 O q => at154c155 x0 h w0 O q)


end Go.Proofs.YtakodkjcmacofaaDoor

/- Function 128 (impl.ListText): its runs between cut points. Written by a program of this repo (gen). -/
set_option linter.unusedVariables false
set_option linter.unusedSimpArgs false
set_option maxRecDepth 100000
namespace Go.Proofs.YtakodkjcmacofaaDoor
open Go Go.Am Go.Proofs
def ext128 : Ext := [(94, S94), (157, S157), (154, S154c155)]
theorem call128_94 : Callable Tryd.prog 94 := ⟨Tryd.f94, Tryd.func94, by kernel_rfl, by kernel_rfl⟩
theorem call128_157 : Callable Tryd.prog 157 := ⟨Tryd.f157, Tryd.func157, by kernel_rfl, by kernel_rfl⟩
theorem call128_154 : Callable Tryd.prog 154 := ⟨Tryd.f154, Tryd.func154, by kernel_rfl, by kernel_rfl⟩
theorem ext128Ok : ExtOk Tryd.prog ext128 := ⟨⟨call128_94, con94⟩, ⟨call128_157, con157⟩, ⟨call128_154, con154c155⟩, trivial⟩
/-! Function 128. -/
noncomputable def b128 : Code := bodyOf Tryd.f128
theorem hb128 : Tryd.f128.body = some b128 := by kernel_rfl
def sig128 : List AT := [AT.v (Ty.sl (Ty.int IntKind.i64))]
def tys128 : List Ty := [Ty.str]
def E128_7 (v18 : Int) (h0 : List ByteArray) (x0 : List Int) : Env := [(3, PV.a (Atom.osl 0 Option.none)), (16, PV.a (Atom.sl (Ty.int IntKind.i64) x0)), (17, PV.a (Atom.val (Value.int IntKind.i64 (↑(List.length x0) : Int)))), (18, PV.a (Atom.val (Value.int IntKind.i64 v18)))]
def L128_7 (v18 : Int) (h0 : List ByteArray) (x0 : List Int) : Heap := [Option.some (Arr.mk Ty.str h0 Bool.false)]
mutual
def R128 : Nat → List Int → List Dyn → Prop
  | 0, _, _ => False
  | n + 1, x0, ds => (if (Decidable.decide ((↑(List.length x0) : Int) > 64)) = true then (ds = [Dyn.mk Ty.str (ByteArray.mk #[])]) else (if (g154c155_0 x0) = true then (ds = [Dyn.mk Ty.str (ByteArray.mk #[])]) else (if ((↑(List.length x0) : Int) == 0) = true then (ds = [Dyn.mk Ty.str (ByteArray.mk #[45])]) else (R128_7 n (0) ([]) (x0) ds))))
def R128_7 : Nat → Int → List ByteArray → List Int → List Dyn → Prop
  | 0, _, _, _, _ => False
  | n + 1, v18, h0, x0, ds => (if (Decidable.decide (v18 < (↑(List.length x0) : Int))) = true then ((0 ≤ v18) ∧ (v18 < (↑(List.length x0) : Int)) ∧ ((P94 (List.getD x0 (Int.toNat v18) 0)) ∧ (((List.length h0 + 1) * 16 ≤ 140737488355328) ∧ ((InR IntKind.i64 (v18 + 1)) ∧ (R128_7 n (v18 + 1) (h0 ++ [g94_0 (List.getD x0 (Int.toNat v18) 0)]) (x0) ds))))) else ((P157 h0 (ByteArray.mk #[44])) ∧ (ds = [Dyn.mk Ty.str (g157_0 h0 (ByteArray.mk #[44]))])))
end
theorem p128_0 (x0 : List Int) : runF tab ext128 false 30 [] 2000 [] tys128 Tryd.f128.results [true, true] [.code b128] (entE 0 0 sig128 (x0, ())) (entL sig128 (x0, ())) = some ([Dyn.mk Ty.str (ByteArray.mk #[])], [], [Decidable.decide ((↑(List.length x0) : Int) > 64) = Bool.true, Bool.true = Bool.true]) := by kernel_rfl
theorem p128_1 (x0 : List Int) : runF tab ext128 false 30 [] 2000 [] tys128 Tryd.f128.results [false, true] [.code b128] (entE 0 0 sig128 (x0, ())) (entL sig128 (x0, ())) = some ([Dyn.mk Ty.str (ByteArray.mk #[])], [], [Decidable.decide ((↑(List.length x0) : Int) > 64) = Bool.false, True, g154c155_0 x0 = Bool.true]) := by kernel_rfl
theorem p128_2 (x0 : List Int) : runF tab ext128 false 30 [] 2000 [] tys128 Tryd.f128.results [false, false, true] [.code b128] (entE 0 0 sig128 (x0, ())) (entL sig128 (x0, ())) = some ([Dyn.mk Ty.str (ByteArray.mk #[45])], [], [Decidable.decide ((↑(List.length x0) : Int) > 64) = Bool.false, True, g154c155_0 x0 = Bool.false, ((↑(List.length x0) : Int) == 0) = Bool.true]) := by kernel_rfl
theorem p128_3 (x0 : List Int) : Am.runN tab ext128 false 30 [] 2000 [] [(3, Ty.str)] [3, 16, 17, 18] [0] [false, false, false] [.code b128] (entE 0 0 sig128 (x0, ())) (entL sig128 (x0, ())) = some (cutAt b128 7, E128_7 (0) ([]) (x0), L128_7 (0) ([]) (x0), [Decidable.decide ((↑(List.length x0) : Int) > 64) = Bool.false, True, g154c155_0 x0 = Bool.false, ((↑(List.length x0) : Int) == 0) = Bool.false]) := by kernel_rfl
theorem p128_4 (v18 : Int) (h0 : List ByteArray) (x0 : List Int) : Am.runN tab ext128 false 30 [] 2000 [] [(3, Ty.str)] [3, 16, 17, 18] [0] [true] (cutAt b128 7) (E128_7 v18 h0 x0) (L128_7 v18 h0 x0) = some (cutAt b128 7, E128_7 (v18 + 1) (h0 ++ [g94_0 (List.getD x0 (Int.toNat v18) 0)]) (x0), L128_7 (v18 + 1) (h0 ++ [g94_0 (List.getD x0 (Int.toNat v18) 0)]) (x0), [Decidable.decide (v18 < (↑(List.length x0) : Int)) = Bool.true, 0 ≤ v18, v18 < (↑(List.length x0) : Int), P94 (List.getD x0 (Int.toNat v18) 0), (List.length h0 + 1) * 16 ≤ 140737488355328, InR IntKind.i64 (v18 + 1)]) := by kernel_rfl
theorem p128_5 (v18 : Int) (h0 : List ByteArray) (x0 : List Int) : runF tab ext128 false 30 [] 2000 [] tys128 Tryd.f128.results [false] (cutAt b128 7) (E128_7 v18 h0 x0) (L128_7 v18 h0 x0) = some ([Dyn.mk Ty.str (g157_0 h0 (ByteArray.mk #[44]))], [], [Decidable.decide (v18 < (↑(List.length x0) : Int)) = Bool.false, P157 h0 (ByteArray.mk #[44])]) := by kernel_rfl
theorem snd128 : ∀ n, (∀ (x0 : List Int) ds, R128 n x0 ds → ∀ w0 O q, AtV Tryd.prog 128 (PostR ds [] [] q w0 O) 30 w0 O q [] [.code b128] (entE 0 0 sig128 (x0, ())) (entL sig128 (x0, ()))) ∧ (∀ (v18 : Int) (h0 : List ByteArray) (x0 : List Int) ds, R128_7 n v18 h0 x0 ds → ∀ w0 O q, AtV Tryd.prog 128 (PostR ds [] [] q w0 O) 30 w0 O q [] (cutAt b128 7) (E128_7 v18 h0 x0) (L128_7 v18 h0 x0)) := by
  intro n
  induction n with
  | zero => exact ⟨fun _ _ h => by simp only [R128] at h, fun _ _ _ _ h => by simp only [R128_7] at h⟩
  | succ n ih =>
  obtain ⟨ih, ih7⟩ := ih
  refine ⟨?_, ?_⟩
  · intro x0 ds h w0 O q
    rw [R128] at h
    by_cases b0 : (Decidable.decide ((↑(List.length x0) : Int) > 64)) = true
    · rw [if_pos b0] at h
      subst h
      exact AtV.fin Tryd.func128 tabOk ext128Ok mixed (p128_0 x0) ⟨b0, rfl, trivial⟩
    · rw [if_neg b0] at h
      replace b0 := Bool.eq_false_iff.2 b0
      by_cases b1 : (g154c155_0 x0) = true
      · rw [if_pos b1] at h
        subst h
        exact AtV.fin Tryd.func128 tabOk ext128Ok mixed (p128_1 x0) ⟨b0, trivial, b1, trivial⟩
      · rw [if_neg b1] at h
        replace b1 := Bool.eq_false_iff.2 b1
        by_cases b2 : ((↑(List.length x0) : Int) == 0) = true
        · rw [if_pos b2] at h
          subst h
          exact AtV.fin Tryd.func128 tabOk ext128Ok mixed (p128_2 x0) ⟨b0, trivial, b1, b2, trivial⟩
        · rw [if_neg b2] at h
          replace b2 := Bool.eq_false_iff.2 b2
          exact AtV.runN tabOk ext128Ok mixed (p128_3 x0) ⟨b0, trivial, b1, b2, trivial⟩ (ih7 _ _ _ _ h w0 O q)

  · intro v18 h0 x0 ds h w0 O q
    rw [R128_7] at h
    by_cases b0 : (Decidable.decide (v18 < (↑(List.length x0) : Int))) = true
    · rw [if_pos b0] at h
      obtain ⟨s0, s1, h⟩ := h
      obtain ⟨s2, h⟩ := h
      obtain ⟨s3, h⟩ := h
      obtain ⟨s4, h⟩ := h
      exact AtV.runN tabOk ext128Ok mixed (p128_4 v18 h0 x0) ⟨b0, s0, s1, s2, s3, s4, trivial⟩ (ih7 _ _ _ _ h w0 O q)
    · rw [if_neg b0] at h
      replace b0 := Bool.eq_false_iff.2 b0
      obtain ⟨s0, h⟩ := h
      subst h
      exact AtV.fin Tryd.func128 tabOk ext128Ok mixed (p128_5 v18 h0 x0) ⟨b0, s0, trivial⟩



def g128_0 (x0 : List Int) : ByteArray := if x0.length > 64 then ByteArray.mk #[] else if g154c155_0 x0 = true then ByteArray.mk #[] else if x0.length = 0 then ByteArray.mk #[45] else g157_0 (x0.map g94_0) (ByteArray.mk #[44])
def P128 (x0 : List Int) : Prop := True

theorem dsz128 (x : Int) (h : InR .i64 x) : (g94_0 x).size ≤ 21 := by
  rw [i64_iff] at h
  exact numB_size x (by omega) (by omega)

theorem pdec128 (x : Int) : P94 x := ⟨rfl, trivial⟩

theorem lens128 : ∀ (xs : List Int), (∀ x ∈ xs, InR .i64 x) → Lib.lens (xs.map fun x => (g94_0 x).data.toList) ≤ 21 * xs.length
  | [], _ => by simp [Lib.lens]
  | x :: r, h => by
    have ih := lens128 r fun y hy => h y (List.mem_cons_of_mem _ hy)
    have hx := dsz128 x (h x (List.mem_cons_self ..))
    have e : (g94_0 x).data.toList.length = (g94_0 x).size := rfl
    unfold Lib.lens at ih ⊢
    simp only [List.map_cons, List.sum_cons, List.length_cons, e] at ih ⊢
    omega

theorem join128 (xs : List Int) (hx : ∀ x ∈ xs, InR .i64 x) (hl : xs.length ≤ 64) : P157 (xs.map g94_0) (ByteArray.mk #[44]) := by
  refine ⟨by simp; omega, ?_⟩
  rw [List.map_map]
  cases xs with
  | nil => simp [Lib.join, List.intercalate]
  | cons x r =>
    have h := lens128 (x :: r) hx
    rw [List.map_cons] at h ⊢
    rw [Lib.join_length]
    have e : (ByteArray.mk #[44]).data.toList.length = 1 := rfl
    rw [e]
    simp only [List.length_map, List.length_cons] at *
    have h' : Lib.lens (((fun x : ByteArray => x.data.toList) ∘ g94_0) x :: List.map ((fun x : ByteArray => x.data.toList) ∘ g94_0) r) ≤ 21 * (r.length + 1) := h
    omega

theorem top128 (x0 : List Int) (hx : ∀ x ∈ x0, InR .i64 x) : R128 (x0.length + 1 + 1) x0 [⟨.str, g128_0 x0⟩] := by
  rw [R128]
  unfold g128_0
  by_cases h1 : x0.length > 64
  · rw [if_pos (by simp; omega), if_pos h1]
  · rw [if_neg (by simp; omega), if_neg h1]
    by_cases h2 : g154c155_0 x0 = true
    · rw [if_pos h2, if_pos h2]
    · rw [if_neg h2, if_neg h2]
      by_cases h0 : x0.length = 0
      · rw [if_pos (by simp [h0]), if_pos h0]
      · rw [if_neg (by simp only [beq_iff_eq]; omega), if_neg h0]
        have hm : x0.length ≤ maxLen := by unfold maxLen; omega
        have key := loop_fold (b := []) x0 0 (fun (h : List ByteArray) b => h ++ [g94_0 b]) (fun h => [(⟨.str, g157_0 h (ByteArray.mk #[44])⟩ : Dyn)]) (fun i h => h.length ≤ i ∧ h = (x0.take i).map g94_0) (fun n i h ds => R128_7 n i h x0 ds) (by simp) (fun n h hb => ?_) (fun n i h hi hl => ⟨⟨len_up hl.1, ?_⟩, fun ds hr => ?_⟩)
        · rw [foldl_snoc] at key
          simpa using key
        · show R128_7 (n + 1) x0.length h x0 _
          rw [R128_7, if_neg (by simp)]
          refine ⟨?_, rfl⟩
          rw [hb.2, List.take_length]
          exact join128 x0 hx (by omega)
        · rw [hl.2, List.take_add_one, getD_of_lt x0 i 0 hi]
          simp
        · obtain ⟨hl, _⟩ := hl
          rw [R128_7, if_pos (by simp; omega)]
          simp only [Int.toNat_natCast]
          exact ⟨by omega, by omega, pdec128 _, by omega, inR_up hm hi, hr⟩

def S128 : Am.Spec := { sig := sig128, pre := fun ⟨x0, _⟩ => P128 x0, res := fun ⟨x0, _⟩ => [⟨Ty.str, g128_0 x0⟩] }
theorem con128 : Contract Tryd.prog 128 S128 := contract_of Tryd.func128 hb128 (Nat.le_of_ble_eq_true (by kernel_rfl)) (fun ⟨x0, _⟩ h hwf w0 O q =>
  (snd128 _).1 x0 _ (top128 x0 hwf.1.2) w0 O q)

end Go.Proofs.YtakodkjcmacofaaDoor

/- Function 75 (impl.CheckText): its runs between cut points. Written by a program of this repo (gen). -/
set_option linter.unusedVariables false
set_option linter.unusedSimpArgs false
set_option maxRecDepth 100000
namespace Go.Proofs.YtakodkjcmacofaaDoor
open Go Go.Am Go.Proofs
def ext75 : Ext := [(127, S127), (128, S128)]
theorem call75_127 : Callable Tryd.prog 127 := ⟨Tryd.f127, Tryd.func127, by kernel_rfl, by kernel_rfl⟩
theorem call75_128 : Callable Tryd.prog 128 := ⟨Tryd.f128, Tryd.func128, by kernel_rfl, by kernel_rfl⟩
theorem ext75Ok : ExtOk Tryd.prog ext75 := ⟨⟨call75_127, con127⟩, ⟨call75_128, con128⟩, trivial⟩
/-! Function 75. -/
noncomputable def b75 : Code := bodyOf Tryd.f75
theorem hb75 : Tryd.f75.body = some b75 := by kernel_rfl
def sig75 : List AT := [AT.v (Ty.cons Ty.str (Ty.cons (Ty.int IntKind.i64) (Ty.cons (Ty.int IntKind.i64) (Ty.cons (Ty.int IntKind.i64) (Ty.cons (Ty.int IntKind.i64) Ty.unit)))))]
def tys75 : List Ty := [Ty.str]
def P75 (x0 : ByteArray × Int × Int × Int × Int × Unit) : Prop := (if (!g127_0 x0) = true then True else ((ByteArray.size (Prod.fst x0) + 1 ≤ 9223372036854775807) ∧ ((ByteArray.size (Prod.fst x0 ++ ByteArray.mk #[32]) + ByteArray.size (g128_0 [Prod.fst (Prod.snd x0), Prod.fst (Prod.snd (Prod.snd x0)), Prod.fst (Prod.snd (Prod.snd (Prod.snd x0))), Prod.fst (Prod.snd (Prod.snd (Prod.snd (Prod.snd x0))))]) ≤ 9223372036854775807) ∧ True)))
def g75_0 (x0 : ByteArray × Int × Int × Int × Int × Unit) : ByteArray := (if (!g127_0 x0) = true then ByteArray.mk #[] else Prod.fst x0 ++ ByteArray.mk #[32] ++ g128_0 [Prod.fst (Prod.snd x0), Prod.fst (Prod.snd (Prod.snd x0)), Prod.fst (Prod.snd (Prod.snd (Prod.snd x0))), Prod.fst (Prod.snd (Prod.snd (Prod.snd (Prod.snd x0))))])
theorem p75_0 (x0 : ByteArray × Int × Int × Int × Int × Unit) : runF tab ext75 false 20 [] 2000 [] tys75 Tryd.f75.results [true] [.code b75] (entE 0 0 sig75 (x0, ())) (entL sig75 (x0, ())) = some ([Dyn.mk Ty.str (ByteArray.mk #[])], [], [True, (!g127_0 x0) = Bool.true]) := by kernel_rfl
theorem p75_1 (x0 : ByteArray × Int × Int × Int × Int × Unit) : runF tab ext75 false 20 [] 2000 [] tys75 Tryd.f75.results [false] [.code b75] (entE 0 0 sig75 (x0, ())) (entL sig75 (x0, ())) = some ([Dyn.mk Ty.str (Prod.fst x0 ++ ByteArray.mk #[32] ++ g128_0 [Prod.fst (Prod.snd x0), Prod.fst (Prod.snd (Prod.snd x0)), Prod.fst (Prod.snd (Prod.snd (Prod.snd x0))), Prod.fst (Prod.snd (Prod.snd (Prod.snd (Prod.snd x0))))])], [], [True, (!g127_0 x0) = Bool.false, ByteArray.size (Prod.fst x0) + 1 ≤ 9223372036854775807, True, ByteArray.size (Prod.fst x0 ++ ByteArray.mk #[32]) + ByteArray.size (g128_0 [Prod.fst (Prod.snd x0), Prod.fst (Prod.snd (Prod.snd x0)), Prod.fst (Prod.snd (Prod.snd (Prod.snd x0))), Prod.fst (Prod.snd (Prod.snd (Prod.snd (Prod.snd x0))))]) ≤ 9223372036854775807]) := by kernel_rfl
theorem at75 (x0 : ByteArray × Int × Int × Int × Int × Unit) (h : P75 x0) (w0 : World) (O : List Nat) (q : Nat → Value) : AtV Tryd.prog 75 (PostR [⟨Ty.str, g75_0 x0⟩] [] [] q w0 O) 20 w0 O q [] [.code b75] (entE 0 0 sig75 (x0, ())) (entL sig75 (x0, ())) := by
  unfold P75 at h
  unfold g75_0
  by_cases b0 : (!g127_0 x0) = true
  · try simp only [if_pos b0] at h ⊢
    exact AtV.fin Tryd.func75 tabOk ext75Ok mixed (p75_0 x0) ⟨trivial, b0, trivial⟩
  · try simp only [if_neg b0] at h ⊢
    replace b0 := Bool.eq_false_iff.2 b0
    obtain ⟨s0, h⟩ := h
    obtain ⟨s1, h⟩ := h
    exact AtV.fin Tryd.func75 tabOk ext75Ok mixed (p75_1 x0) ⟨trivial, b0, s0, trivial, s1, trivial⟩

def S75 : Am.Spec := { sig := sig75, pre := fun ⟨x0, _⟩ => P75 x0, res := fun ⟨x0, _⟩ => [⟨Ty.str, g75_0 x0⟩] }
theorem con75 : Contract Tryd.prog 75 S75 := contract_of Tryd.func75 hb75 (Nat.le_of_ble_eq_true (by kernel_rfl)) (fun ⟨x0, _⟩ h _ w0 O q => at75 x0 h w0 O q)


end Go.Proofs.YtakodkjcmacofaaDoor

/- Function 20 (impl.BlocksOfChecks): its runs between cut points. Written by a program of this repo (gen). -/
set_option linter.unusedVariables false
set_option linter.unusedSimpArgs false
set_option maxRecDepth 100000
namespace Go.Proofs.YtakodkjcmacofaaDoor
open Go Go.Am Go.Proofs
def ext20 : Ext := [(74, S74), (75, S75)]
theorem call20_74 : Callable Tryd.prog 74 := ⟨Tryd.f74, Tryd.func74, by kernel_rfl, by kernel_rfl⟩
theorem call20_75 : Callable Tryd.prog 75 := ⟨Tryd.f75, Tryd.func75, by kernel_rfl, by kernel_rfl⟩
theorem ext20Ok : ExtOk Tryd.prog ext20 := ⟨⟨call20_74, con74⟩, ⟨call20_75, con75⟩, trivial⟩
/-! Function 20. -/
noncomputable def b20 : Code := bodyOf Tryd.f20
theorem hb20 : Tryd.f20.body = some b20 := by kernel_rfl
def sig20 : List AT := [AT.v (Ty.sl (Ty.cons Ty.str (Ty.cons (Ty.int IntKind.i64) (Ty.cons (Ty.int IntKind.i64) (Ty.cons (Ty.int IntKind.i64) (Ty.cons (Ty.int IntKind.i64) Ty.unit))))))]
def tys20 : List Ty := [Ty.sl (Ty.cons Ty.str (Ty.cons Ty.str (Ty.cons Ty.str Ty.unit))), Ty.int IntKind.i64]
def E20_5 (v12 : Int) (h0 : List (ByteArray × ByteArray × ByteArray × Unit)) (x0 : List (ByteArray × Int × Int × Int × Int × Unit)) : Env := [(4, PV.a (Atom.osl 0 Option.none)), (10, PV.a (Atom.sl (Ty.cons Ty.str (Ty.cons (Ty.int IntKind.i64) (Ty.cons (Ty.int IntKind.i64) (Ty.cons (Ty.int IntKind.i64) (Ty.cons (Ty.int IntKind.i64) Ty.unit))))) x0)), (11, PV.a (Atom.val (Value.int IntKind.i64 (↑(List.length x0) : Int)))), (12, PV.a (Atom.val (Value.int IntKind.i64 v12)))]
def L20_5 (v12 : Int) (h0 : List (ByteArray × ByteArray × ByteArray × Unit)) (x0 : List (ByteArray × Int × Int × Int × Int × Unit)) : Heap := [Option.some (Arr.mk (Ty.cons Ty.str (Ty.cons Ty.str (Ty.cons Ty.str Ty.unit))) h0 Bool.false)]
mutual
def R20 : Nat → List (ByteArray × Int × Int × Int × Int × Unit) → List Dyn → Prop
  | 0, _, _ => False
  | n + 1, x0, ds => (if (!g74_0 x0) = true then (ds = [Dyn.mk (Ty.sl (Ty.cons Ty.str (Ty.cons Ty.str (Ty.cons Ty.str Ty.unit)))) [], Dyn.mk (Ty.int IntKind.i64) 1]) else (R20_5 n (0) ([]) (x0) ds))
def R20_5 : Nat → Int → List (ByteArray × ByteArray × ByteArray × Unit) → List (ByteArray × Int × Int × Int × Int × Unit) → List Dyn → Prop
  | 0, _, _, _, _ => False
  | n + 1, v12, h0, x0, ds => (if (Decidable.decide (v12 < (↑(List.length x0) : Int))) = true then ((0 ≤ v12) ∧ (v12 < (↑(List.length x0) : Int)) ∧ ((P75 (List.getD x0 (Int.toNat v12) (ByteArray.empty, 0, 0, 0, 0, ()))) ∧ (((List.length h0 + 1) * 48 ≤ 140737488355328) ∧ ((InR IntKind.i64 (v12 + 1)) ∧ (R20_5 n (v12 + 1) (h0 ++ [(ByteArray.mk #[99, 104, 101, 99, 107], Prod.fst (List.getD x0 (Int.toNat v12) (ByteArray.empty, 0, 0, 0, 0, ())), g75_0 (List.getD x0 (Int.toNat v12) (ByteArray.empty, 0, 0, 0, 0, ())), ())]) (x0) ds))))) else (ds = [Dyn.mk (Ty.sl (Ty.cons Ty.str (Ty.cons Ty.str (Ty.cons Ty.str Ty.unit)))) h0, Dyn.mk (Ty.int IntKind.i64) 0]))
end
theorem p20_0 (x0 : List (ByteArray × Int × Int × Int × Int × Unit)) : runF tab ext20 false 26 [] 2000 [] tys20 Tryd.f20.results [true] [.code b20] (entE 0 0 sig20 (x0, ())) (entL sig20 (x0, ())) = some ([Dyn.mk (Ty.sl (Ty.cons Ty.str (Ty.cons Ty.str (Ty.cons Ty.str Ty.unit)))) [], Dyn.mk (Ty.int IntKind.i64) 1], [], [True, (!g74_0 x0) = Bool.true]) := by kernel_rfl
theorem p20_1 (x0 : List (ByteArray × Int × Int × Int × Int × Unit)) : Am.runN tab ext20 false 26 [] 2000 [] [(4, Ty.cons Ty.str (Ty.cons Ty.str (Ty.cons Ty.str Ty.unit)))] [4, 10, 11, 12] [0] [false] [.code b20] (entE 0 0 sig20 (x0, ())) (entL sig20 (x0, ())) = some (cutAt b20 5, E20_5 (0) ([]) (x0), L20_5 (0) ([]) (x0), [True, (!g74_0 x0) = Bool.false]) := by kernel_rfl
theorem p20_2 (v12 : Int) (h0 : List (ByteArray × ByteArray × ByteArray × Unit)) (x0 : List (ByteArray × Int × Int × Int × Int × Unit)) : Am.runN tab ext20 false 26 [] 2000 [] [(4, Ty.cons Ty.str (Ty.cons Ty.str (Ty.cons Ty.str Ty.unit)))] [4, 10, 11, 12] [0] [true] (cutAt b20 5) (E20_5 v12 h0 x0) (L20_5 v12 h0 x0) = some (cutAt b20 5, E20_5 (v12 + 1) (h0 ++ [(ByteArray.mk #[99, 104, 101, 99, 107], Prod.fst (List.getD x0 (Int.toNat v12) (ByteArray.empty, 0, 0, 0, 0, ())), g75_0 (List.getD x0 (Int.toNat v12) (ByteArray.empty, 0, 0, 0, 0, ())), ())]) (x0), L20_5 (v12 + 1) (h0 ++ [(ByteArray.mk #[99, 104, 101, 99, 107], Prod.fst (List.getD x0 (Int.toNat v12) (ByteArray.empty, 0, 0, 0, 0, ())), g75_0 (List.getD x0 (Int.toNat v12) (ByteArray.empty, 0, 0, 0, 0, ())), ())]) (x0), [Decidable.decide (v12 < (↑(List.length x0) : Int)) = Bool.true, 0 ≤ v12, v12 < (↑(List.length x0) : Int), P75 (List.getD x0 (Int.toNat v12) (ByteArray.empty, 0, 0, 0, 0, ())), (List.length h0 + 1) * 48 ≤ 140737488355328, InR IntKind.i64 (v12 + 1)]) := by kernel_rfl
theorem p20_3 (v12 : Int) (h0 : List (ByteArray × ByteArray × ByteArray × Unit)) (x0 : List (ByteArray × Int × Int × Int × Int × Unit)) : runF tab ext20 false 26 [] 2000 [] tys20 Tryd.f20.results [false] (cutAt b20 5) (E20_5 v12 h0 x0) (L20_5 v12 h0 x0) = some ([Dyn.mk (Ty.sl (Ty.cons Ty.str (Ty.cons Ty.str (Ty.cons Ty.str Ty.unit)))) h0, Dyn.mk (Ty.int IntKind.i64) 0], [], [Decidable.decide (v12 < (↑(List.length x0) : Int)) = Bool.false]) := by kernel_rfl
theorem snd20 : ∀ n, (∀ (x0 : List (ByteArray × Int × Int × Int × Int × Unit)) ds, R20 n x0 ds → ∀ w0 O q, AtV Tryd.prog 20 (PostR ds [] [] q w0 O) 26 w0 O q [] [.code b20] (entE 0 0 sig20 (x0, ())) (entL sig20 (x0, ()))) ∧ (∀ (v12 : Int) (h0 : List (ByteArray × ByteArray × ByteArray × Unit)) (x0 : List (ByteArray × Int × Int × Int × Int × Unit)) ds, R20_5 n v12 h0 x0 ds → ∀ w0 O q, AtV Tryd.prog 20 (PostR ds [] [] q w0 O) 26 w0 O q [] (cutAt b20 5) (E20_5 v12 h0 x0) (L20_5 v12 h0 x0)) := by
  intro n
  induction n with
  | zero => exact ⟨fun _ _ h => by simp only [R20] at h, fun _ _ _ _ h => by simp only [R20_5] at h⟩
  | succ n ih =>
  obtain ⟨ih, ih5⟩ := ih
  refine ⟨?_, ?_⟩
  · intro x0 ds h w0 O q
    rw [R20] at h
    by_cases b0 : (!g74_0 x0) = true
    · rw [if_pos b0] at h
      subst h
      exact AtV.fin Tryd.func20 tabOk ext20Ok mixed (p20_0 x0) ⟨trivial, b0, trivial⟩
    · rw [if_neg b0] at h
      replace b0 := Bool.eq_false_iff.2 b0
      exact AtV.runN tabOk ext20Ok mixed (p20_1 x0) ⟨trivial, b0, trivial⟩ (ih5 _ _ _ _ h w0 O q)

  · intro v12 h0 x0 ds h w0 O q
    rw [R20_5] at h
    by_cases b0 : (Decidable.decide (v12 < (↑(List.length x0) : Int))) = true
    · rw [if_pos b0] at h
      obtain ⟨s0, s1, h⟩ := h
      obtain ⟨s2, h⟩ := h
      obtain ⟨s3, h⟩ := h
      obtain ⟨s4, h⟩ := h
      exact AtV.runN tabOk ext20Ok mixed (p20_2 v12 h0 x0) ⟨b0, s0, s1, s2, s3, s4, trivial⟩ (ih5 _ _ _ _ h w0 O q)
    · rw [if_neg b0] at h
      replace b0 := Bool.eq_false_iff.2 b0
      subst h
      exact AtV.fin Tryd.func20 tabOk ext20Ok mixed (p20_3 v12 h0 x0) ⟨b0, trivial⟩



def blk20 (x : (ByteArray × Int × Int × Int × Int × Unit)) : (ByteArray × ByteArray × ByteArray × Unit) := (ByteArray.mk #[99, 104, 101, 99, 107], x.1, g75_0 x, ())
def g20_0 (x0 : List (ByteArray × Int × Int × Int × Int × Unit)) : List (ByteArray × ByteArray × ByteArray × Unit) := if g74_0 x0 = true then x0.map blk20 else []
def g20_1 (x0 : List (ByteArray × Int × Int × Int × Int × Unit)) : Int := if g74_0 x0 = true then 0 else 1
def P20 (x0 : List (ByteArray × Int × Int × Int × Int × Unit)) : Prop := ∀ x ∈ x0, P75 x

theorem top20 (x0 : List (ByteArray × Int × Int × Int × Int × Unit)) (hp : P20 x0) : R20 (x0.length + 1 + 1) x0 [⟨.sl (.cons .str (.cons .str (.cons .str .unit))), g20_0 x0⟩, ⟨.int .i64, g20_1 x0⟩] := by
  rw [R20]
  unfold g20_0 g20_1
  cases hok : g74_0 x0 with
  | false => rw [if_pos (by simp)]; rfl
  | true =>
    rw [if_neg (by simp)]
    have hlen : x0.length ≤ 16 := by
      unfold g74_0 at hok
      simp only [Bool.and_eq_true, decide_eq_true_eq] at hok
      exact hok.2
    have hm : x0.length ≤ maxLen := by unfold maxLen; omega
    have key := loop_fold (b := []) x0 (ByteArray.empty, (0 : Int), (0 : Int), (0 : Int), (0 : Int), ()) (fun (h : List (ByteArray × ByteArray × ByteArray × Unit)) b => h ++ [blk20 b]) (fun h => [(⟨.sl (.cons .str (.cons .str (.cons .str .unit))), h⟩ : Dyn), ⟨.int .i64, (0 : Int)⟩]) (fun i h => h.length ≤ i) (fun n i h ds => R20_5 n i h x0 ds) (by simp) (fun n h _ => ?_) (fun n i h hi hl => ⟨len_up hl, fun ds hr => ?_⟩)
    · rw [foldl_snoc] at key
      simpa using key
    · show R20_5 (n + 1) x0.length h x0 _
      rw [R20_5, if_neg (by simp)]
    · rw [R20_5, if_pos (by simp; omega)]
      simp only [Int.toNat_natCast]
      have hP := hp (x0.getD i (ByteArray.empty, (0 : Int), (0 : Int), (0 : Int), (0 : Int), ())) (mem_getD x0 i _ hi)
      exact ⟨by omega, by omega, hP, by omega, inR_up hm hi, hr⟩

def S20 : Am.Spec := { sig := sig20, pre := fun ⟨x0, _⟩ => P20 x0, res := fun ⟨x0, _⟩ => [⟨.sl (.cons .str (.cons .str (.cons .str .unit))), g20_0 x0⟩, ⟨.int .i64, g20_1 x0⟩] }
theorem con20 : Contract Tryd.prog 20 S20 := contract_of Tryd.func20 hb20 (Nat.le_of_ble_eq_true (by kernel_rfl)) (fun ⟨x0, _⟩ h hwf w0 O q =>
  (snd20 _).1 x0 _ (top20 x0 h) w0 O q)

end Go.Proofs.YtakodkjcmacofaaDoor

/- Function 76 (laws.eqBlock): its runs between cut points. Written by a program of this repo (gen). -/
set_option linter.unusedVariables false
set_option linter.unusedSimpArgs false
set_option maxRecDepth 100000
namespace Go.Proofs.YtakodkjcmacofaaDoor
open Go Go.Am Go.Proofs
def ext76 : Ext := []
theorem ext76Ok : ExtOk Tryd.prog ext76 := trivial
/-! Function 76. -/
noncomputable def b76 : Code := bodyOf Tryd.f76
theorem hb76 : Tryd.f76.body = some b76 := by kernel_rfl
def sig76 : List AT := [AT.v (Ty.cons Ty.str (Ty.cons Ty.str (Ty.cons Ty.str Ty.unit))), AT.v (Ty.cons Ty.str (Ty.cons Ty.str (Ty.cons Ty.str Ty.unit)))]
def tys76 : List Ty := [Ty.bool]
def P76 (x0 : ByteArray × ByteArray × ByteArray × Unit) (x1 : ByteArray × ByteArray × ByteArray × Unit) : Prop := True
def g76_0 (x0 : ByteArray × ByteArray × ByteArray × Unit) (x1 : ByteArray × ByteArray × ByteArray × Unit) : Bool := (if (!ByteArray.toList (Prod.fst x0) == ByteArray.toList (Prod.fst x1)) = true then Bool.false else (if (!ByteArray.toList (Prod.fst (Prod.snd x0)) == ByteArray.toList (Prod.fst (Prod.snd x1))) = true then Bool.false else (if (!ByteArray.toList (Prod.fst (Prod.snd (Prod.snd x0))) == ByteArray.toList (Prod.fst (Prod.snd (Prod.snd x1)))) = true then Bool.false else Bool.true)))
theorem p76_0 (x0 : ByteArray × ByteArray × ByteArray × Unit) (x1 : ByteArray × ByteArray × ByteArray × Unit) : runF tab ext76 false 20 [] 2000 [] tys76 Tryd.f76.results [true] [.code b76] (entE 0 0 sig76 (x0, x1, ())) (entL sig76 (x0, x1, ())) = some ([Dyn.mk Ty.bool Bool.false], [], [(!ByteArray.toList (Prod.fst x0) == ByteArray.toList (Prod.fst x1)) = Bool.true]) := by kernel_rfl
theorem p76_1 (x0 : ByteArray × ByteArray × ByteArray × Unit) (x1 : ByteArray × ByteArray × ByteArray × Unit) : runF tab ext76 false 20 [] 2000 [] tys76 Tryd.f76.results [false, true] [.code b76] (entE 0 0 sig76 (x0, x1, ())) (entL sig76 (x0, x1, ())) = some ([Dyn.mk Ty.bool Bool.false], [], [(!ByteArray.toList (Prod.fst x0) == ByteArray.toList (Prod.fst x1)) = Bool.false, (!ByteArray.toList (Prod.fst (Prod.snd x0)) == ByteArray.toList (Prod.fst (Prod.snd x1))) = Bool.true]) := by kernel_rfl
theorem p76_2 (x0 : ByteArray × ByteArray × ByteArray × Unit) (x1 : ByteArray × ByteArray × ByteArray × Unit) : runF tab ext76 false 20 [] 2000 [] tys76 Tryd.f76.results [false, false, true] [.code b76] (entE 0 0 sig76 (x0, x1, ())) (entL sig76 (x0, x1, ())) = some ([Dyn.mk Ty.bool Bool.false], [], [(!ByteArray.toList (Prod.fst x0) == ByteArray.toList (Prod.fst x1)) = Bool.false, (!ByteArray.toList (Prod.fst (Prod.snd x0)) == ByteArray.toList (Prod.fst (Prod.snd x1))) = Bool.false, (!ByteArray.toList (Prod.fst (Prod.snd (Prod.snd x0))) == ByteArray.toList (Prod.fst (Prod.snd (Prod.snd x1)))) = Bool.true]) := by kernel_rfl
theorem p76_3 (x0 : ByteArray × ByteArray × ByteArray × Unit) (x1 : ByteArray × ByteArray × ByteArray × Unit) : runF tab ext76 false 20 [] 2000 [] tys76 Tryd.f76.results [false, false, false] [.code b76] (entE 0 0 sig76 (x0, x1, ())) (entL sig76 (x0, x1, ())) = some ([Dyn.mk Ty.bool Bool.true], [], [(!ByteArray.toList (Prod.fst x0) == ByteArray.toList (Prod.fst x1)) = Bool.false, (!ByteArray.toList (Prod.fst (Prod.snd x0)) == ByteArray.toList (Prod.fst (Prod.snd x1))) = Bool.false, (!ByteArray.toList (Prod.fst (Prod.snd (Prod.snd x0))) == ByteArray.toList (Prod.fst (Prod.snd (Prod.snd x1)))) = Bool.false]) := by kernel_rfl
theorem at76 (x0 : ByteArray × ByteArray × ByteArray × Unit) (x1 : ByteArray × ByteArray × ByteArray × Unit) (h : P76 x0 x1) (w0 : World) (O : List Nat) (q : Nat → Value) : AtV Tryd.prog 76 (PostR [⟨Ty.bool, g76_0 x0 x1⟩] [] [] q w0 O) 20 w0 O q [] [.code b76] (entE 0 0 sig76 (x0, x1, ())) (entL sig76 (x0, x1, ())) := by
  unfold P76 at h
  unfold g76_0
  by_cases b0 : (!ByteArray.toList (Prod.fst x0) == ByteArray.toList (Prod.fst x1)) = true
  · try simp only [if_pos b0] at h ⊢
    exact AtV.fin Tryd.func76 tabOk ext76Ok mixed (p76_0 x0 x1) ⟨b0, trivial⟩
  · try simp only [if_neg b0] at h ⊢
    replace b0 := Bool.eq_false_iff.2 b0
    by_cases b1 : (!ByteArray.toList (Prod.fst (Prod.snd x0)) == ByteArray.toList (Prod.fst (Prod.snd x1))) = true
    · try simp only [if_pos b1] at h ⊢
      exact AtV.fin Tryd.func76 tabOk ext76Ok mixed (p76_1 x0 x1) ⟨b0, b1, trivial⟩
    · try simp only [if_neg b1] at h ⊢
      replace b1 := Bool.eq_false_iff.2 b1
      by_cases b2 : (!ByteArray.toList (Prod.fst (Prod.snd (Prod.snd x0))) == ByteArray.toList (Prod.fst (Prod.snd (Prod.snd x1)))) = true
      · try simp only [if_pos b2] at h ⊢
        exact AtV.fin Tryd.func76 tabOk ext76Ok mixed (p76_2 x0 x1) ⟨b0, b1, b2, trivial⟩
      · try simp only [if_neg b2] at h ⊢
        replace b2 := Bool.eq_false_iff.2 b2
        exact AtV.fin Tryd.func76 tabOk ext76Ok mixed (p76_3 x0 x1) ⟨b0, b1, b2, trivial⟩

def S76 : Am.Spec := { sig := sig76, pre := fun ⟨x0, x1, _⟩ => P76 x0 x1, res := fun ⟨x0, x1, _⟩ => [⟨Ty.bool, g76_0 x0 x1⟩] }
theorem con76 : Contract Tryd.prog 76 S76 := contract_of Tryd.func76 hb76 (Nat.le_of_ble_eq_true (by kernel_rfl)) (fun ⟨x0, x1, _⟩ h _ w0 O q => at76 x0 x1 h w0 O q)


theorem eqd76 (x y : ByteArray × ByteArray × ByteArray × Unit) : g76_0 x y = true ↔ x = y := by
  obtain ⟨a, b, c, u⟩ := x
  obtain ⟨a', b', c', u'⟩ := y
  unfold g76_0
  simp only [Bool.not_eq_true', bytes_ne]
  by_cases h1 : a = a'
  · by_cases h2 : b = b'
    · by_cases h3 : c = c'
      · simp [h1, h2, h3]
      · simp [h1, h2, h3]
    · simp [h1, h2]
  · simp [h1]

end Go.Proofs.YtakodkjcmacofaaDoor

/- Function 21 (laws.eqBlockS): its runs between cut points. Written by a program of this repo (gen). -/
set_option linter.unusedVariables false
set_option linter.unusedSimpArgs false
set_option maxRecDepth 100000
namespace Go.Proofs.YtakodkjcmacofaaDoor
open Go Go.Am Go.Proofs
def ext21 : Ext := [(76, S76)]
theorem call21_76 : Callable Tryd.prog 76 := ⟨Tryd.f76, Tryd.func76, by kernel_rfl, by kernel_rfl⟩
theorem ext21Ok : ExtOk Tryd.prog ext21 := ⟨⟨call21_76, con76⟩, trivial⟩
/-! Function 21. -/
noncomputable def b21 : Code := bodyOf Tryd.f21
theorem hb21 : Tryd.f21.body = some b21 := by kernel_rfl
def sig21 : List AT := [AT.v (Ty.sl (Ty.cons Ty.str (Ty.cons Ty.str (Ty.cons Ty.str Ty.unit)))), AT.v (Ty.sl (Ty.cons Ty.str (Ty.cons Ty.str (Ty.cons Ty.str Ty.unit))))]
def tys21 : List Ty := [Ty.bool]
def E21_4 (v5 : Int) (x0 : List (ByteArray × ByteArray × ByteArray × Unit)) (x1 : List (ByteArray × ByteArray × ByteArray × Unit)) : Env := [(0, PV.a (Atom.sl (Ty.cons Ty.str (Ty.cons Ty.str (Ty.cons Ty.str Ty.unit))) x0)), (1, PV.a (Atom.sl (Ty.cons Ty.str (Ty.cons Ty.str (Ty.cons Ty.str Ty.unit))) x1)), (5, PV.a (Atom.val (Value.int IntKind.i64 v5)))]
def L21_4 (v5 : Int) (x0 : List (ByteArray × ByteArray × ByteArray × Unit)) (x1 : List (ByteArray × ByteArray × ByteArray × Unit)) : Heap := []
mutual
def R21 : Nat → List (ByteArray × ByteArray × ByteArray × Unit) → List (ByteArray × ByteArray × ByteArray × Unit) → List Dyn → Prop
  | 0, _, _, _ => False
  | n + 1, x0, x1, ds => (if ((↑(List.length x0) : Int) != (↑(List.length x1) : Int)) = true then (ds = [Dyn.mk Ty.bool Bool.false]) else (R21_4 n (0) (x0) (x1) ds))
def R21_4 : Nat → Int → List (ByteArray × ByteArray × ByteArray × Unit) → List (ByteArray × ByteArray × ByteArray × Unit) → List Dyn → Prop
  | 0, _, _, _, _ => False
  | n + 1, v5, x0, x1, ds => (if (Decidable.decide (v5 < (↑(List.length x0) : Int))) = true then ((0 ≤ v5) ∧ (v5 < (↑(List.length x0) : Int)) ∧ ((0 ≤ v5) ∧ (v5 < (↑(List.length x1) : Int)) ∧ (if (!g76_0 (List.getD x0 (Int.toNat v5) (ByteArray.empty, ByteArray.empty, ByteArray.empty, ())) (List.getD x1 (Int.toNat v5) (ByteArray.empty, ByteArray.empty, ByteArray.empty, ()))) = true then (ds = [Dyn.mk Ty.bool Bool.false]) else ((InR IntKind.i64 (v5 + 1)) ∧ (R21_4 n (v5 + 1) (x0) (x1) ds))))) else (ds = [Dyn.mk Ty.bool Bool.true]))
end
theorem p21_0 (x0 : List (ByteArray × ByteArray × ByteArray × Unit)) (x1 : List (ByteArray × ByteArray × ByteArray × Unit)) : runF tab ext21 false 27 [] 2000 [] tys21 Tryd.f21.results [true] [.code b21] (entE 0 0 sig21 (x0, x1, ())) (entL sig21 (x0, x1, ())) = some ([Dyn.mk Ty.bool Bool.false], [], [((↑(List.length x0) : Int) != (↑(List.length x1) : Int)) = Bool.true]) := by kernel_rfl
theorem p21_1 (x0 : List (ByteArray × ByteArray × ByteArray × Unit)) (x1 : List (ByteArray × ByteArray × ByteArray × Unit)) : Am.runN tab ext21 false 27 [] 2000 [] [] [0, 1, 5] [] [false] [.code b21] (entE 0 0 sig21 (x0, x1, ())) (entL sig21 (x0, x1, ())) = some (cutAt b21 4, E21_4 (0) (x0) (x1), L21_4 (0) (x0) (x1), [((↑(List.length x0) : Int) != (↑(List.length x1) : Int)) = Bool.false]) := by kernel_rfl
theorem p21_2 (v5 : Int) (x0 : List (ByteArray × ByteArray × ByteArray × Unit)) (x1 : List (ByteArray × ByteArray × ByteArray × Unit)) : runF tab ext21 false 27 [] 2000 [] tys21 Tryd.f21.results [true, true] (cutAt b21 4) (E21_4 v5 x0 x1) (L21_4 v5 x0 x1) = some ([Dyn.mk Ty.bool Bool.false], [], [Decidable.decide (v5 < (↑(List.length x0) : Int)) = Bool.true, 0 ≤ v5, v5 < (↑(List.length x0) : Int), 0 ≤ v5, v5 < (↑(List.length x1) : Int), True, (!g76_0 (List.getD x0 (Int.toNat v5) (ByteArray.empty, ByteArray.empty, ByteArray.empty, ())) (List.getD x1 (Int.toNat v5) (ByteArray.empty, ByteArray.empty, ByteArray.empty, ()))) = Bool.true]) := by kernel_rfl
theorem p21_3 (v5 : Int) (x0 : List (ByteArray × ByteArray × ByteArray × Unit)) (x1 : List (ByteArray × ByteArray × ByteArray × Unit)) : Am.runN tab ext21 false 27 [] 2000 [] [] [0, 1, 5] [] [true, false] (cutAt b21 4) (E21_4 v5 x0 x1) (L21_4 v5 x0 x1) = some (cutAt b21 4, E21_4 (v5 + 1) (x0) (x1), L21_4 (v5 + 1) (x0) (x1), [Decidable.decide (v5 < (↑(List.length x0) : Int)) = Bool.true, 0 ≤ v5, v5 < (↑(List.length x0) : Int), 0 ≤ v5, v5 < (↑(List.length x1) : Int), True, (!g76_0 (List.getD x0 (Int.toNat v5) (ByteArray.empty, ByteArray.empty, ByteArray.empty, ())) (List.getD x1 (Int.toNat v5) (ByteArray.empty, ByteArray.empty, ByteArray.empty, ()))) = Bool.false, InR IntKind.i64 (v5 + 1)]) := by kernel_rfl
theorem p21_4 (v5 : Int) (x0 : List (ByteArray × ByteArray × ByteArray × Unit)) (x1 : List (ByteArray × ByteArray × ByteArray × Unit)) : runF tab ext21 false 27 [] 2000 [] tys21 Tryd.f21.results [false] (cutAt b21 4) (E21_4 v5 x0 x1) (L21_4 v5 x0 x1) = some ([Dyn.mk Ty.bool Bool.true], [], [Decidable.decide (v5 < (↑(List.length x0) : Int)) = Bool.false]) := by kernel_rfl
theorem snd21 : ∀ n, (∀ (x0 : List (ByteArray × ByteArray × ByteArray × Unit)) (x1 : List (ByteArray × ByteArray × ByteArray × Unit)) ds, R21 n x0 x1 ds → ∀ w0 O q, AtV Tryd.prog 21 (PostR ds [] [] q w0 O) 27 w0 O q [] [.code b21] (entE 0 0 sig21 (x0, x1, ())) (entL sig21 (x0, x1, ()))) ∧ (∀ (v5 : Int) (x0 : List (ByteArray × ByteArray × ByteArray × Unit)) (x1 : List (ByteArray × ByteArray × ByteArray × Unit)) ds, R21_4 n v5 x0 x1 ds → ∀ w0 O q, AtV Tryd.prog 21 (PostR ds [] [] q w0 O) 27 w0 O q [] (cutAt b21 4) (E21_4 v5 x0 x1) (L21_4 v5 x0 x1)) := by
  intro n
  induction n with
  | zero => exact ⟨fun _ _ _ h => by simp only [R21] at h, fun _ _ _ _ h => by simp only [R21_4] at h⟩
  | succ n ih =>
  obtain ⟨ih, ih4⟩ := ih
  refine ⟨?_, ?_⟩
  · intro x0 x1 ds h w0 O q
    rw [R21] at h
    by_cases b0 : ((↑(List.length x0) : Int) != (↑(List.length x1) : Int)) = true
    · rw [if_pos b0] at h
      subst h
      exact AtV.fin Tryd.func21 tabOk ext21Ok mixed (p21_0 x0 x1) ⟨b0, trivial⟩
    · rw [if_neg b0] at h
      replace b0 := Bool.eq_false_iff.2 b0
      exact AtV.runN tabOk ext21Ok mixed (p21_1 x0 x1) ⟨b0, trivial⟩ (ih4 _ _ _ _ h w0 O q)

  · intro v5 x0 x1 ds h w0 O q
    rw [R21_4] at h
    by_cases b0 : (Decidable.decide (v5 < (↑(List.length x0) : Int))) = true
    · rw [if_pos b0] at h
      obtain ⟨s0, s1, h⟩ := h
      obtain ⟨s2, s3, h⟩ := h
      by_cases b1 : (!g76_0 (List.getD x0 (Int.toNat v5) (ByteArray.empty, ByteArray.empty, ByteArray.empty, ())) (List.getD x1 (Int.toNat v5) (ByteArray.empty, ByteArray.empty, ByteArray.empty, ()))) = true
      · rw [if_pos b1] at h
        subst h
        exact AtV.fin Tryd.func21 tabOk ext21Ok mixed (p21_2 v5 x0 x1) ⟨b0, s0, s1, s2, s3, trivial, b1, trivial⟩
      · rw [if_neg b1] at h
        replace b1 := Bool.eq_false_iff.2 b1
        obtain ⟨s4, h⟩ := h
        exact AtV.runN tabOk ext21Ok mixed (p21_3 v5 x0 x1) ⟨b0, s0, s1, s2, s3, trivial, b1, s4, trivial⟩ (ih4 _ _ _ _ h w0 O q)
    · rw [if_neg b0] at h
      replace b0 := Bool.eq_false_iff.2 b0
      subst h
      exact AtV.fin Tryd.func21 tabOk ext21Ok mixed (p21_4 v5 x0 x1) ⟨b0, trivial⟩



theorem eq21 (x0 x1 : List (ByteArray × ByteArray × ByteArray × Unit)) (hl : x0.length = x1.length) (hm : x0.length ≤ maxLen) : ∀ k i : Nat, i + k = x0.length → R21_4 (k + 1) (i : Int) x0 x1 [⟨.bool, decide (x0.drop i = x1.drop i)⟩] := by
  intro k
  induction k with
  | zero =>
    intro i hi
    have h1 : ¬ (i : Int) < (x0.length : Int) := by omega
    rw [R21_4, if_neg (by simpa using h1), drop_end x0 i (by omega), drop_end x1 i (by omega)]
    simp
  | succ k ih =>
    intro i hi
    have h1 : (i : Int) < (x0.length : Int) := by omega
    rw [R21_4, if_pos (by simpa using h1)]
    refine ⟨by omega, h1, by omega, by omega, ?_⟩
    simp only [Int.toNat_natCast]
    rw [drop_get x0 i (ByteArray.empty, ByteArray.empty, ByteArray.empty, ()) (by omega), drop_get x1 i (ByteArray.empty, ByteArray.empty, ByteArray.empty, ()) (by omega)]
    by_cases he : x0.getD i (ByteArray.empty, ByteArray.empty, ByteArray.empty, ()) = x1.getD i (ByteArray.empty, ByteArray.empty, ByteArray.empty, ())
    · have hd := (eqd76 _ _).2 he
      rw [if_neg (by rw [hd]; simp)]
      refine ⟨inR_up hm (by omega), ?_⟩
      have := ih (i + 1) (by omega)
      simp only [he, List.cons.injEq, true_and]
      exact this
    · have hd : g76_0 (x0.getD i (ByteArray.empty, ByteArray.empty, ByteArray.empty, ())) (x1.getD i (ByteArray.empty, ByteArray.empty, ByteArray.empty, ())) = false :=
        Bool.eq_false_iff.2 fun h => he ((eqd76 _ _).1 h)
      rw [if_pos (by rw [hd]; rfl)]
      simp only [he, List.cons.injEq, false_and, decide_false]

def g21_0 (x0 x1 : List (ByteArray × ByteArray × ByteArray × Unit)) : Bool := decide (x0 = x1)
def P21 (x0 x1 : List (ByteArray × ByteArray × ByteArray × Unit)) : Prop := True
def S21 : Am.Spec := { sig := sig21, pre := fun ⟨x0, x1, _⟩ => P21 x0 x1, res := fun ⟨x0, x1, _⟩ => [⟨Ty.bool, g21_0 x0 x1⟩] }
theorem con21 : Contract Tryd.prog 21 S21 := contract_of Tryd.func21 hb21 (Nat.le_of_ble_eq_true (by kernel_rfl)) (fun ⟨x0, x1, _⟩ h hwf w0 O q => by
  refine (snd21 (x0.length + 2)).1 x0 x1 _ ?_ w0 O q
  show R21 (x0.length + 1 + 1) x0 x1 [⟨Ty.bool, decide (x0 = x1)⟩]
  rw [R21]
  by_cases hl : x0.length = x1.length
  · rw [if_neg (by simp [hl])]
    have := eq21 x0 x1 hl hwf.1.1 x0.length 0 (by omega)
    simpa using this
  · rw [if_pos (by simp; omega)]
    have : x0 ≠ x1 := fun h => hl (by rw [h])
    simp [this])

end Go.Proofs.YtakodkjcmacofaaDoor

/- Function 77 (laws.eqCheck): its runs between cut points. Written by a program of this repo (gen). -/
set_option linter.unusedVariables false
set_option linter.unusedSimpArgs false
set_option maxRecDepth 100000
namespace Go.Proofs.YtakodkjcmacofaaDoor
open Go Go.Am Go.Proofs
def ext77 : Ext := []
theorem ext77Ok : ExtOk Tryd.prog ext77 := trivial
/-! Function 77. -/
noncomputable def b77 : Code := bodyOf Tryd.f77
theorem hb77 : Tryd.f77.body = some b77 := by kernel_rfl
def sig77 : List AT := [AT.v (Ty.cons Ty.str (Ty.cons (Ty.int IntKind.i64) (Ty.cons (Ty.int IntKind.i64) (Ty.cons (Ty.int IntKind.i64) (Ty.cons (Ty.int IntKind.i64) Ty.unit))))), AT.v (Ty.cons Ty.str (Ty.cons (Ty.int IntKind.i64) (Ty.cons (Ty.int IntKind.i64) (Ty.cons (Ty.int IntKind.i64) (Ty.cons (Ty.int IntKind.i64) Ty.unit)))))]
def tys77 : List Ty := [Ty.bool]
def P77 (x0 : ByteArray × Int × Int × Int × Int × Unit) (x1 : ByteArray × Int × Int × Int × Int × Unit) : Prop := True
def g77_0 (x0 : ByteArray × Int × Int × Int × Int × Unit) (x1 : ByteArray × Int × Int × Int × Int × Unit) : Bool := (if (!ByteArray.toList (Prod.fst x0) == ByteArray.toList (Prod.fst x1)) = true then Bool.false else (if (Prod.fst (Prod.snd x0) != Prod.fst (Prod.snd x1)) = true then Bool.false else (if (Prod.fst (Prod.snd (Prod.snd x0)) != Prod.fst (Prod.snd (Prod.snd x1))) = true then Bool.false else (if (Prod.fst (Prod.snd (Prod.snd (Prod.snd x0))) != Prod.fst (Prod.snd (Prod.snd (Prod.snd x1)))) = true then Bool.false else (if (Prod.fst (Prod.snd (Prod.snd (Prod.snd (Prod.snd x0)))) != Prod.fst (Prod.snd (Prod.snd (Prod.snd (Prod.snd x1))))) = true then Bool.false else Bool.true)))))
theorem p77_0 (x0 : ByteArray × Int × Int × Int × Int × Unit) (x1 : ByteArray × Int × Int × Int × Int × Unit) : runF tab ext77 false 30 [] 2000 [] tys77 Tryd.f77.results [true] [.code b77] (entE 0 0 sig77 (x0, x1, ())) (entL sig77 (x0, x1, ())) = some ([Dyn.mk Ty.bool Bool.false], [], [(!ByteArray.toList (Prod.fst x0) == ByteArray.toList (Prod.fst x1)) = Bool.true]) := by kernel_rfl
theorem p77_1 (x0 : ByteArray × Int × Int × Int × Int × Unit) (x1 : ByteArray × Int × Int × Int × Int × Unit) : runF tab ext77 false 30 [] 2000 [] tys77 Tryd.f77.results [false, true] [.code b77] (entE 0 0 sig77 (x0, x1, ())) (entL sig77 (x0, x1, ())) = some ([Dyn.mk Ty.bool Bool.false], [], [(!ByteArray.toList (Prod.fst x0) == ByteArray.toList (Prod.fst x1)) = Bool.false, (Prod.fst (Prod.snd x0) != Prod.fst (Prod.snd x1)) = Bool.true]) := by kernel_rfl
theorem p77_2 (x0 : ByteArray × Int × Int × Int × Int × Unit) (x1 : ByteArray × Int × Int × Int × Int × Unit) : runF tab ext77 false 30 [] 2000 [] tys77 Tryd.f77.results [false, false, true] [.code b77] (entE 0 0 sig77 (x0, x1, ())) (entL sig77 (x0, x1, ())) = some ([Dyn.mk Ty.bool Bool.false], [], [(!ByteArray.toList (Prod.fst x0) == ByteArray.toList (Prod.fst x1)) = Bool.false, (Prod.fst (Prod.snd x0) != Prod.fst (Prod.snd x1)) = Bool.false, (Prod.fst (Prod.snd (Prod.snd x0)) != Prod.fst (Prod.snd (Prod.snd x1))) = Bool.true]) := by kernel_rfl
theorem p77_3 (x0 : ByteArray × Int × Int × Int × Int × Unit) (x1 : ByteArray × Int × Int × Int × Int × Unit) : runF tab ext77 false 30 [] 2000 [] tys77 Tryd.f77.results [false, false, false, true] [.code b77] (entE 0 0 sig77 (x0, x1, ())) (entL sig77 (x0, x1, ())) = some ([Dyn.mk Ty.bool Bool.false], [], [(!ByteArray.toList (Prod.fst x0) == ByteArray.toList (Prod.fst x1)) = Bool.false, (Prod.fst (Prod.snd x0) != Prod.fst (Prod.snd x1)) = Bool.false, (Prod.fst (Prod.snd (Prod.snd x0)) != Prod.fst (Prod.snd (Prod.snd x1))) = Bool.false, (Prod.fst (Prod.snd (Prod.snd (Prod.snd x0))) != Prod.fst (Prod.snd (Prod.snd (Prod.snd x1)))) = Bool.true]) := by kernel_rfl
theorem p77_4 (x0 : ByteArray × Int × Int × Int × Int × Unit) (x1 : ByteArray × Int × Int × Int × Int × Unit) : runF tab ext77 false 30 [] 2000 [] tys77 Tryd.f77.results [false, false, false, false, true] [.code b77] (entE 0 0 sig77 (x0, x1, ())) (entL sig77 (x0, x1, ())) = some ([Dyn.mk Ty.bool Bool.false], [], [(!ByteArray.toList (Prod.fst x0) == ByteArray.toList (Prod.fst x1)) = Bool.false, (Prod.fst (Prod.snd x0) != Prod.fst (Prod.snd x1)) = Bool.false, (Prod.fst (Prod.snd (Prod.snd x0)) != Prod.fst (Prod.snd (Prod.snd x1))) = Bool.false, (Prod.fst (Prod.snd (Prod.snd (Prod.snd x0))) != Prod.fst (Prod.snd (Prod.snd (Prod.snd x1)))) = Bool.false, (Prod.fst (Prod.snd (Prod.snd (Prod.snd (Prod.snd x0)))) != Prod.fst (Prod.snd (Prod.snd (Prod.snd (Prod.snd x1))))) = Bool.true]) := by kernel_rfl
theorem p77_5 (x0 : ByteArray × Int × Int × Int × Int × Unit) (x1 : ByteArray × Int × Int × Int × Int × Unit) : runF tab ext77 false 30 [] 2000 [] tys77 Tryd.f77.results [false, false, false, false, false] [.code b77] (entE 0 0 sig77 (x0, x1, ())) (entL sig77 (x0, x1, ())) = some ([Dyn.mk Ty.bool Bool.true], [], [(!ByteArray.toList (Prod.fst x0) == ByteArray.toList (Prod.fst x1)) = Bool.false, (Prod.fst (Prod.snd x0) != Prod.fst (Prod.snd x1)) = Bool.false, (Prod.fst (Prod.snd (Prod.snd x0)) != Prod.fst (Prod.snd (Prod.snd x1))) = Bool.false, (Prod.fst (Prod.snd (Prod.snd (Prod.snd x0))) != Prod.fst (Prod.snd (Prod.snd (Prod.snd x1)))) = Bool.false, (Prod.fst (Prod.snd (Prod.snd (Prod.snd (Prod.snd x0)))) != Prod.fst (Prod.snd (Prod.snd (Prod.snd (Prod.snd x1))))) = Bool.false]) := by kernel_rfl
theorem at77 (x0 : ByteArray × Int × Int × Int × Int × Unit) (x1 : ByteArray × Int × Int × Int × Int × Unit) (h : P77 x0 x1) (w0 : World) (O : List Nat) (q : Nat → Value) : AtV Tryd.prog 77 (PostR [⟨Ty.bool, g77_0 x0 x1⟩] [] [] q w0 O) 30 w0 O q [] [.code b77] (entE 0 0 sig77 (x0, x1, ())) (entL sig77 (x0, x1, ())) := by
  unfold P77 at h
  unfold g77_0
  by_cases b0 : (!ByteArray.toList (Prod.fst x0) == ByteArray.toList (Prod.fst x1)) = true
  · try simp only [if_pos b0] at h ⊢
    exact AtV.fin Tryd.func77 tabOk ext77Ok mixed (p77_0 x0 x1) ⟨b0, trivial⟩
  · try simp only [if_neg b0] at h ⊢
    replace b0 := Bool.eq_false_iff.2 b0
    by_cases b1 : (Prod.fst (Prod.snd x0) != Prod.fst (Prod.snd x1)) = true
    · try simp only [if_pos b1] at h ⊢
      exact AtV.fin Tryd.func77 tabOk ext77Ok mixed (p77_1 x0 x1) ⟨b0, b1, trivial⟩
    · try simp only [if_neg b1] at h ⊢
      replace b1 := Bool.eq_false_iff.2 b1
      by_cases b2 : (Prod.fst (Prod.snd (Prod.snd x0)) != Prod.fst (Prod.snd (Prod.snd x1))) = true
      · try simp only [if_pos b2] at h ⊢
        exact AtV.fin Tryd.func77 tabOk ext77Ok mixed (p77_2 x0 x1) ⟨b0, b1, b2, trivial⟩
      · try simp only [if_neg b2] at h ⊢
        replace b2 := Bool.eq_false_iff.2 b2
        by_cases b3 : (Prod.fst (Prod.snd (Prod.snd (Prod.snd x0))) != Prod.fst (Prod.snd (Prod.snd (Prod.snd x1)))) = true
        · try simp only [if_pos b3] at h ⊢
          exact AtV.fin Tryd.func77 tabOk ext77Ok mixed (p77_3 x0 x1) ⟨b0, b1, b2, b3, trivial⟩
        · try simp only [if_neg b3] at h ⊢
          replace b3 := Bool.eq_false_iff.2 b3
          by_cases b4 : (Prod.fst (Prod.snd (Prod.snd (Prod.snd (Prod.snd x0)))) != Prod.fst (Prod.snd (Prod.snd (Prod.snd (Prod.snd x1))))) = true
          · try simp only [if_pos b4] at h ⊢
            exact AtV.fin Tryd.func77 tabOk ext77Ok mixed (p77_4 x0 x1) ⟨b0, b1, b2, b3, b4, trivial⟩
          · try simp only [if_neg b4] at h ⊢
            replace b4 := Bool.eq_false_iff.2 b4
            exact AtV.fin Tryd.func77 tabOk ext77Ok mixed (p77_5 x0 x1) ⟨b0, b1, b2, b3, b4, trivial⟩

def S77 : Am.Spec := { sig := sig77, pre := fun ⟨x0, x1, _⟩ => P77 x0 x1, res := fun ⟨x0, x1, _⟩ => [⟨Ty.bool, g77_0 x0 x1⟩] }
theorem con77 : Contract Tryd.prog 77 S77 := contract_of Tryd.func77 hb77 (Nat.le_of_ble_eq_true (by kernel_rfl)) (fun ⟨x0, x1, _⟩ h _ w0 O q => at77 x0 x1 h w0 O q)


theorem eqd77 (x y : (ByteArray × Int × Int × Int × Int × Unit)) : g77_0 x y = true ↔ x = y := by
  obtain ⟨a, b, c, d, e, u⟩ := x
  obtain ⟨a', b', c', d', e', u'⟩ := y
  unfold g77_0
  simp only [Bool.not_eq_true', bytes_ne, bne_iff_ne, ne_eq, ite_not]
  by_cases h0 : a = a'
  · by_cases h1 : b = b'
    · by_cases h2 : c = c'
      · by_cases h3 : d = d'
        · by_cases h4 : e = e'
          · simp [h0, h1, h2, h3, h4]
          · simp [h0, h1, h2, h3, h4]
        · simp [h0, h1, h2, h3]
      · simp [h0, h1, h2]
    · simp [h0, h1]
  · simp [h0]

end Go.Proofs.YtakodkjcmacofaaDoor

/- Function 22 (laws.eqCheckS): its runs between cut points. Written by a program of this repo (gen). -/
set_option linter.unusedVariables false
set_option linter.unusedSimpArgs false
set_option maxRecDepth 100000
namespace Go.Proofs.YtakodkjcmacofaaDoor
open Go Go.Am Go.Proofs
def ext22 : Ext := [(77, S77)]
theorem call22_77 : Callable Tryd.prog 77 := ⟨Tryd.f77, Tryd.func77, by kernel_rfl, by kernel_rfl⟩
theorem ext22Ok : ExtOk Tryd.prog ext22 := ⟨⟨call22_77, con77⟩, trivial⟩
/-! Function 22. -/
noncomputable def b22 : Code := bodyOf Tryd.f22
theorem hb22 : Tryd.f22.body = some b22 := by kernel_rfl
def sig22 : List AT := [AT.v (Ty.sl (Ty.cons Ty.str (Ty.cons (Ty.int IntKind.i64) (Ty.cons (Ty.int IntKind.i64) (Ty.cons (Ty.int IntKind.i64) (Ty.cons (Ty.int IntKind.i64) Ty.unit)))))), AT.v (Ty.sl (Ty.cons Ty.str (Ty.cons (Ty.int IntKind.i64) (Ty.cons (Ty.int IntKind.i64) (Ty.cons (Ty.int IntKind.i64) (Ty.cons (Ty.int IntKind.i64) Ty.unit))))))]
def tys22 : List Ty := [Ty.bool]
def E22_4 (v5 : Int) (x0 : List (ByteArray × Int × Int × Int × Int × Unit)) (x1 : List (ByteArray × Int × Int × Int × Int × Unit)) : Env := [(0, PV.a (Atom.sl (Ty.cons Ty.str (Ty.cons (Ty.int IntKind.i64) (Ty.cons (Ty.int IntKind.i64) (Ty.cons (Ty.int IntKind.i64) (Ty.cons (Ty.int IntKind.i64) Ty.unit))))) x0)), (1, PV.a (Atom.sl (Ty.cons Ty.str (Ty.cons (Ty.int IntKind.i64) (Ty.cons (Ty.int IntKind.i64) (Ty.cons (Ty.int IntKind.i64) (Ty.cons (Ty.int IntKind.i64) Ty.unit))))) x1)), (5, PV.a (Atom.val (Value.int IntKind.i64 v5)))]
def L22_4 (v5 : Int) (x0 : List (ByteArray × Int × Int × Int × Int × Unit)) (x1 : List (ByteArray × Int × Int × Int × Int × Unit)) : Heap := []
mutual
def R22 : Nat → List (ByteArray × Int × Int × Int × Int × Unit) → List (ByteArray × Int × Int × Int × Int × Unit) → List Dyn → Prop
  | 0, _, _, _ => False
  | n + 1, x0, x1, ds => (if ((↑(List.length x0) : Int) != (↑(List.length x1) : Int)) = true then (ds = [Dyn.mk Ty.bool Bool.false]) else (R22_4 n (0) (x0) (x1) ds))
def R22_4 : Nat → Int → List (ByteArray × Int × Int × Int × Int × Unit) → List (ByteArray × Int × Int × Int × Int × Unit) → List Dyn → Prop
  | 0, _, _, _, _ => False
  | n + 1, v5, x0, x1, ds => (if (Decidable.decide (v5 < (↑(List.length x0) : Int))) = true then ((0 ≤ v5) ∧ (v5 < (↑(List.length x0) : Int)) ∧ ((0 ≤ v5) ∧ (v5 < (↑(List.length x1) : Int)) ∧ (if (!g77_0 (List.getD x0 (Int.toNat v5) (ByteArray.empty, 0, 0, 0, 0, ())) (List.getD x1 (Int.toNat v5) (ByteArray.empty, 0, 0, 0, 0, ()))) = true then (ds = [Dyn.mk Ty.bool Bool.false]) else ((InR IntKind.i64 (v5 + 1)) ∧ (R22_4 n (v5 + 1) (x0) (x1) ds))))) else (ds = [Dyn.mk Ty.bool Bool.true]))
end
theorem p22_0 (x0 : List (ByteArray × Int × Int × Int × Int × Unit)) (x1 : List (ByteArray × Int × Int × Int × Int × Unit)) : runF tab ext22 false 27 [] 2000 [] tys22 Tryd.f22.results [true] [.code b22] (entE 0 0 sig22 (x0, x1, ())) (entL sig22 (x0, x1, ())) = some ([Dyn.mk Ty.bool Bool.false], [], [((↑(List.length x0) : Int) != (↑(List.length x1) : Int)) = Bool.true]) := by kernel_rfl
theorem p22_1 (x0 : List (ByteArray × Int × Int × Int × Int × Unit)) (x1 : List (ByteArray × Int × Int × Int × Int × Unit)) : Am.runN tab ext22 false 27 [] 2000 [] [] [0, 1, 5] [] [false] [.code b22] (entE 0 0 sig22 (x0, x1, ())) (entL sig22 (x0, x1, ())) = some (cutAt b22 4, E22_4 (0) (x0) (x1), L22_4 (0) (x0) (x1), [((↑(List.length x0) : Int) != (↑(List.length x1) : Int)) = Bool.false]) := by kernel_rfl
theorem p22_2 (v5 : Int) (x0 : List (ByteArray × Int × Int × Int × Int × Unit)) (x1 : List (ByteArray × Int × Int × Int × Int × Unit)) : runF tab ext22 false 27 [] 2000 [] tys22 Tryd.f22.results [true, true] (cutAt b22 4) (E22_4 v5 x0 x1) (L22_4 v5 x0 x1) = some ([Dyn.mk Ty.bool Bool.false], [], [Decidable.decide (v5 < (↑(List.length x0) : Int)) = Bool.true, 0 ≤ v5, v5 < (↑(List.length x0) : Int), 0 ≤ v5, v5 < (↑(List.length x1) : Int), True, (!g77_0 (List.getD x0 (Int.toNat v5) (ByteArray.empty, 0, 0, 0, 0, ())) (List.getD x1 (Int.toNat v5) (ByteArray.empty, 0, 0, 0, 0, ()))) = Bool.true]) := by kernel_rfl
theorem p22_3 (v5 : Int) (x0 : List (ByteArray × Int × Int × Int × Int × Unit)) (x1 : List (ByteArray × Int × Int × Int × Int × Unit)) : Am.runN tab ext22 false 27 [] 2000 [] [] [0, 1, 5] [] [true, false] (cutAt b22 4) (E22_4 v5 x0 x1) (L22_4 v5 x0 x1) = some (cutAt b22 4, E22_4 (v5 + 1) (x0) (x1), L22_4 (v5 + 1) (x0) (x1), [Decidable.decide (v5 < (↑(List.length x0) : Int)) = Bool.true, 0 ≤ v5, v5 < (↑(List.length x0) : Int), 0 ≤ v5, v5 < (↑(List.length x1) : Int), True, (!g77_0 (List.getD x0 (Int.toNat v5) (ByteArray.empty, 0, 0, 0, 0, ())) (List.getD x1 (Int.toNat v5) (ByteArray.empty, 0, 0, 0, 0, ()))) = Bool.false, InR IntKind.i64 (v5 + 1)]) := by kernel_rfl
theorem p22_4 (v5 : Int) (x0 : List (ByteArray × Int × Int × Int × Int × Unit)) (x1 : List (ByteArray × Int × Int × Int × Int × Unit)) : runF tab ext22 false 27 [] 2000 [] tys22 Tryd.f22.results [false] (cutAt b22 4) (E22_4 v5 x0 x1) (L22_4 v5 x0 x1) = some ([Dyn.mk Ty.bool Bool.true], [], [Decidable.decide (v5 < (↑(List.length x0) : Int)) = Bool.false]) := by kernel_rfl
theorem snd22 : ∀ n, (∀ (x0 : List (ByteArray × Int × Int × Int × Int × Unit)) (x1 : List (ByteArray × Int × Int × Int × Int × Unit)) ds, R22 n x0 x1 ds → ∀ w0 O q, AtV Tryd.prog 22 (PostR ds [] [] q w0 O) 27 w0 O q [] [.code b22] (entE 0 0 sig22 (x0, x1, ())) (entL sig22 (x0, x1, ()))) ∧ (∀ (v5 : Int) (x0 : List (ByteArray × Int × Int × Int × Int × Unit)) (x1 : List (ByteArray × Int × Int × Int × Int × Unit)) ds, R22_4 n v5 x0 x1 ds → ∀ w0 O q, AtV Tryd.prog 22 (PostR ds [] [] q w0 O) 27 w0 O q [] (cutAt b22 4) (E22_4 v5 x0 x1) (L22_4 v5 x0 x1)) := by
  intro n
  induction n with
  | zero => exact ⟨fun _ _ _ h => by simp only [R22] at h, fun _ _ _ _ h => by simp only [R22_4] at h⟩
  | succ n ih =>
  obtain ⟨ih, ih4⟩ := ih
  refine ⟨?_, ?_⟩
  · intro x0 x1 ds h w0 O q
    rw [R22] at h
    by_cases b0 : ((↑(List.length x0) : Int) != (↑(List.length x1) : Int)) = true
    · rw [if_pos b0] at h
      subst h
      exact AtV.fin Tryd.func22 tabOk ext22Ok mixed (p22_0 x0 x1) ⟨b0, trivial⟩
    · rw [if_neg b0] at h
      replace b0 := Bool.eq_false_iff.2 b0
      exact AtV.runN tabOk ext22Ok mixed (p22_1 x0 x1) ⟨b0, trivial⟩ (ih4 _ _ _ _ h w0 O q)

  · intro v5 x0 x1 ds h w0 O q
    rw [R22_4] at h
    by_cases b0 : (Decidable.decide (v5 < (↑(List.length x0) : Int))) = true
    · rw [if_pos b0] at h
      obtain ⟨s0, s1, h⟩ := h
      obtain ⟨s2, s3, h⟩ := h
      by_cases b1 : (!g77_0 (List.getD x0 (Int.toNat v5) (ByteArray.empty, 0, 0, 0, 0, ())) (List.getD x1 (Int.toNat v5) (ByteArray.empty, 0, 0, 0, 0, ()))) = true
      · rw [if_pos b1] at h
        subst h
        exact AtV.fin Tryd.func22 tabOk ext22Ok mixed (p22_2 v5 x0 x1) ⟨b0, s0, s1, s2, s3, trivial, b1, trivial⟩
      · rw [if_neg b1] at h
        replace b1 := Bool.eq_false_iff.2 b1
        obtain ⟨s4, h⟩ := h
        exact AtV.runN tabOk ext22Ok mixed (p22_3 v5 x0 x1) ⟨b0, s0, s1, s2, s3, trivial, b1, s4, trivial⟩ (ih4 _ _ _ _ h w0 O q)
    · rw [if_neg b0] at h
      replace b0 := Bool.eq_false_iff.2 b0
      subst h
      exact AtV.fin Tryd.func22 tabOk ext22Ok mixed (p22_4 v5 x0 x1) ⟨b0, trivial⟩



theorem eq22 (x0 x1 : List (ByteArray × Int × Int × Int × Int × Unit)) (hl : x0.length = x1.length) (hm : x0.length ≤ maxLen) : ∀ k i : Nat, i + k = x0.length → R22_4 (k + 1) (i : Int) x0 x1 [⟨.bool, decide (x0.drop i = x1.drop i)⟩] := by
  intro k
  induction k with
  | zero =>
    intro i hi
    have h1 : ¬ (i : Int) < (x0.length : Int) := by omega
    rw [R22_4, if_neg (by simpa using h1), drop_end x0 i (by omega), drop_end x1 i (by omega)]
    simp
  | succ k ih =>
    intro i hi
    have h1 : (i : Int) < (x0.length : Int) := by omega
    rw [R22_4, if_pos (by simpa using h1)]
    refine ⟨by omega, h1, by omega, by omega, ?_⟩
    simp only [Int.toNat_natCast]
    rw [drop_get x0 i (ByteArray.empty, (0 : Int), (0 : Int), (0 : Int), (0 : Int), ()) (by omega), drop_get x1 i (ByteArray.empty, (0 : Int), (0 : Int), (0 : Int), (0 : Int), ()) (by omega)]
    by_cases he : x0.getD i (ByteArray.empty, (0 : Int), (0 : Int), (0 : Int), (0 : Int), ()) = x1.getD i (ByteArray.empty, (0 : Int), (0 : Int), (0 : Int), (0 : Int), ())
    · have hd := (eqd77 _ _).2 he
      rw [if_neg (by rw [hd]; simp)]
      refine ⟨inR_up hm (by omega), ?_⟩
      have := ih (i + 1) (by omega)
      simp only [he, List.cons.injEq, true_and]
      exact this
    · have hd : g77_0 (x0.getD i (ByteArray.empty, (0 : Int), (0 : Int), (0 : Int), (0 : Int), ())) (x1.getD i (ByteArray.empty, (0 : Int), (0 : Int), (0 : Int), (0 : Int), ())) = false :=
        Bool.eq_false_iff.2 fun h => he ((eqd77 _ _).1 h)
      rw [if_pos (by rw [hd]; rfl)]
      simp only [he, List.cons.injEq, false_and, decide_false]

def g22_0 (x0 x1 : List (ByteArray × Int × Int × Int × Int × Unit)) : Bool := decide (x0 = x1)
def P22 (x0 x1 : List (ByteArray × Int × Int × Int × Int × Unit)) : Prop := True
def S22 : Am.Spec := { sig := sig22, pre := fun ⟨x0, x1, _⟩ => P22 x0 x1, res := fun ⟨x0, x1, _⟩ => [⟨Ty.bool, g22_0 x0 x1⟩] }
theorem con22 : Contract Tryd.prog 22 S22 := contract_of Tryd.func22 hb22 (Nat.le_of_ble_eq_true (by kernel_rfl)) (fun ⟨x0, x1, _⟩ h hwf w0 O q => by
  refine (snd22 (x0.length + 2)).1 x0 x1 _ ?_ w0 O q
  show R22 (x0.length + 1 + 1) x0 x1 [⟨Ty.bool, decide (x0 = x1)⟩]
  rw [R22]
  by_cases hl : x0.length = x1.length
  · rw [if_neg (by simp [hl])]
    have := eq22 x0 x1 hl hwf.1.1 x0.length 0 (by omega)
    simpa using this
  · rw [if_pos (by simp; omega)]
    have : x0 ≠ x1 := fun h => hl (by rw [h])
    simp [this])

end Go.Proofs.YtakodkjcmacofaaDoor
