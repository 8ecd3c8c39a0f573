/- Several texts in one: the functions that this law reaches, and their laws. -/
import Derived.Test.YtakodkjcmacofaaDoorZ3A
import Derived.Test.YtakodkjcmacofaaDoorZ3B
import Derived.Test.YtakodkjcmacofaaDoorRows
import Derived.KernelRfl
import Derived.Shelf.Vars
import Derived.Shelf.Strings.Builder1
import Derived.Shelf.Strings.Builder2
import Derived.Shelf.Strings.OnBuilder
import Derived.Shelf.Strings.BuilderF
import Derived.Shelf.Strings.BuilderK
import Derived.Shelf.Utf8.RuneCount
import Derived.Shelf.Strconv.Itoa0
import Derived.Shelf.Strconv.Itoa1
import Derived.Shelf.LaysM
import Derived.Shelf.Strconv.Itoa2
import Derived.Shelf.Strconv.Itoa3
import Derived.Shelf.Strconv.Itoa4
import Derived.Shelf.Strings.Search1
import Derived.Shelf.Strings.Search2
import Derived.Shelf.Strings.Search3
import Derived.Shelf.Strings.Cut
import Derived.Shelf.Strings.Count
import Derived.Shelf.Strings.Shaped
import Derived.Shelf.Strings.Prefix
import Derived.Shelf.Strings.Split
import Derived.Shelf.Strings.SplitShaped
import Derived.Shelf.Unicode.Decode
import Derived.Shelf.Strings.RuneCount
import Derived.Shelf.Strings.Explode
import Derived.Shelf.Bits.Mul64
import Derived.Shelf.Strings.Repeat
import Derived.Shelf.Unicode.DecodeSlow
import Derived.Shelf.Unicode.DecodeAny
import Derived.Lib.ItoaNum

/- The types of this program, as the abstract machine reads them. -/
set_option linter.unusedVariables false
set_option linter.unusedSimpArgs false
set_option maxRecDepth 100000
namespace Go.Proofs.YtakodkjcmacofaaDoor
open Go Go.Am Go.Proofs
def tab : List TI := [TI.other,
  TI.other,
  TI.scal (Ty.int IntKind.i64),
  TI.scal (Ty.int IntKind.i64),
  TI.scal (Ty.bool),
  TI.scal (Ty.int IntKind.u8),
  TI.scal (Ty.int IntKind.u8),
  TI.struct (Ty.cons (Ty.int IntKind.i64) (Ty.cons (Ty.int IntKind.i64) (Ty.cons Ty.bool (Ty.cons (Ty.int IntKind.u8) Ty.unit)))),
  TI.struct (Ty.cons (Ty.int IntKind.i64) (Ty.cons (Ty.int IntKind.i64) (Ty.cons Ty.bool (Ty.cons (Ty.int IntKind.u8) Ty.unit)))),
  TI.scal (Ty.str),
  TI.scal (Ty.str),
  TI.scal (Ty.str),
  TI.scal (Ty.int IntKind.u64),
  TI.other,
  TI.other,
  TI.other,
  TI.other,
  TI.other,
  TI.other,
  TI.other,
  TI.other,
  TI.scal (Ty.int IntKind.i32),
  TI.other,
  TI.other,
  TI.other,
  TI.slice 73 (Ty.cons Ty.str (Ty.cons (Ty.int IntKind.i64) (Ty.cons (Ty.int IntKind.i64) (Ty.cons (Ty.int IntKind.i64) (Ty.cons (Ty.int IntKind.i64) Ty.unit))))) 48,
  TI.other,
  TI.slice 79 (Ty.cons Ty.str (Ty.cons Ty.str (Ty.cons Ty.str Ty.unit))) 48,
  TI.other,
  TI.other,
  TI.slice 75 (Ty.cons Ty.str (Ty.cons (Ty.int IntKind.i64) (Ty.cons (Ty.int IntKind.i64) (Ty.cons (Ty.int IntKind.i64) (Ty.cons (Ty.int IntKind.i64) Ty.unit))))) 48,
  TI.other,
  TI.other,
  TI.other,
  TI.other,
  TI.other,
  TI.other,
  TI.other,
  TI.other,
  TI.slice 89 (Ty.cons Ty.str (Ty.cons Ty.str (Ty.cons Ty.str Ty.unit))) 48,
  TI.other,
  TI.other,
  TI.other,
  TI.other,
  TI.other,
  TI.slice 5 (Ty.int IntKind.u8) 1,
  TI.other,
  TI.other,
  TI.other,
  TI.other,
  TI.other,
  TI.other,
  TI.other,
  TI.other,
  TI.other,
  TI.other,
  TI.other,
  TI.other,
  TI.other,
  TI.other,
  TI.slice 2 (Ty.int IntKind.i64) 8,
  TI.other,
  TI.other,
  TI.other,
  TI.other,
  TI.other,
  TI.other,
  TI.slice 9 (Ty.str) 16,
  TI.other,
  TI.other,
  TI.other,
  TI.other,
  TI.struct (Ty.cons Ty.str (Ty.cons (Ty.int IntKind.i64) (Ty.cons (Ty.int IntKind.i64) (Ty.cons (Ty.int IntKind.i64) (Ty.cons (Ty.int IntKind.i64) Ty.unit))))),
  TI.struct (Ty.cons Ty.str (Ty.cons (Ty.int IntKind.i64) (Ty.cons (Ty.int IntKind.i64) (Ty.cons (Ty.int IntKind.i64) (Ty.cons (Ty.int IntKind.i64) Ty.unit))))),
  TI.other,
  TI.struct (Ty.cons Ty.str (Ty.cons (Ty.int IntKind.i64) (Ty.cons (Ty.int IntKind.i64) (Ty.cons (Ty.int IntKind.i64) (Ty.cons (Ty.int IntKind.i64) Ty.unit))))),
  TI.other,
  TI.other,
  TI.struct (Ty.cons Ty.str (Ty.cons Ty.str (Ty.cons Ty.str Ty.unit))),
  TI.struct (Ty.cons Ty.str (Ty.cons Ty.str (Ty.cons Ty.str Ty.unit))),
  TI.other,
  TI.other,
  TI.other,
  TI.other,
  TI.other,
  TI.other,
  TI.other,
  TI.other,
  TI.other,
  TI.struct (Ty.cons Ty.str (Ty.cons Ty.str (Ty.cons Ty.str Ty.unit))),
  TI.other,
  TI.other,
  TI.other,
  TI.other,
  TI.other,
  TI.other,
  TI.other,
  TI.other,
  TI.other,
  TI.other,
  TI.other,
  TI.other,
  TI.other,
  TI.other,
  TI.other,
  TI.other,
  TI.other,
  TI.other,
  TI.other,
  TI.other,
  TI.other,
  TI.other,
  TI.other,
  TI.other,
  TI.other,
  TI.other,
  TI.other,
  TI.other,
  TI.other,
  TI.other,
  TI.other,
  TI.other,
  TI.other,
  TI.other,
  TI.other,
  TI.other,
  TI.other,
  TI.other,
  TI.other,
  TI.other,
  TI.other,
  TI.other,
  TI.other,
  TI.other,
  TI.scal (Ty.int IntKind.u64),
  TI.struct (Ty.cons (Ty.sl (Ty.int IntKind.u8)) (Ty.cons (Ty.int IntKind.i64) (Ty.cons (Ty.int IntKind.u64) Ty.unit))),
  TI.struct (Ty.cons (Ty.sl (Ty.int IntKind.u8)) (Ty.cons (Ty.int IntKind.i64) (Ty.cons (Ty.int IntKind.u64) Ty.unit))),
  TI.other,
  TI.other,
  TI.other,
  TI.other,
  TI.other,
  TI.other,
  TI.other,
  TI.other,
  TI.scal (Ty.int IntKind.u64),
  TI.other,
  TI.other,
  TI.other,
  TI.other,
  TI.other,
  TI.other,
  TI.other,
  TI.other,
  TI.other,
  TI.other,
  TI.slice 3 (Ty.int IntKind.i64) 8,
  TI.other,
  TI.other,
  TI.other,
  TI.other,
  TI.other,
  TI.scal (Ty.int IntKind.u32),
  TI.other,
  TI.other,
  TI.other,
  TI.other,
  TI.other,
  TI.other,
  TI.other,
  TI.other,
  TI.other,
  TI.other,
  TI.other,
  TI.other,
  TI.struct (Ty.cons (Ty.int IntKind.u8) (Ty.cons (Ty.int IntKind.u8) Ty.unit)),
  TI.struct (Ty.cons (Ty.int IntKind.u8) (Ty.cons (Ty.int IntKind.u8) Ty.unit)),
  TI.other,
  TI.other,
  TI.other,
  TI.other,
  TI.other,
  TI.other,
  TI.other,
  TI.other,
  TI.other,
  TI.scal (Ty.int IntKind.u8),
  TI.scal (Ty.int IntKind.u8),
  TI.other,
  TI.scal (Ty.int IntKind.i32),
  TI.scal (Ty.int IntKind.i32)]

theorem tabOk : TabOk Tryd.prog tab := tabOk_of_check (by kernel_rfl)
theorem mixed : Tryd.prog.follows .mixedOrders = true := by kernel_rfl
theorem gv0 {W : World} (h : GInv W) : GHas W 0 (.int .i64) := h.1
theorem gcell0 (W : World) (h : W.ShapedOpen Tryd.prog) : ∃ m, W.cell? ⟨0, 0, none⟩ = some (.int .i64 m) :=
  Go.Proofs.cell_of_shapedOpen_int (zero := #[.int .i64 0]) (t := 3) h (of_decide_eq_true (by kernel_rfl)) (by kernel_rfl) rfl (by kernel_rfl) (by kernel_rfl) Tryd.underlying3
theorem gv1 {W : World} (h : GInv W) : GHas W 1 (.tab .u64 Lib.pow10Tab) := h.2.1
theorem maxLenG {W : World} (h : GInv W) : ∃ m, W.cell? ⟨0, 0, none⟩ = some (.int .i64 m) := gv0 h
theorem pow10G {W : World} (h : GInv W) : Lib.TabIs Tryd.prog W "internal/strconv.uint64pow10" .u64 Lib.pow10Tab := GHas.tab (by kernel_rfl) (gv1 h)
theorem ginv (W : World) (h : W.ShapedOpen Tryd.prog) (h1 : GHas W 1 (.tab .u64 Lib.pow10Tab)) : GInv W := ⟨gcell0 W h, h1, trivial⟩
end Go.Proofs.YtakodkjcmacofaaDoor

/- Function 67 (spec.l01Digit): its runs between cut points. Written by a program of this repo (gen). -/
set_option linter.unusedVariables false
set_option linter.unusedSimpArgs false
set_option maxRecDepth 100000
namespace Go.Proofs.YtakodkjcmacofaaDoor
open Go Go.Am Go.Proofs
def ext67 : Ext := []
theorem ext67Ok : ExtOk Tryd.prog ext67 := trivial
/-! Function 67. -/
noncomputable def b67 : Code := bodyOf Tryd.f67
theorem hb67 : Tryd.f67.body = some b67 := by kernel_rfl
def sig67 : List AT := [AT.v (Ty.int IntKind.u8)]
def tys67 : List Ty := [Ty.bool]
def P67 (x0 : Int) : Prop := True
def g67_0 (x0 : Int) : Bool := (if (Decidable.decide (x0 ≥ 48)) = true then Decidable.decide (x0 ≤ 57) else Bool.false)
theorem p67_0 (x0 : Int) : runF tab ext67 false 9 [] 2000 [] tys67 Tryd.f67.results [true] [.code b67] (entE 0 0 sig67 (x0, ())) (entL sig67 (x0, ())) = some ([Dyn.mk Ty.bool (Decidable.decide (x0 ≤ 57))], [], [Decidable.decide (x0 ≥ 48) = Bool.true]) := by kernel_rfl
theorem p67_1 (x0 : Int) : runF tab ext67 false 9 [] 2000 [] tys67 Tryd.f67.results [false] [.code b67] (entE 0 0 sig67 (x0, ())) (entL sig67 (x0, ())) = some ([Dyn.mk Ty.bool Bool.false], [], [Decidable.decide (x0 ≥ 48) = Bool.false]) := by kernel_rfl
theorem at67 (x0 : Int) (h : P67 x0) (w0 : World) (O : List Nat) (q : Nat → Value) : AtV Tryd.prog 67 (PostR [⟨Ty.bool, g67_0 x0⟩] [] [] q w0 O) 9 w0 O q [] [.code b67] (entE 0 0 sig67 (x0, ())) (entL sig67 (x0, ())) := by
  unfold P67 at h
  unfold g67_0
  by_cases b0 : (Decidable.decide (x0 ≥ 48)) = true
  · try simp only [if_pos b0] at h ⊢
    exact AtV.fin Tryd.func67 tabOk ext67Ok mixed (p67_0 x0) ⟨b0, trivial⟩
  · try simp only [if_neg b0] at h ⊢
    replace b0 := Bool.eq_false_iff.2 b0
    exact AtV.fin Tryd.func67 tabOk ext67Ok mixed (p67_1 x0) ⟨b0, trivial⟩

def S67 : Am.Spec := { sig := sig67, pre := fun ⟨x0, _⟩ => P67 x0, res := fun ⟨x0, _⟩ => [⟨Ty.bool, g67_0 x0⟩] }
theorem con67 : Contract Tryd.prog 67 S67 := contract_of Tryd.func67 hb67 (Nat.le_of_ble_eq_true (by kernel_rfl)) (fun ⟨x0, _⟩ h _ w0 O q => at67 x0 h w0 O q)


end Go.Proofs.YtakodkjcmacofaaDoor

/- Function 63 (spec.l02Digits): its runs between cut points. Written by a program of this repo (gen). -/
set_option linter.unusedVariables false
set_option linter.unusedSimpArgs false
set_option maxRecDepth 100000
namespace Go.Proofs.YtakodkjcmacofaaDoor
open Go Go.Am Go.Proofs
def ext63 : Ext := [(67, S67)]
theorem call63_67 : Callable Tryd.prog 67 := ⟨Tryd.f67, Tryd.func67, by kernel_rfl, by kernel_rfl⟩
theorem ext63Ok : ExtOk Tryd.prog ext63 := ⟨⟨call63_67, con67⟩, trivial⟩
/-! Function 63. -/
noncomputable def b63 : Code := bodyOf Tryd.f63
theorem hb63 : Tryd.f63.body = some b63 := by kernel_rfl
def sig63 : List AT := [AT.v (Ty.str)]
def tys63 : List Ty := [Ty.int IntKind.i64, Ty.bool]
def E63_3 (v4 : Int) (v5 : Int) (x0 : ByteArray) : Env := [(0, PV.a (Atom.val (Value.string x0))), (4, PV.a (Atom.val (Value.int IntKind.i64 v4))), (5, PV.a (Atom.val (Value.int IntKind.i64 v5)))]
def L63_3 (v4 : Int) (v5 : Int) (x0 : ByteArray) : Heap := []
mutual
def R63 : Nat → ByteArray → List Dyn → Prop
  | 0, _, _ => False
  | n + 1, x0, ds => (R63_3 n (0) (0) (x0) ds)
def R63_3 : Nat → Int → Int → ByteArray → List Dyn → Prop
  | 0, _, _, _, _ => False
  | n + 1, v4, v5, x0, ds => (if (Decidable.decide (v5 < (↑(ByteArray.size x0) : Int))) = true then ((0 ≤ v5) ∧ (v5 < (↑(ByteArray.size x0) : Int)) ∧ (if (!g67_0 (↑(UInt8.toNat (List.getD (Array.toList (ByteArray.data x0)) (Int.toNat v5) 0)) : Int)) = true then (ds = [Dyn.mk (Ty.int IntKind.i64) 0, Dyn.mk Ty.bool Bool.false]) else ((InR IntKind.i64 (10 * v4)) ∧ ((0 ≤ v5) ∧ (v5 < (↑(ByteArray.size x0) : Int)) ∧ ((InR IntKind.u8 ((↑(UInt8.toNat (List.getD (Array.toList (ByteArray.data x0)) (Int.toNat v5) 0)) : Int) - 48)) ∧ ((InR IntKind.i64 ((↑(UInt8.toNat (List.getD (Array.toList (ByteArray.data x0)) (Int.toNat v5) 0)) : Int) - 48)) ∧ ((InR IntKind.i64 (10 * v4 + ((↑(UInt8.toNat (List.getD (Array.toList (ByteArray.data x0)) (Int.toNat v5) 0)) : Int) - 48))) ∧ ((InR IntKind.i64 (v5 + 1)) ∧ (R63_3 n (10 * v4 + ((↑(UInt8.toNat (List.getD (Array.toList (ByteArray.data x0)) (Int.toNat v5) 0)) : Int) - 48)) (v5 + 1) (x0) ds))))))))) else (ds = [Dyn.mk (Ty.int IntKind.i64) v4, Dyn.mk Ty.bool Bool.true]))
end
theorem p63_0 (x0 : ByteArray) : Am.runN tab ext63 false 26 [] 2000 [] [] [0, 4, 5] [] [] [.code b63] (entE 0 0 sig63 (x0, ())) (entL sig63 (x0, ())) = some (cutAt b63 3, E63_3 (0) (0) (x0), L63_3 (0) (0) (x0), []) := by kernel_rfl
theorem p63_1 (v4 : Int) (v5 : Int) (x0 : ByteArray) : runF tab ext63 false 26 [] 2000 [] tys63 Tryd.f63.results [true, true] (cutAt b63 3) (E63_3 v4 v5 x0) (L63_3 v4 v5 x0) = some ([Dyn.mk (Ty.int IntKind.i64) 0, Dyn.mk Ty.bool Bool.false], [], [Decidable.decide (v5 < (↑(ByteArray.size x0) : Int)) = Bool.true, 0 ≤ v5, v5 < (↑(ByteArray.size x0) : Int), True, (!g67_0 (↑(UInt8.toNat (List.getD (Array.toList (ByteArray.data x0)) (Int.toNat v5) 0)) : Int)) = Bool.true]) := by kernel_rfl
theorem p63_2 (v4 : Int) (v5 : Int) (x0 : ByteArray) : Am.runN tab ext63 false 26 [] 2000 [] [] [0, 4, 5] [] [true, false] (cutAt b63 3) (E63_3 v4 v5 x0) (L63_3 v4 v5 x0) = some (cutAt b63 3, E63_3 (10 * v4 + ((↑(UInt8.toNat (List.getD (Array.toList (ByteArray.data x0)) (Int.toNat v5) 0)) : Int) - 48)) (v5 + 1) (x0), L63_3 (10 * v4 + ((↑(UInt8.toNat (List.getD (Array.toList (ByteArray.data x0)) (Int.toNat v5) 0)) : Int) - 48)) (v5 + 1) (x0), [Decidable.decide (v5 < (↑(ByteArray.size x0) : Int)) = Bool.true, 0 ≤ v5, v5 < (↑(ByteArray.size x0) : Int), True, (!g67_0 (↑(UInt8.toNat (List.getD (Array.toList (ByteArray.data x0)) (Int.toNat v5) 0)) : Int)) = Bool.false, InR IntKind.i64 (10 * v4), 0 ≤ v5, v5 < (↑(ByteArray.size x0) : Int), InR IntKind.u8 ((↑(UInt8.toNat (List.getD (Array.toList (ByteArray.data x0)) (Int.toNat v5) 0)) : Int) - 48), InR IntKind.i64 ((↑(UInt8.toNat (List.getD (Array.toList (ByteArray.data x0)) (Int.toNat v5) 0)) : Int) - 48), InR IntKind.i64 (10 * v4 + ((↑(UInt8.toNat (List.getD (Array.toList (ByteArray.data x0)) (Int.toNat v5) 0)) : Int) - 48)), InR IntKind.i64 (v5 + 1)]) := by kernel_rfl
theorem p63_3 (v4 : Int) (v5 : Int) (x0 : ByteArray) : runF tab ext63 false 26 [] 2000 [] tys63 Tryd.f63.results [false] (cutAt b63 3) (E63_3 v4 v5 x0) (L63_3 v4 v5 x0) = some ([Dyn.mk (Ty.int IntKind.i64) v4, Dyn.mk Ty.bool Bool.true], [], [Decidable.decide (v5 < (↑(ByteArray.size x0) : Int)) = Bool.false]) := by kernel_rfl
theorem snd63 : ∀ n, (∀ (x0 : ByteArray) ds, R63 n x0 ds → ∀ w0 O q, AtV Tryd.prog 63 (PostR ds [] [] q w0 O) 26 w0 O q [] [.code b63] (entE 0 0 sig63 (x0, ())) (entL sig63 (x0, ()))) ∧ (∀ (v4 : Int) (v5 : Int) (x0 : ByteArray) ds, R63_3 n v4 v5 x0 ds → ∀ w0 O q, AtV Tryd.prog 63 (PostR ds [] [] q w0 O) 26 w0 O q [] (cutAt b63 3) (E63_3 v4 v5 x0) (L63_3 v4 v5 x0)) := by
  intro n
  induction n with
  | zero => exact ⟨fun _ _ h => by simp only [R63] at h, fun _ _ _ _ h => by simp only [R63_3] at h⟩
  | succ n ih =>
  obtain ⟨ih, ih3⟩ := ih
  refine ⟨?_, ?_⟩
  · intro x0 ds h w0 O q
    rw [R63] at h
    exact AtV.runN tabOk ext63Ok mixed (p63_0 x0) trivial (ih3 _ _ _ _ h w0 O q)

  · intro v4 v5 x0 ds h w0 O q
    rw [R63_3] at h
    by_cases b0 : (Decidable.decide (v5 < (↑(ByteArray.size x0) : Int))) = true
    · rw [if_pos b0] at h
      obtain ⟨s0, s1, h⟩ := h
      by_cases b1 : (!g67_0 (↑(UInt8.toNat (List.getD (Array.toList (ByteArray.data x0)) (Int.toNat v5) 0)) : Int)) = true
      · rw [if_pos b1] at h
        subst h
        exact AtV.fin Tryd.func63 tabOk ext63Ok mixed (p63_1 v4 v5 x0) ⟨b0, s0, s1, trivial, b1, trivial⟩
      · rw [if_neg b1] at h
        replace b1 := Bool.eq_false_iff.2 b1
        obtain ⟨s2, h⟩ := h
        obtain ⟨s3, s4, h⟩ := h
        obtain ⟨s5, h⟩ := h
        obtain ⟨s6, h⟩ := h
        obtain ⟨s7, h⟩ := h
        obtain ⟨s8, h⟩ := h
        exact AtV.runN tabOk ext63Ok mixed (p63_2 v4 v5 x0) ⟨b0, s0, s1, trivial, b1, s2, s3, s4, s5, s6, s7, s8, trivial⟩ (ih3 _ _ _ _ h w0 O q)
    · rw [if_neg b0] at h
      replace b0 := Bool.eq_false_iff.2 b0
      subst h
      exact AtV.fin Tryd.func63 tabOk ext63Ok mixed (p63_3 v4 v5 x0) ⟨b0, trivial⟩



def d63 (b : UInt8) : Bool := decide (48 ≤ b.toNat) && decide (b.toNat ≤ 57)
def dig63 : List UInt8 → Int → Int × Bool
  | [], n => (n, true)
  | b :: r, n => if d63 b then dig63 r (10 * n + ((b.toNat : Int) - 48)) else (0, false)
def g63_0 (x0 : ByteArray) : Int := (dig63 x0.data.toList 0).1
def g63_1 (x0 : ByteArray) : Bool := (dig63 x0.data.toList 0).2
def P63 (x0 : ByteArray) : Prop := x0.size ≤ 18

theorem run63 (x0 : ByteArray) (hs : x0.size ≤ 18) : ∀ (k i m : Nat), i + k = x0.size → m < 10 ^ i →
    R63_3 (k + 1) (m : Int) (i : Int) x0 [⟨.int .i64, (dig63 (x0.data.toList.drop i) (m : Int)).1⟩, ⟨.bool, (dig63 (x0.data.toList.drop i) (m : Int)).2⟩] := by
  intro k
  have hll : x0.data.toList.length = x0.size := rfl
  induction k with
  | zero =>
    intro i m hi hm
    rw [R63_3, if_neg (by simp; omega), List.drop_of_length_le (by omega)]
    rfl
  | succ k ih =>
    intro i m hi hm
    have hlt : i < x0.data.toList.length := by rw [hll]; omega
    have hcons : x0.data.toList.drop i = x0.data.toList.getD i 0 :: x0.data.toList.drop (i + 1) := drop_get _ i 0 hlt
    rw [R63_3, if_pos (by simp; omega), hcons]
    simp only [Int.toNat_natCast]
    generalize x0.data.toList.getD i 0 = b at *
    refine ⟨by omega, by omega, ?_⟩
    have hg : g67_0 (b.toNat : Int) = d63 b := by
      unfold g67_0 d63
      by_cases h1 : 48 ≤ b.toNat
      · have h1' : (b.toNat : Int) ≥ 48 := by omega
        by_cases h2 : b.toNat ≤ 57
        · have h2' : (b.toNat : Int) ≤ 57 := by omega
          simp [h1, h2, h1', h2']
        · have h2' : ¬ (b.toNat : Int) ≤ 57 := by omega
          simp [h1, h2, h1', h2']
      · have h1' : ¬ (b.toNat : Int) ≥ 48 := by omega
        simp [h1, h1']
    rw [hg]
    unfold dig63
    cases hd : d63 b with
    | false => rfl
    | true =>
      have hd' : 48 ≤ b.toNat ∧ b.toNat ≤ 57 := by unfold d63 at hd; simpa using hd
      have hp : 10 ^ i ≤ 10 ^ 17 := Nat.pow_le_pow_right (by decide) (by omega)
      have hm2 : m < 100000000000000000 := Nat.lt_of_lt_of_le hm hp
      simp only [Bool.not_true, Bool.false_eq_true, if_false, if_true]
      refine ⟨by rw [i64_iff]; omega, by omega, by omega, ?_, by rw [i64_iff]; omega, by rw [i64_iff]; omega, by rw [i64_iff]; omega, ?_⟩
      · rw [u8_iff]; omega
      · have e1 : 10 * (m : Int) + ((b.toNat : Int) - 48) = ((10 * m + (b.toNat - 48) : Nat) : Int) := by omega
        have e2 : (i : Int) + 1 = ((i + 1 : Nat) : Int) := by omega
        rw [e1, e2]
        exact ih (i + 1) (10 * m + (b.toNat - 48)) (by omega) (by rw [Nat.pow_succ]; omega)

theorem top63 (x0 : ByteArray) (h : P63 x0) : R63 (x0.size + 1 + 1) x0 [⟨.int .i64, g63_0 x0⟩, ⟨.bool, g63_1 x0⟩] := by
  rw [R63]
  exact run63 x0 h x0.size 0 0 (by omega) (by decide)

def S63 : Am.Spec := { sig := sig63, pre := fun ⟨x0, _⟩ => P63 x0, res := fun ⟨x0, _⟩ => [⟨.int .i64, g63_0 x0⟩, ⟨.bool, g63_1 x0⟩] }
theorem con63 : Contract Tryd.prog 63 S63 := contract_of Tryd.func63 hb63 (Nat.le_of_ble_eq_true (by kernel_rfl)) (fun ⟨x0, _⟩ h hwf w0 O q =>
  (snd63 _).1 x0 _ (top63 x0 h) w0 O q)

end Go.Proofs.YtakodkjcmacofaaDoor

/- Function 13 (spec.ReadClock): its runs between cut points. Written by a program of this repo (gen). -/
set_option linter.unusedVariables false
set_option linter.unusedSimpArgs false
set_option maxRecDepth 100000
namespace Go.Proofs.YtakodkjcmacofaaDoor
open Go Go.Am Go.Proofs
def ext13 : Ext := [(63, S63)]
theorem call13_63 : Callable Tryd.prog 63 := ⟨Tryd.f63, Tryd.func63, by kernel_rfl, by kernel_rfl⟩
theorem ext13Ok : ExtOk Tryd.prog ext13 := ⟨⟨call13_63, con63⟩, trivial⟩
/-! Function 13. -/
noncomputable def b13 : Code := bodyOf Tryd.f13
theorem hb13 : Tryd.f13.body = some b13 := by kernel_rfl
def sig13 : List AT := [AT.v (Ty.str)]
def tys13 : List Ty := [Ty.int IntKind.i64, Ty.bool]
def P13 (x0 : ByteArray) : Prop := (if ((↑(ByteArray.size x0) : Int) != 5) = true then True else ((2 < (↑(ByteArray.size x0) : Int)) ∧ (if ((↑(UInt8.toNat (List.getD (Array.toList (ByteArray.data x0)) 2 0)) : Int) != 58) = true then True else ((2 ≤ (↑(ByteArray.size x0) : Int)) ∧ ((P63 (ByteArray.extract x0 0 2)) ∧ ((3 ≤ (↑(ByteArray.size x0) : Int)) ∧ ((P63 (ByteArray.extract x0 3 (Int.toNat (↑(ByteArray.size x0) : Int)))) ∧ (if (!g63_1 (ByteArray.extract x0 0 2)) = true then True else (if (!g63_1 (ByteArray.extract x0 3 (Int.toNat (↑(ByteArray.size x0) : Int)))) = true then True else (if (Decidable.decide (g63_0 (ByteArray.extract x0 0 2) > 23)) = true then True else (if (Decidable.decide (g63_0 (ByteArray.extract x0 3 (Int.toNat (↑(ByteArray.size x0) : Int))) > 59)) = true then True else ((InR IntKind.i64 (60 * g63_0 (ByteArray.extract x0 0 2))) ∧ ((InR IntKind.i64 (60 * g63_0 (ByteArray.extract x0 0 2) + g63_0 (ByteArray.extract x0 3 (Int.toNat (↑(ByteArray.size x0) : Int))))) ∧ True)))))))))))))
def g13_0 (x0 : ByteArray) : Int := (if ((↑(ByteArray.size x0) : Int) != 5) = true then 0 else (if ((↑(UInt8.toNat (List.getD (Array.toList (ByteArray.data x0)) 2 0)) : Int) != 58) = true then 0 else (if (!g63_1 (ByteArray.extract x0 0 2)) = true then 0 else (if (!g63_1 (ByteArray.extract x0 3 (Int.toNat (↑(ByteArray.size x0) : Int)))) = true then 0 else (if (Decidable.decide (g63_0 (ByteArray.extract x0 0 2) > 23)) = true then 0 else (if (Decidable.decide (g63_0 (ByteArray.extract x0 3 (Int.toNat (↑(ByteArray.size x0) : Int))) > 59)) = true then 0 else 60 * g63_0 (ByteArray.extract x0 0 2) + g63_0 (ByteArray.extract x0 3 (Int.toNat (↑(ByteArray.size x0) : Int)))))))))
def g13_1 (x0 : ByteArray) : Bool := (if ((↑(ByteArray.size x0) : Int) != 5) = true then Bool.false else (if ((↑(UInt8.toNat (List.getD (Array.toList (ByteArray.data x0)) 2 0)) : Int) != 58) = true then Bool.false else (if (!g63_1 (ByteArray.extract x0 0 2)) = true then Bool.false else (if (!g63_1 (ByteArray.extract x0 3 (Int.toNat (↑(ByteArray.size x0) : Int)))) = true then Bool.false else (if (Decidable.decide (g63_0 (ByteArray.extract x0 0 2) > 23)) = true then Bool.false else (if (Decidable.decide (g63_0 (ByteArray.extract x0 3 (Int.toNat (↑(ByteArray.size x0) : Int))) > 59)) = true then Bool.false else Bool.true))))))
theorem p13_0 (x0 : ByteArray) : runF tab ext13 false 46 [] 2000 [] tys13 Tryd.f13.results [true, true] [.code b13] (entE 0 0 sig13 (x0, ())) (entL sig13 (x0, ())) = some ([Dyn.mk (Ty.int IntKind.i64) 0, Dyn.mk Ty.bool Bool.false], [], [((↑(ByteArray.size x0) : Int) != 5) = Bool.true, Bool.true = Bool.true]) := by kernel_rfl
theorem p13_1 (x0 : ByteArray) : runF tab ext13 false 46 [] 2000 [] tys13 Tryd.f13.results [false, true] [.code b13] (entE 0 0 sig13 (x0, ())) (entL sig13 (x0, ())) = some ([Dyn.mk (Ty.int IntKind.i64) 0, Dyn.mk Ty.bool Bool.false], [], [((↑(ByteArray.size x0) : Int) != 5) = Bool.false, (0 : Int) ≤ (2 : Int), 2 < (↑(ByteArray.size x0) : Int), ((↑(UInt8.toNat (List.getD (Array.toList (ByteArray.data x0)) 2 0)) : Int) != 58) = Bool.true]) := by kernel_rfl
theorem p13_2 (x0 : ByteArray) : runF tab ext13 false 46 [] 2000 [] tys13 Tryd.f13.results [false, false, true, true, true, true] [.code b13] (entE 0 0 sig13 (x0, ())) (entL sig13 (x0, ())) = some ([Dyn.mk (Ty.int IntKind.i64) 0, Dyn.mk Ty.bool Bool.false], [], [((↑(ByteArray.size x0) : Int) != 5) = Bool.false, (0 : Int) ≤ (2 : Int), 2 < (↑(ByteArray.size x0) : Int), ((↑(UInt8.toNat (List.getD (Array.toList (ByteArray.data x0)) 2 0)) : Int) != 58) = Bool.false, (0 : Int) ≤ (2 : Int), 2 ≤ (↑(ByteArray.size x0) : Int), P63 (ByteArray.extract x0 0 2), (0 : Int) ≤ (3 : Int), 3 ≤ (↑(ByteArray.size x0) : Int), P63 (ByteArray.extract x0 3 (Int.toNat (↑(ByteArray.size x0) : Int))), (!g63_1 (ByteArray.extract x0 0 2)) = Bool.true, Bool.true = Bool.true, Bool.true = Bool.true, Bool.true = Bool.true]) := by kernel_rfl
theorem p13_3 (x0 : ByteArray) : runF tab ext13 false 46 [] 2000 [] tys13 Tryd.f13.results [false, false, false, true, true, true] [.code b13] (entE 0 0 sig13 (x0, ())) (entL sig13 (x0, ())) = some ([Dyn.mk (Ty.int IntKind.i64) 0, Dyn.mk Ty.bool Bool.false], [], [((↑(ByteArray.size x0) : Int) != 5) = Bool.false, (0 : Int) ≤ (2 : Int), 2 < (↑(ByteArray.size x0) : Int), ((↑(UInt8.toNat (List.getD (Array.toList (ByteArray.data x0)) 2 0)) : Int) != 58) = Bool.false, (0 : Int) ≤ (2 : Int), 2 ≤ (↑(ByteArray.size x0) : Int), P63 (ByteArray.extract x0 0 2), (0 : Int) ≤ (3 : Int), 3 ≤ (↑(ByteArray.size x0) : Int), P63 (ByteArray.extract x0 3 (Int.toNat (↑(ByteArray.size x0) : Int))), (!g63_1 (ByteArray.extract x0 0 2)) = Bool.false, (!g63_1 (ByteArray.extract x0 3 (Int.toNat (↑(ByteArray.size x0) : Int)))) = Bool.true, Bool.true = Bool.true, Bool.true = Bool.true]) := by kernel_rfl
theorem p13_4 (x0 : ByteArray) : runF tab ext13 false 46 [] 2000 [] tys13 Tryd.f13.results [false, false, false, false, true, true] [.code b13] (entE 0 0 sig13 (x0, ())) (entL sig13 (x0, ())) = some ([Dyn.mk (Ty.int IntKind.i64) 0, Dyn.mk Ty.bool Bool.false], [], [((↑(ByteArray.size x0) : Int) != 5) = Bool.false, (0 : Int) ≤ (2 : Int), 2 < (↑(ByteArray.size x0) : Int), ((↑(UInt8.toNat (List.getD (Array.toList (ByteArray.data x0)) 2 0)) : Int) != 58) = Bool.false, (0 : Int) ≤ (2 : Int), 2 ≤ (↑(ByteArray.size x0) : Int), P63 (ByteArray.extract x0 0 2), (0 : Int) ≤ (3 : Int), 3 ≤ (↑(ByteArray.size x0) : Int), P63 (ByteArray.extract x0 3 (Int.toNat (↑(ByteArray.size x0) : Int))), (!g63_1 (ByteArray.extract x0 0 2)) = Bool.false, (!g63_1 (ByteArray.extract x0 3 (Int.toNat (↑(ByteArray.size x0) : Int)))) = Bool.false, Decidable.decide (g63_0 (ByteArray.extract x0 0 2) > 23) = Bool.true, Bool.true = Bool.true]) := by kernel_rfl
theorem p13_5 (x0 : ByteArray) : runF tab ext13 false 46 [] 2000 [] tys13 Tryd.f13.results [false, false, false, false, false, true] [.code b13] (entE 0 0 sig13 (x0, ())) (entL sig13 (x0, ())) = some ([Dyn.mk (Ty.int IntKind.i64) 0, Dyn.mk Ty.bool Bool.false], [], [((↑(ByteArray.size x0) : Int) != 5) = Bool.false, (0 : Int) ≤ (2 : Int), 2 < (↑(ByteArray.size x0) : Int), ((↑(UInt8.toNat (List.getD (Array.toList (ByteArray.data x0)) 2 0)) : Int) != 58) = Bool.false, (0 : Int) ≤ (2 : Int), 2 ≤ (↑(ByteArray.size x0) : Int), P63 (ByteArray.extract x0 0 2), (0 : Int) ≤ (3 : Int), 3 ≤ (↑(ByteArray.size x0) : Int), P63 (ByteArray.extract x0 3 (Int.toNat (↑(ByteArray.size x0) : Int))), (!g63_1 (ByteArray.extract x0 0 2)) = Bool.false, (!g63_1 (ByteArray.extract x0 3 (Int.toNat (↑(ByteArray.size x0) : Int)))) = Bool.false, Decidable.decide (g63_0 (ByteArray.extract x0 0 2) > 23) = Bool.false, Decidable.decide (g63_0 (ByteArray.extract x0 3 (Int.toNat (↑(ByteArray.size x0) : Int))) > 59) = Bool.true]) := by kernel_rfl
theorem p13_6 (x0 : ByteArray) : runF tab ext13 false 46 [] 2000 [] tys13 Tryd.f13.results [false, false, false, false, false, false] [.code b13] (entE 0 0 sig13 (x0, ())) (entL sig13 (x0, ())) = some ([Dyn.mk (Ty.int IntKind.i64) (60 * g63_0 (ByteArray.extract x0 0 2) + g63_0 (ByteArray.extract x0 3 (Int.toNat (↑(ByteArray.size x0) : Int)))), Dyn.mk Ty.bool Bool.true], [], [((↑(ByteArray.size x0) : Int) != 5) = Bool.false, (0 : Int) ≤ (2 : Int), 2 < (↑(ByteArray.size x0) : Int), ((↑(UInt8.toNat (List.getD (Array.toList (ByteArray.data x0)) 2 0)) : Int) != 58) = Bool.false, (0 : Int) ≤ (2 : Int), 2 ≤ (↑(ByteArray.size x0) : Int), P63 (ByteArray.extract x0 0 2), (0 : Int) ≤ (3 : Int), 3 ≤ (↑(ByteArray.size x0) : Int), P63 (ByteArray.extract x0 3 (Int.toNat (↑(ByteArray.size x0) : Int))), (!g63_1 (ByteArray.extract x0 0 2)) = Bool.false, (!g63_1 (ByteArray.extract x0 3 (Int.toNat (↑(ByteArray.size x0) : Int)))) = Bool.false, Decidable.decide (g63_0 (ByteArray.extract x0 0 2) > 23) = Bool.false, Decidable.decide (g63_0 (ByteArray.extract x0 3 (Int.toNat (↑(ByteArray.size x0) : Int))) > 59) = Bool.false, InR IntKind.i64 (60 * g63_0 (ByteArray.extract x0 0 2)), InR IntKind.i64 (60 * g63_0 (ByteArray.extract x0 0 2) + g63_0 (ByteArray.extract x0 3 (Int.toNat (↑(ByteArray.size x0) : Int))))]) := by kernel_rfl
theorem at13 (x0 : ByteArray) (h : P13 x0) (w0 : World) (O : List Nat) (q : Nat → Value) : AtV Tryd.prog 13 (PostR [⟨Ty.int IntKind.i64, g13_0 x0⟩, ⟨Ty.bool, g13_1 x0⟩] [] [] q w0 O) 46 w0 O q [] [.code b13] (entE 0 0 sig13 (x0, ())) (entL sig13 (x0, ())) := by
  unfold P13 at h
  unfold g13_0 g13_1
  by_cases b0 : ((↑(ByteArray.size x0) : Int) != 5) = true
  · try simp only [if_pos b0] at h ⊢
    exact AtV.fin Tryd.func13 tabOk ext13Ok mixed (p13_0 x0) ⟨b0, rfl, trivial⟩
  · try simp only [if_neg b0] at h ⊢
    replace b0 := Bool.eq_false_iff.2 b0
    obtain ⟨s0, h⟩ := h
    by_cases b1 : ((↑(UInt8.toNat (List.getD (Array.toList (ByteArray.data x0)) 2 0)) : Int) != 58) = true
    · try simp only [if_pos b1] at h ⊢
      exact AtV.fin Tryd.func13 tabOk ext13Ok mixed (p13_1 x0) ⟨b0, (by decide), s0, b1, trivial⟩
    · try simp only [if_neg b1] at h ⊢
      replace b1 := Bool.eq_false_iff.2 b1
      obtain ⟨s1, h⟩ := h
      obtain ⟨s2, h⟩ := h
      obtain ⟨s3, h⟩ := h
      obtain ⟨s4, h⟩ := h
      by_cases b2 : (!g63_1 (ByteArray.extract x0 0 2)) = true
      · try simp only [if_pos b2] at h ⊢
        exact AtV.fin Tryd.func13 tabOk ext13Ok mixed (p13_2 x0) ⟨b0, (by decide), s0, b1, (by decide), s1, s2, (by decide), s3, s4, b2, rfl, rfl, rfl, trivial⟩
      · try simp only [if_neg b2] at h ⊢
        replace b2 := Bool.eq_false_iff.2 b2
        by_cases b3 : (!g63_1 (ByteArray.extract x0 3 (Int.toNat (↑(ByteArray.size x0) : Int)))) = true
        · try simp only [if_pos b3] at h ⊢
          exact AtV.fin Tryd.func13 tabOk ext13Ok mixed (p13_3 x0) ⟨b0, (by decide), s0, b1, (by decide), s1, s2, (by decide), s3, s4, b2, b3, rfl, rfl, trivial⟩
        · try simp only [if_neg b3] at h ⊢
          replace b3 := Bool.eq_false_iff.2 b3
          by_cases b4 : (Decidable.decide (g63_0 (ByteArray.extract x0 0 2) > 23)) = true
          · try simp only [if_pos b4] at h ⊢
            exact AtV.fin Tryd.func13 tabOk ext13Ok mixed (p13_4 x0) ⟨b0, (by decide), s0, b1, (by decide), s1, s2, (by decide), s3, s4, b2, b3, b4, rfl, trivial⟩
          · try simp only [if_neg b4] at h ⊢
            replace b4 := Bool.eq_false_iff.2 b4
            by_cases b5 : (Decidable.decide (g63_0 (ByteArray.extract x0 3 (Int.toNat (↑(ByteArray.size x0) : Int))) > 59)) = true
            · try simp only [if_pos b5] at h ⊢
              exact AtV.fin Tryd.func13 tabOk ext13Ok mixed (p13_5 x0) ⟨b0, (by decide), s0, b1, (by decide), s1, s2, (by decide), s3, s4, b2, b3, b4, b5, trivial⟩
            · try simp only [if_neg b5] at h ⊢
              replace b5 := Bool.eq_false_iff.2 b5
              obtain ⟨s5, h⟩ := h
              obtain ⟨s6, h⟩ := h
              exact AtV.fin Tryd.func13 tabOk ext13Ok mixed (p13_6 x0) ⟨b0, (by decide), s0, b1, (by decide), s1, s2, (by decide), s3, s4, b2, b3, b4, b5, s5, s6, trivial⟩

def S13 : Am.Spec := { sig := sig13, pre := fun ⟨x0, _⟩ => P13 x0, res := fun ⟨x0, _⟩ => [⟨Ty.int IntKind.i64, g13_0 x0⟩, ⟨Ty.bool, g13_1 x0⟩] }
theorem con13 : Contract Tryd.prog 13 S13 := contract_of Tryd.func13 hb13 (Nat.le_of_ble_eq_true (by kernel_rfl)) (fun ⟨x0, _⟩ h _ w0 O q => at13 x0 h w0 O q)


end Go.Proofs.YtakodkjcmacofaaDoor

/- The contracts of the library that this program uses, laid at this program. Written by a tool of the kit. -/
set_option linter.unusedVariables false
set_option maxRecDepth 100000
namespace Go.Proofs
open Go.Shelf
def Tryd.lays156_ren : Go.Shelf.Ren := ⟨fun | 156 => 157 | 165 => 169 | 166 => 93 | 169 => 97 | 240 => 140 | 241 => 187 | 276 => 166 | 277 => 196 | n => n, fun | 31 => 67 | 9 => 9 | 3 => 3 | 4 => 4 | 0 => 0 | 20 => 20 | 72 => 95 | 76 => 98 | 70 => 93 | 37 => 45 | 75 => 97 | 127 => 133 | 164 => 143 | 5 => 5 | 80 => 102 | n => n, fun | n => n⟩
theorem Tryd.lays156 : Go.Proofs.Lays.n156 Tryd.prog Tryd.lays156_ren := {
  mixed := by kernel_rfl
  f156 := Tryd.func157.trans (congrArg some (by kernel_rfl))
  f165 := Tryd.func169.trans (congrArg some (by kernel_rfl))
  f166 := Tryd.func93.trans (congrArg some (by kernel_rfl))
  f169 := Tryd.func97.trans (congrArg some (by kernel_rfl))
  f240 := Tryd.func140.trans (congrArg some (by kernel_rfl))
  f241 := Tryd.func187.trans (congrArg some (by kernel_rfl))
  f276 := Tryd.func166.trans (congrArg some (by kernel_rfl))
  f277 := Tryd.func196.trans (congrArg some (by kernel_rfl))
  t0 := Tryd.underlying0
  a0 := Tryd.isAgg0
  z0 := Tryd.sizeOf0
  v0 := Tryd.zeroValue0
  t3 := Tryd.underlying3
  a3 := Tryd.isAgg3
  z3 := Tryd.sizeOf3
  v3 := Tryd.zeroValue3
  t4 := Tryd.underlying4
  a4 := Tryd.isAgg4
  z4 := Tryd.sizeOf4
  v4 := Tryd.zeroValue4
  t9 := Tryd.underlying9
  a9 := Tryd.isAgg9
  z9 := Tryd.sizeOf9
  v9 := Tryd.zeroValue9
  t20 := Tryd.underlying20
  a20 := Tryd.isAgg20
  z20 := Tryd.sizeOf20
  v20 := Tryd.zeroValue20
  t31 := Tryd.underlying67
  a31 := Tryd.isAgg67
  z31 := Tryd.sizeOf67
  v31 := Tryd.zeroValue67
  t37 := Tryd.underlying45
  a37 := Tryd.isAgg45
  z37 := Tryd.sizeOf45
  v37 := Tryd.zeroValue45
  t70 := Tryd.underlying93
  a70 := Tryd.isAgg93
  z70 := Tryd.sizeOf93
  v70 := Tryd.zeroValue93
  t72 := Tryd.underlying95
  a72 := Tryd.isAgg95
  z72 := Tryd.sizeOf95
  v72 := Tryd.zeroValue95
  t75 := Tryd.underlying97
  a75 := Tryd.isAgg97
  z75 := Tryd.sizeOf97
  v75 := Tryd.zeroValue97
  t76 := Tryd.underlying98
  a76 := Tryd.isAgg98
  z76 := Tryd.sizeOf98
  v76 := Tryd.zeroValue98
  t127 := Tryd.underlying133
  a127 := Tryd.isAgg133
  z127 := Tryd.sizeOf133
  v127 := Tryd.zeroValue133
  t164 := Tryd.underlying143
  a164 := Tryd.isAgg143
  z164 := Tryd.sizeOf143
  v164 := Tryd.zeroValue143 }
theorem Tryd.Builder_Extra_156 : Builder.Extra Tryd.prog Tryd.lays156_ren := {
  sizeBuilder := by kernel_rfl
  liesBuilder := by kernel_rfl
  t5 := Tryd.underlying5
  a5 := Tryd.isAgg5
  z5 := Tryd.sizeOf5
  v5 := Tryd.zeroValue5
  infoByte := by kernel_rfl
  cellsByte := by kernel_rfl
  sizeByte := by kernel_rfl
  neB5 := by decide }
open Go.RowKit in theorem Tryd.strings_Join_none (a : Option Addr) (c : Nat) (sep : ByteArray) (w : World) :
    Calls Tryd.prog 157 #[.slice a 0 c, .string sep] w fun e w' => e = .returned (.string ⟨#[]⟩) ∧ w' = w := Any.strings_Join_none Tryd.lays156 Tryd.Builder_Extra_156 a c sep w
open Go.RowKit in theorem Tryd.strings_Join (bk o c : Nat) (xs : List ByteArray) (sep : ByteArray) (w : World) (hcells : ∀ (j : Nat) x, xs[j]? = some x → w.cell? ⟨bk, o + j, none⟩ = some (.string x)) (hbk : bk < w.heap.size) (hN : xs.length ≤ 140737488355328) (hcap : xs.length ≤ c) (hlen : (Lib.join (xs.map (·.data.toList)) sep.data.toList).length ≤ 140737488355328) :
    Calls Tryd.prog 157 #[.slice (some ⟨bk, o, none⟩) xs.length c, .string sep] w fun e w' => e = .returned (.string ⟨(Lib.join (xs.map (·.data.toList)) sep.data.toList).toArray⟩) ∧ Below w.heap.size w w' := Any.strings_Join Tryd.lays156 Tryd.Builder_Extra_156 bk o c xs sep w hcells hbk hN hcap hlen
def Tryd.laysM173_ren : Go.Shelf.Ren := ⟨fun | 173 => 141 | 246 => 167 | 283 => 181 | 284 => 182 | 285 => 183 | 286 => 184 | 129 => 192 | 317 => 191 | 318 => 193 | 319 => 194 | 320 => 195 | 337 => 197 | 338 => 198 | n => n, fun | 2 => 2 | 3 => 3 | 9 => 9 | 4 => 4 | 171 => 157 | 0 => 0 | 53 => 134 | 37 => 45 | 5 => 5 | 173 => 160 | 212 => 169 | 51 => 162 | 20 => 20 | 213 => 170 | 46 => 145 | 232 => 179 | 233 => 180 | n => n, fun | 17 => 1 | 18 => 4 | 19 => 5 | n => n⟩
theorem Tryd.laysM173 : Go.Proofs.LaysM.n173 Tryd.prog Tryd.laysM173_ren := {
  mixed := by kernel_rfl
  f129 := Tryd.func192.trans (congrArg some (by kernel_rfl))
  f173 := Tryd.func141.trans (congrArg some (by kernel_rfl))
  f246 := Tryd.func167.trans (congrArg some (by kernel_rfl))
  f283 := Tryd.func181.trans (congrArg some (by kernel_rfl))
  f284 := Tryd.func182.trans (congrArg some (by kernel_rfl))
  f285 := Tryd.func183.trans (congrArg some (by kernel_rfl))
  f286 := Tryd.func184.trans (congrArg some (by kernel_rfl))
  f317 := Tryd.func191.trans (congrArg some (by kernel_rfl))
  f318 := Tryd.func193.trans (congrArg some (by kernel_rfl))
  f319 := Tryd.func194.trans (congrArg some (by kernel_rfl))
  f320 := Tryd.func195.trans (congrArg some (by kernel_rfl))
  f337 := Tryd.func197.trans (congrArg some (by kernel_rfl))
  f338 := Tryd.func198.trans (congrArg some (by kernel_rfl))
  t0 := Tryd.underlying0
  a0 := Tryd.isAgg0
  z0 := Tryd.sizeOf0
  v0 := Tryd.zeroValue0
  t2 := Tryd.underlying2
  a2 := Tryd.isAgg2
  z2 := Tryd.sizeOf2
  v2 := Tryd.zeroValue2
  t3 := Tryd.underlying3
  a3 := Tryd.isAgg3
  z3 := Tryd.sizeOf3
  v3 := Tryd.zeroValue3
  t4 := Tryd.underlying4
  a4 := Tryd.isAgg4
  z4 := Tryd.sizeOf4
  v4 := Tryd.zeroValue4
  t5 := Tryd.underlying5
  a5 := Tryd.isAgg5
  z5 := Tryd.sizeOf5
  v5 := Tryd.zeroValue5
  t9 := Tryd.underlying9
  a9 := Tryd.isAgg9
  z9 := Tryd.sizeOf9
  v9 := Tryd.zeroValue9
  t20 := Tryd.underlying20
  a20 := Tryd.isAgg20
  z20 := Tryd.sizeOf20
  v20 := Tryd.zeroValue20
  t37 := Tryd.underlying45
  a37 := Tryd.isAgg45
  z37 := Tryd.sizeOf45
  v37 := Tryd.zeroValue45
  t46 := Tryd.underlying145
  a46 := Tryd.isAgg145
  z46 := Tryd.sizeOf145
  v46 := Tryd.zeroValue145
  t51 := Tryd.underlying162
  a51 := Tryd.isAgg162
  z51 := Tryd.sizeOf162
  v51 := Tryd.zeroValue162
  t53 := Tryd.underlying134
  a53 := Tryd.isAgg134
  z53 := Tryd.sizeOf134
  v53 := Tryd.zeroValue134
  t171 := Tryd.underlying157
  a171 := Tryd.isAgg157
  z171 := Tryd.sizeOf157
  v171 := Tryd.zeroValue157
  t173 := Tryd.underlying160
  a173 := Tryd.isAgg160
  z173 := Tryd.sizeOf160
  v173 := Tryd.zeroValue160
  t212 := Tryd.underlying169
  a212 := Tryd.isAgg169
  z212 := Tryd.sizeOf169
  v212 := Tryd.zeroValue169
  t213 := Tryd.underlying170
  a213 := Tryd.isAgg170
  z213 := Tryd.sizeOf170
  t232 := Tryd.underlying179
  a232 := Tryd.isAgg179
  z232 := Tryd.sizeOf179
  v232 := Tryd.zeroValue179
  t233 := Tryd.underlying180
  a233 := Tryd.isAgg180
  z233 := Tryd.sizeOf180
  v233 := Tryd.zeroValue180
  g17 := by kernel_rfl
  g18 := by kernel_rfl
  g19 := by kernel_rfl
  i0 := by kernel_rfl
  i2 := by kernel_rfl
  i3 := by kernel_rfl
  i4 := by kernel_rfl
  i5 := by kernel_rfl
  i9 := by kernel_rfl
  i20 := by kernel_rfl
  i37 := by kernel_rfl
  i46 := by kernel_rfl
  i51 := by kernel_rfl
  i53 := by kernel_rfl
  i171 := by kernel_rfl
  i173 := by kernel_rfl
  i212 := by kernel_rfl
  i232 := by kernel_rfl
  i233 := by kernel_rfl
  m17 := by kernel_rfl
  m18 := by kernel_rfl
  m19 := by kernel_rfl }
open Go.RowKit Go.Sort Go.Lib in theorem Tryd.strconv_FormatInt_10 (n : Int) (h0 : -9223372036854775808 ≤ n) (h1 : n ≤ 9223372036854775807) (w : World) (htab : Lib.TabIs Tryd.prog w "internal/strconv.uint64pow10" .u64 Lib.pow10Tab) :
    Calls Tryd.prog 141 #[.int .i64 n, .int .i64 10] w fun e w' => e = .returned (.string ⟨(Lib.itoa n).toArray⟩) ∧ ∃ k os, w' = grow (w.drewN k) os := Any.strconv_FormatInt_10 Tryd.laysM173 n h0 h1 w htab
def Tryd.lays144_ren : Go.Shelf.Ren := ⟨fun | 144 => 163 | 143 => 162 | 219 => 147 | 217 => 171 | 225 => 172 | 224 => 173 | 267 => 174 | 266 => 188 | 314 => 189 | n => n, fun | 9 => 9 | 4 => 4 | 3 => 3 | 5 => 5 | 46 => 145 | 146 => 163 | 51 => 162 | n => n, fun | 1 => 0 | n => n⟩
theorem Tryd.lays144 : Go.Proofs.Lays.n144 Tryd.prog Tryd.lays144_ren := {
  mixed := by kernel_rfl
  f143 := Tryd.func162.trans (congrArg some (by kernel_rfl))
  f144 := Tryd.func163.trans (congrArg some (by kernel_rfl))
  f217 := Tryd.func171.trans (congrArg some (by kernel_rfl))
  f219 := Tryd.func147.trans (congrArg some (by kernel_rfl))
  f224 := Tryd.func173.trans (congrArg some (by kernel_rfl))
  f225 := Tryd.func172.trans (congrArg some (by kernel_rfl))
  f266 := Tryd.func188.trans (congrArg some (by kernel_rfl))
  f267 := Tryd.func174.trans (congrArg some (by kernel_rfl))
  f314 := Tryd.func189.trans (congrArg some (by kernel_rfl))
  t3 := Tryd.underlying3
  a3 := Tryd.isAgg3
  z3 := Tryd.sizeOf3
  v3 := Tryd.zeroValue3
  t4 := Tryd.underlying4
  a4 := Tryd.isAgg4
  z4 := Tryd.sizeOf4
  v4 := Tryd.zeroValue4
  t5 := Tryd.underlying5
  a5 := Tryd.isAgg5
  z5 := Tryd.sizeOf5
  v5 := Tryd.zeroValue5
  t9 := Tryd.underlying9
  a9 := Tryd.isAgg9
  z9 := Tryd.sizeOf9
  v9 := Tryd.zeroValue9
  t46 := Tryd.underlying145
  a46 := Tryd.isAgg145
  z46 := Tryd.sizeOf145
  v46 := Tryd.zeroValue145
  t51 := Tryd.underlying162
  a51 := Tryd.isAgg162
  z51 := Tryd.sizeOf162
  v51 := Tryd.zeroValue162
  t146 := Tryd.underlying163
  a146 := Tryd.isAgg163
  z146 := Tryd.sizeOf163
  v146 := Tryd.zeroValue163
  g1 := by kernel_rfl }
open Go.RowKit Go.Lib in theorem Tryd.strings_Contains (s sub : ByteArray) (m : Int) (w : World) (hs : s.size < 4294967281) (hm : w.cell? ⟨0, 0, none⟩ = some (.int .i64 m)) :
    Calls Tryd.prog 163 #[.string s, .string sub] w fun e w' => e = .returned (.bool (Lib.contains s.data.toList sub.data.toList)) ∧ w' = w := Any.strings_Contains Tryd.lays144 s sub m w hs hm
def Tryd.lays145_ren : Go.Shelf.Ren := ⟨fun | 145 => 64 | 220 => 123 | 219 => 147 | 217 => 171 | 225 => 172 | 224 => 173 | 267 => 174 | 266 => 188 | 314 => 189 | n => n, fun | 9 => 9 | 4 => 4 | 59 => 64 | 3 => 3 | 5 => 5 | 46 => 145 | 146 => 163 | 51 => 162 | n => n, fun | 1 => 0 | n => n⟩
theorem Tryd.lays145 : Go.Proofs.Lays.n145 Tryd.prog Tryd.lays145_ren := {
  mixed := by kernel_rfl
  f145 := Tryd.func64.trans (congrArg some (by kernel_rfl))
  f217 := Tryd.func171.trans (congrArg some (by kernel_rfl))
  f219 := Tryd.func147.trans (congrArg some (by kernel_rfl))
  f220 := Tryd.func123.trans (congrArg some (by kernel_rfl))
  f224 := Tryd.func173.trans (congrArg some (by kernel_rfl))
  f225 := Tryd.func172.trans (congrArg some (by kernel_rfl))
  f266 := Tryd.func188.trans (congrArg some (by kernel_rfl))
  f267 := Tryd.func174.trans (congrArg some (by kernel_rfl))
  f314 := Tryd.func189.trans (congrArg some (by kernel_rfl))
  t3 := Tryd.underlying3
  a3 := Tryd.isAgg3
  z3 := Tryd.sizeOf3
  v3 := Tryd.zeroValue3
  t4 := Tryd.underlying4
  a4 := Tryd.isAgg4
  z4 := Tryd.sizeOf4
  v4 := Tryd.zeroValue4
  t5 := Tryd.underlying5
  a5 := Tryd.isAgg5
  z5 := Tryd.sizeOf5
  v5 := Tryd.zeroValue5
  t9 := Tryd.underlying9
  a9 := Tryd.isAgg9
  z9 := Tryd.sizeOf9
  v9 := Tryd.zeroValue9
  t46 := Tryd.underlying145
  a46 := Tryd.isAgg145
  z46 := Tryd.sizeOf145
  v46 := Tryd.zeroValue145
  t51 := Tryd.underlying162
  a51 := Tryd.isAgg162
  z51 := Tryd.sizeOf162
  v51 := Tryd.zeroValue162
  t59 := Tryd.underlying64
  a59 := Tryd.isAgg64
  z59 := Tryd.sizeOf64
  v59 := Tryd.zeroValue64
  t146 := Tryd.underlying163
  a146 := Tryd.isAgg163
  z146 := Tryd.sizeOf163
  v146 := Tryd.zeroValue163
  g1 := by kernel_rfl }
open Go.RowKit Go.Lib in theorem Tryd.strings_Cut (s sep : ByteArray) (m : Int) (w : World) (hs : s.size < 4294967281) (hm : w.cell? ⟨0, 0, none⟩ = some (.int .i64 m)) :
    Calls Tryd.prog 64 #[.string s, .string sep] w fun e w' => e = .returned (.tuple #[.string ⟨(Lib.cut s.data.toList sep.data.toList).1.toArray⟩, .string ⟨(Lib.cut s.data.toList sep.data.toList).2.1.toArray⟩, .bool (Lib.cut s.data.toList sep.data.toList).2.2]) ∧ ∃ n, w' = w.drewN n := Any.strings_Cut Tryd.lays145 s sep m w hs hm
def Tryd.lays146_ren : Go.Shelf.Ren := ⟨fun | 146 => 87 | 221 => 134 | 268 => 160 | 138 => 161 | 143 => 162 | 195 => 177 | 197 => 178 | 218 => 179 | 219 => 147 | 260 => 190 | 217 => 171 | 225 => 172 | 224 => 173 | 267 => 174 | 266 => 188 | 314 => 189 | n => n, fun | 9 => 9 | 31 => 67 | 3 => 3 | 4 => 4 | 0 => 0 | 105 => 154 | 21 => 21 | 5 => 5 | 46 => 145 | 119 => 174 | 139 => 177 | 138 => 176 | 146 => 163 | 51 => 162 | n => n, fun | 1 => 0 | 3 => 2 | 4 => 3 | n => n⟩
theorem Tryd.lays146 : Go.Proofs.Lays.n146 Tryd.prog Tryd.lays146_ren := {
  mixed := by kernel_rfl
  f138 := Tryd.func161.trans (congrArg some (by kernel_rfl))
  f143 := Tryd.func162.trans (congrArg some (by kernel_rfl))
  f146 := Tryd.func87.trans (congrArg some (by kernel_rfl))
  f195 := Tryd.func177.trans (congrArg some (by kernel_rfl))
  f197 := Tryd.func178.trans (congrArg some (by kernel_rfl))
  f217 := Tryd.func171.trans (congrArg some (by kernel_rfl))
  f218 := Tryd.func179.trans (congrArg some (by kernel_rfl))
  f219 := Tryd.func147.trans (congrArg some (by kernel_rfl))
  f221 := Tryd.func134.trans (congrArg some (by kernel_rfl))
  f224 := Tryd.func173.trans (congrArg some (by kernel_rfl))
  f225 := Tryd.func172.trans (congrArg some (by kernel_rfl))
  f260 := Tryd.func190.trans (congrArg some (by kernel_rfl))
  f266 := Tryd.func188.trans (congrArg some (by kernel_rfl))
  f267 := Tryd.func174.trans (congrArg some (by kernel_rfl))
  f268 := Tryd.func160.trans (congrArg some (by kernel_rfl))
  f314 := Tryd.func189.trans (congrArg some (by kernel_rfl))
  t0 := Tryd.underlying0
  a0 := Tryd.isAgg0
  z0 := Tryd.sizeOf0
  v0 := Tryd.zeroValue0
  t3 := Tryd.underlying3
  a3 := Tryd.isAgg3
  z3 := Tryd.sizeOf3
  v3 := Tryd.zeroValue3
  t4 := Tryd.underlying4
  a4 := Tryd.isAgg4
  z4 := Tryd.sizeOf4
  v4 := Tryd.zeroValue4
  t5 := Tryd.underlying5
  a5 := Tryd.isAgg5
  z5 := Tryd.sizeOf5
  v5 := Tryd.zeroValue5
  t9 := Tryd.underlying9
  a9 := Tryd.isAgg9
  z9 := Tryd.sizeOf9
  v9 := Tryd.zeroValue9
  t21 := Tryd.underlying21
  a21 := Tryd.isAgg21
  z21 := Tryd.sizeOf21
  v21 := Tryd.zeroValue21
  t31 := Tryd.underlying67
  a31 := Tryd.isAgg67
  z31 := Tryd.sizeOf67
  v31 := Tryd.zeroValue67
  t46 := Tryd.underlying145
  a46 := Tryd.isAgg145
  z46 := Tryd.sizeOf145
  v46 := Tryd.zeroValue145
  t51 := Tryd.underlying162
  a51 := Tryd.isAgg162
  z51 := Tryd.sizeOf162
  v51 := Tryd.zeroValue162
  t105 := Tryd.underlying154
  a105 := Tryd.isAgg154
  z105 := Tryd.sizeOf154
  v105 := Tryd.zeroValue154
  t119 := Tryd.underlying174
  a119 := Tryd.isAgg174
  z119 := Tryd.sizeOf174
  t138 := Tryd.underlying176
  a138 := Tryd.isAgg176
  z138 := Tryd.sizeOf176
  v138 := Tryd.zeroValue176
  t139 := Tryd.underlying177
  a139 := Tryd.isAgg177
  z139 := Tryd.sizeOf177
  v139 := Tryd.zeroValue177
  t146 := Tryd.underlying163
  a146 := Tryd.isAgg163
  z146 := Tryd.sizeOf163
  v146 := Tryd.zeroValue163
  g1 := by kernel_rfl
  g3 := by kernel_rfl
  g4 := by kernel_rfl }
open Go.RowKit Go.Lib in theorem Tryd.strings_Split (s sep : ByteArray) (m : Int) (w : World) (hs : s.size < 4294967281) (hm : w.cell? ⟨0, 0, none⟩ = some (.int .i64 m)) (h1 : 1 ≤ sep.size) :
    Calls Tryd.prog 87 #[.string s, .string sep] w fun e w' =>
      e = .returned (.slice (some ⟨w.heap.size, 0, none⟩) (Lib.countB s sep + 1) (Lib.countB s sep + 1)) ∧ w' = w.alloc (.cells ((Lib.splitB sep 0 (Lib.countB s sep) s).map Value.string).toArray 9) := Any.strings_Split Tryd.lays146 (by kernel_rfl) s sep m w hs hm h1
def Tryd.lays105_ren : Go.Shelf.Ren := ⟨fun | 105 => 143 | 212 => 168 | 99 => 84 | 165 => 169 | 166 => 93 | 170 => 170 | 169 => 97 | 263 => 185 | 264 => 186 | 206 => 131 | 240 => 140 | 241 => 187 | 276 => 166 | 277 => 196 | n => n, fun | 9 => 9 | 3 => 3 | 4 => 4 | 20 => 20 | 0 => 0 | 46 => 145 | 109 => 146 | 5 => 5 | 72 => 95 | 76 => 98 | 51 => 162 | 146 => 163 | 53 => 134 | 148 => 165 | 70 => 93 | 37 => 45 | 75 => 97 | 127 => 133 | 164 => 143 | 80 => 102 | n => n, fun | n => n⟩
theorem Tryd.lays105 : Go.Proofs.Lays.n105 Tryd.prog Tryd.lays105_ren := {
  mixed := by kernel_rfl
  f99 := Tryd.func84.trans (congrArg some (by kernel_rfl))
  f105 := Tryd.func143.trans (congrArg some (by kernel_rfl))
  f165 := Tryd.func169.trans (congrArg some (by kernel_rfl))
  f166 := Tryd.func93.trans (congrArg some (by kernel_rfl))
  f169 := Tryd.func97.trans (congrArg some (by kernel_rfl))
  f170 := Tryd.func170.trans (congrArg some (by kernel_rfl))
  f206 := Tryd.func131.trans (congrArg some (by kernel_rfl))
  f212 := Tryd.func168.trans (congrArg some (by kernel_rfl))
  f240 := Tryd.func140.trans (congrArg some (by kernel_rfl))
  f241 := Tryd.func187.trans (congrArg some (by kernel_rfl))
  f263 := Tryd.func185.trans (congrArg some (by kernel_rfl))
  f264 := Tryd.func186.trans (congrArg some (by kernel_rfl))
  f276 := Tryd.func166.trans (congrArg some (by kernel_rfl))
  f277 := Tryd.func196.trans (congrArg some (by kernel_rfl))
  t0 := Tryd.underlying0
  a0 := Tryd.isAgg0
  z0 := Tryd.sizeOf0
  v0 := Tryd.zeroValue0
  t3 := Tryd.underlying3
  a3 := Tryd.isAgg3
  z3 := Tryd.sizeOf3
  v3 := Tryd.zeroValue3
  t4 := Tryd.underlying4
  a4 := Tryd.isAgg4
  z4 := Tryd.sizeOf4
  v4 := Tryd.zeroValue4
  t5 := Tryd.underlying5
  a5 := Tryd.isAgg5
  z5 := Tryd.sizeOf5
  v5 := Tryd.zeroValue5
  t9 := Tryd.underlying9
  a9 := Tryd.isAgg9
  z9 := Tryd.sizeOf9
  v9 := Tryd.zeroValue9
  t20 := Tryd.underlying20
  a20 := Tryd.isAgg20
  z20 := Tryd.sizeOf20
  v20 := Tryd.zeroValue20
  t37 := Tryd.underlying45
  a37 := Tryd.isAgg45
  z37 := Tryd.sizeOf45
  v37 := Tryd.zeroValue45
  t46 := Tryd.underlying145
  a46 := Tryd.isAgg145
  z46 := Tryd.sizeOf145
  v46 := Tryd.zeroValue145
  t51 := Tryd.underlying162
  a51 := Tryd.isAgg162
  z51 := Tryd.sizeOf162
  v51 := Tryd.zeroValue162
  t53 := Tryd.underlying134
  a53 := Tryd.isAgg134
  z53 := Tryd.sizeOf134
  v53 := Tryd.zeroValue134
  t70 := Tryd.underlying93
  a70 := Tryd.isAgg93
  z70 := Tryd.sizeOf93
  v70 := Tryd.zeroValue93
  t72 := Tryd.underlying95
  a72 := Tryd.isAgg95
  z72 := Tryd.sizeOf95
  v72 := Tryd.zeroValue95
  t75 := Tryd.underlying97
  a75 := Tryd.isAgg97
  z75 := Tryd.sizeOf97
  v75 := Tryd.zeroValue97
  t76 := Tryd.underlying98
  a76 := Tryd.isAgg98
  z76 := Tryd.sizeOf98
  v76 := Tryd.zeroValue98
  t109 := Tryd.underlying146
  a109 := Tryd.isAgg146
  z109 := Tryd.sizeOf146
  v109 := Tryd.zeroValue146
  t127 := Tryd.underlying133
  a127 := Tryd.isAgg133
  z127 := Tryd.sizeOf133
  v127 := Tryd.zeroValue133
  t146 := Tryd.underlying163
  a146 := Tryd.isAgg163
  z146 := Tryd.sizeOf163
  v146 := Tryd.zeroValue163
  t148 := Tryd.underlying165
  a148 := Tryd.isAgg165
  z148 := Tryd.sizeOf165
  v148 := Tryd.zeroValue165
  t164 := Tryd.underlying143
  a164 := Tryd.isAgg143
  z164 := Tryd.sizeOf143
  v164 := Tryd.zeroValue143 }
theorem Tryd.Builder_Extra_105 : Builder.Extra Tryd.prog Tryd.lays105_ren := {
  sizeBuilder := by kernel_rfl
  liesBuilder := by kernel_rfl
  t5 := Tryd.underlying5
  a5 := Tryd.isAgg5
  z5 := Tryd.sizeOf5
  v5 := Tryd.zeroValue5
  infoByte := by kernel_rfl
  cellsByte := by kernel_rfl
  sizeByte := by kernel_rfl
  neB5 := by decide }
open Go.RowKit Go.Lib in theorem Tryd.strings_Repeat (s : ByteArray) (c : Nat) (w : World) (hc : c ≤ 9223372036854775807) (hlen : s.size * c ≤ 140737488355328) :
    Calls Tryd.prog 143 #[.string s, .int .i64 c] w fun e w' => e = .returned (.string ⟨(Lib.repeatL s.data.toList c).toArray⟩) ∧ Below w.heap.size w w' := Any.strings_Repeat Tryd.lays105 Tryd.Builder_Extra_105 s c w hc hlen
end Go.Proofs

/- Function 64 (strings.Cut): its contract, off what is known of the library. -/
set_option linter.unusedVariables false
set_option linter.unusedSimpArgs false
set_option maxRecDepth 100000
namespace Go.Proofs.YtakodkjcmacofaaDoor
open Go Go.Am Go.Proofs

def sig64 : List AT := [AT.v Ty.str, AT.v Ty.str]
def g64_0 (x0 x1 : ByteArray) : ByteArray := ⟨(Lib.cut x0.data.toList x1.data.toList).1.toArray⟩
def g64_1 (x0 x1 : ByteArray) : ByteArray := ⟨(Lib.cut x0.data.toList x1.data.toList).2.1.toArray⟩
def g64_2 (x0 x1 : ByteArray) : Bool := (Lib.cut x0.data.toList x1.data.toList).2.2
def P64 (x0 x1 : ByteArray) : Prop := x0.size < 4294967281
def S64 : Am.Spec := { sig := sig64, pre := fun ⟨x0, x1, _⟩ => P64 x0 x1, res := fun ⟨x0, x1, _⟩ => [⟨Ty.str, g64_0 x0 x1⟩, ⟨Ty.str, g64_1 x0 x1⟩, ⟨Ty.bool, g64_2 x0 x1⟩] }
theorem cutLen64 (s sep : List UInt8) : (Lib.cut s sep).1.length ≤ s.length ∧ (Lib.cut s sep).2.1.length ≤ s.length := by
  unfold Lib.cut
  split
  · exact ⟨by simp; omega, by simp⟩
  · exact ⟨Nat.le_refl _, Nat.zero_le _⟩
theorem con64 : Contract Tryd.prog 64 S64 := contract_flat rfl fun w ⟨x0, x1, _⟩ vs bss hg hp hw ha => by
  obtain ⟨v0, s0, _, _, rfl, _, ⟨_, rfl, _⟩, v1, s1, _, _, rfl, _, ⟨_, rfl, _⟩, rfl, _⟩ := ha
  have hp : x0.size < 4294967281 := hp
  obtain ⟨l1, l2⟩ := cutLen64 x0.data.toList x1.data.toList
  have e : x0.data.toList.length = x0.size := rfl
  refine ⟨fun d hd => ?_, ?_⟩
  · simp only [S64, List.mem_cons, List.mem_nil_iff, or_false] at hd
    rcases hd with rfl | rfl | rfl
    · refine ⟨rfl, ?_⟩
      show (List.toArray _).size ≤ maxLen
      rw [List.size_toArray]; unfold maxLen; omega
    · refine ⟨rfl, ?_⟩
      show (List.toArray _).size ≤ maxLen
      rw [List.size_toArray]; unfold maxLen; omega
    · exact ⟨rfl, trivial⟩
  · obtain ⟨m, hm⟩ := maxLenG hg
    refine (Tryd.strings_Cut x0 x1 m w hp hm).mono ?_
    rintro e w' ⟨rfl, n, rfl⟩
    exact ⟨rfl, ⟨rfl, rfl, rfl, Nat.le_refl _, fun _ _ _ => rfl⟩⟩

end Go.Proofs.YtakodkjcmacofaaDoor

/- Function 65 (impl.number): its runs between cut points. Written by a program of this repo (gen). -/
set_option linter.unusedVariables false
set_option linter.unusedSimpArgs false
set_option maxRecDepth 100000
namespace Go.Proofs.YtakodkjcmacofaaDoor
open Go Go.Am Go.Proofs
def ext65 : Ext := []
theorem ext65Ok : ExtOk Tryd.prog ext65 := trivial
/-! Function 65. -/
noncomputable def b65 : Code := bodyOf Tryd.f65
theorem hb65 : Tryd.f65.body = some b65 := by kernel_rfl
def sig65 : List AT := [AT.v (Ty.str)]
def tys65 : List Ty := [Ty.int IntKind.i64]
def E65_5 (v3 : Int) (v17 : Int) (x0 : ByteArray) : Env := [(3, PV.a (Atom.val (Value.int IntKind.i64 v3))), (15, PV.a (Atom.osl 0 Option.none)), (16, PV.a (Atom.val (Value.int IntKind.i64 (↑(List.length (bytesOf x0)) : Int)))), (17, PV.a (Atom.val (Value.int IntKind.i64 v17)))]
def L65_5 (v3 : Int) (v17 : Int) (x0 : ByteArray) : Heap := [Option.some (Arr.mk (Ty.int IntKind.u8) (bytesOf x0) Bool.false)]
mutual
def R65 : Nat → ByteArray → List Dyn → Prop
  | 0, _, _ => False
  | n + 1, x0, ds => (if (Decidable.decide ((↑(ByteArray.size x0) : Int) < 1)) = true then (ds = [Dyn.mk (Ty.int IntKind.i64) (-1)]) else (if (Decidable.decide ((↑(ByteArray.size x0) : Int) > 12)) = true then (ds = [Dyn.mk (Ty.int IntKind.i64) (-1)]) else (R65_5 n (0) (0) (x0) ds)))
def R65_5 : Nat → Int → Int → ByteArray → List Dyn → Prop
  | 0, _, _, _, _ => False
  | n + 1, v3, v17, x0, ds => (if (Decidable.decide (v17 < (↑(List.length (bytesOf x0)) : Int))) = true then ((0 ≤ v17) ∧ (v17 < (↑(List.length (bytesOf x0)) : Int)) ∧ (if (Decidable.decide (List.getD (bytesOf x0) (Int.toNat v17) 0 < 48)) = true then (ds = [Dyn.mk (Ty.int IntKind.i64) (-1)]) else (if (Decidable.decide (List.getD (bytesOf x0) (Int.toNat v17) 0 > 57)) = true then (ds = [Dyn.mk (Ty.int IntKind.i64) (-1)]) else ((InR IntKind.i64 (10 * v3)) ∧ ((InR IntKind.u8 (List.getD (bytesOf x0) (Int.toNat v17) 0 - 48)) ∧ ((InR IntKind.i64 (List.getD (bytesOf x0) (Int.toNat v17) 0 - 48)) ∧ ((InR IntKind.i64 (10 * v3 + (List.getD (bytesOf x0) (Int.toNat v17) 0 - 48))) ∧ ((InR IntKind.i64 (v17 + 1)) ∧ (R65_5 n (10 * v3 + (List.getD (bytesOf x0) (Int.toNat v17) 0 - 48)) (v17 + 1) (x0) ds))))))))) else (ds = [Dyn.mk (Ty.int IntKind.i64) v3]))
end
theorem p65_0 (x0 : ByteArray) : runF tab ext65 false 35 [] 2000 [] tys65 Tryd.f65.results [true, true] [.code b65] (entE 0 0 sig65 (x0, ())) (entL sig65 (x0, ())) = some ([Dyn.mk (Ty.int IntKind.i64) (-1)], [], [Decidable.decide ((↑(ByteArray.size x0) : Int) < 1) = Bool.true, Bool.true = Bool.true]) := by kernel_rfl
theorem p65_1 (x0 : ByteArray) : runF tab ext65 false 35 [] 2000 [] tys65 Tryd.f65.results [false, true] [.code b65] (entE 0 0 sig65 (x0, ())) (entL sig65 (x0, ())) = some ([Dyn.mk (Ty.int IntKind.i64) (-1)], [], [Decidable.decide ((↑(ByteArray.size x0) : Int) < 1) = Bool.false, Decidable.decide ((↑(ByteArray.size x0) : Int) > 12) = Bool.true]) := by kernel_rfl
theorem p65_2 (x0 : ByteArray) : Am.runN tab ext65 false 35 [] 2000 [] [] [3, 15, 16, 17] [0] [false, false] [.code b65] (entE 0 0 sig65 (x0, ())) (entL sig65 (x0, ())) = some (cutAt b65 5, E65_5 (0) (0) (x0), L65_5 (0) (0) (x0), [Decidable.decide ((↑(ByteArray.size x0) : Int) < 1) = Bool.false, Decidable.decide ((↑(ByteArray.size x0) : Int) > 12) = Bool.false]) := by kernel_rfl
theorem p65_3 (v3 : Int) (v17 : Int) (x0 : ByteArray) : runF tab ext65 false 35 [] 2000 [] tys65 Tryd.f65.results [true, true, true] (cutAt b65 5) (E65_5 v3 v17 x0) (L65_5 v3 v17 x0) = some ([Dyn.mk (Ty.int IntKind.i64) (-1)], [], [Decidable.decide (v17 < (↑(List.length (bytesOf x0)) : Int)) = Bool.true, 0 ≤ v17, v17 < (↑(List.length (bytesOf x0)) : Int), Decidable.decide (List.getD (bytesOf x0) (Int.toNat v17) 0 < 48) = Bool.true, Bool.true = Bool.true]) := by kernel_rfl
theorem p65_4 (v3 : Int) (v17 : Int) (x0 : ByteArray) : runF tab ext65 false 35 [] 2000 [] tys65 Tryd.f65.results [true, false, true] (cutAt b65 5) (E65_5 v3 v17 x0) (L65_5 v3 v17 x0) = some ([Dyn.mk (Ty.int IntKind.i64) (-1)], [], [Decidable.decide (v17 < (↑(List.length (bytesOf x0)) : Int)) = Bool.true, 0 ≤ v17, v17 < (↑(List.length (bytesOf x0)) : Int), Decidable.decide (List.getD (bytesOf x0) (Int.toNat v17) 0 < 48) = Bool.false, Decidable.decide (List.getD (bytesOf x0) (Int.toNat v17) 0 > 57) = Bool.true]) := by kernel_rfl
theorem p65_5 (v3 : Int) (v17 : Int) (x0 : ByteArray) : Am.runN tab ext65 false 35 [] 2000 [] [] [3, 15, 16, 17] [0] [true, false, false] (cutAt b65 5) (E65_5 v3 v17 x0) (L65_5 v3 v17 x0) = some (cutAt b65 5, E65_5 (10 * v3 + (List.getD (bytesOf x0) (Int.toNat v17) 0 - 48)) (v17 + 1) (x0), L65_5 (10 * v3 + (List.getD (bytesOf x0) (Int.toNat v17) 0 - 48)) (v17 + 1) (x0), [Decidable.decide (v17 < (↑(List.length (bytesOf x0)) : Int)) = Bool.true, 0 ≤ v17, v17 < (↑(List.length (bytesOf x0)) : Int), Decidable.decide (List.getD (bytesOf x0) (Int.toNat v17) 0 < 48) = Bool.false, Decidable.decide (List.getD (bytesOf x0) (Int.toNat v17) 0 > 57) = Bool.false, InR IntKind.i64 (10 * v3), InR IntKind.u8 (List.getD (bytesOf x0) (Int.toNat v17) 0 - 48), InR IntKind.i64 (List.getD (bytesOf x0) (Int.toNat v17) 0 - 48), InR IntKind.i64 (10 * v3 + (List.getD (bytesOf x0) (Int.toNat v17) 0 - 48)), InR IntKind.i64 (v17 + 1)]) := by kernel_rfl
theorem p65_6 (v3 : Int) (v17 : Int) (x0 : ByteArray) : runF tab ext65 false 35 [] 2000 [] tys65 Tryd.f65.results [false] (cutAt b65 5) (E65_5 v3 v17 x0) (L65_5 v3 v17 x0) = some ([Dyn.mk (Ty.int IntKind.i64) v3], [], [Decidable.decide (v17 < (↑(List.length (bytesOf x0)) : Int)) = Bool.false]) := by kernel_rfl
theorem snd65 : ∀ n, (∀ (x0 : ByteArray) ds, R65 n x0 ds → ∀ w0 O q, AtV Tryd.prog 65 (PostR ds [] [] q w0 O) 35 w0 O q [] [.code b65] (entE 0 0 sig65 (x0, ())) (entL sig65 (x0, ()))) ∧ (∀ (v3 : Int) (v17 : Int) (x0 : ByteArray) ds, R65_5 n v3 v17 x0 ds → ∀ w0 O q, AtV Tryd.prog 65 (PostR ds [] [] q w0 O) 35 w0 O q [] (cutAt b65 5) (E65_5 v3 v17 x0) (L65_5 v3 v17 x0)) := by
  intro n
  induction n with
  | zero => exact ⟨fun _ _ h => by simp only [R65] at h, fun _ _ _ _ h => by simp only [R65_5] at h⟩
  | succ n ih =>
  obtain ⟨ih, ih5⟩ := ih
  refine ⟨?_, ?_⟩
  · intro x0 ds h w0 O q
    rw [R65] at h
    by_cases b0 : (Decidable.decide ((↑(ByteArray.size x0) : Int) < 1)) = true
    · rw [if_pos b0] at h
      subst h
      exact AtV.fin Tryd.func65 tabOk ext65Ok mixed (p65_0 x0) ⟨b0, rfl, trivial⟩
    · rw [if_neg b0] at h
      replace b0 := Bool.eq_false_iff.2 b0
      by_cases b1 : (Decidable.decide ((↑(ByteArray.size x0) : Int) > 12)) = true
      · rw [if_pos b1] at h
        subst h
        exact AtV.fin Tryd.func65 tabOk ext65Ok mixed (p65_1 x0) ⟨b0, b1, trivial⟩
      · rw [if_neg b1] at h
        replace b1 := Bool.eq_false_iff.2 b1
        exact AtV.runN tabOk ext65Ok mixed (p65_2 x0) ⟨b0, b1, trivial⟩ (ih5 _ _ _ _ h w0 O q)

  · intro v3 v17 x0 ds h w0 O q
    rw [R65_5] at h
    by_cases b0 : (Decidable.decide (v17 < (↑(List.length (bytesOf x0)) : Int))) = true
    · rw [if_pos b0] at h
      obtain ⟨s0, s1, h⟩ := h
      by_cases b1 : (Decidable.decide (List.getD (bytesOf x0) (Int.toNat v17) 0 < 48)) = true
      · rw [if_pos b1] at h
        subst h
        exact AtV.fin Tryd.func65 tabOk ext65Ok mixed (p65_3 v3 v17 x0) ⟨b0, s0, s1, b1, rfl, trivial⟩
      · rw [if_neg b1] at h
        replace b1 := Bool.eq_false_iff.2 b1
        by_cases b2 : (Decidable.decide (List.getD (bytesOf x0) (Int.toNat v17) 0 > 57)) = true
        · rw [if_pos b2] at h
          subst h
          exact AtV.fin Tryd.func65 tabOk ext65Ok mixed (p65_4 v3 v17 x0) ⟨b0, s0, s1, b1, b2, trivial⟩
        · rw [if_neg b2] at h
          replace b2 := Bool.eq_false_iff.2 b2
          obtain ⟨s2, h⟩ := h
          obtain ⟨s3, h⟩ := h
          obtain ⟨s4, h⟩ := h
          obtain ⟨s5, h⟩ := h
          obtain ⟨s6, h⟩ := h
          exact AtV.runN tabOk ext65Ok mixed (p65_5 v3 v17 x0) ⟨b0, s0, s1, b1, b2, s2, s3, s4, s5, s6, trivial⟩ (ih5 _ _ _ _ h w0 O q)
    · rw [if_neg b0] at h
      replace b0 := Bool.eq_false_iff.2 b0
      subst h
      exact AtV.fin Tryd.func65 tabOk ext65Ok mixed (p65_6 v3 v17 x0) ⟨b0, trivial⟩



def num65 : List UInt8 → Int → Int
  | [], n => n
  | b :: r, n => if decide (48 ≤ b.toNat) && decide (b.toNat ≤ 57) then num65 r (10 * n + ((b.toNat : Int) - 48)) else -1
def g65_0 (x0 : ByteArray) : Int := if x0.size < 1 ∨ 12 < x0.size then -1 else num65 x0.data.toList 0
def P65 (x0 : ByteArray) : Prop := True

theorem run65 (x0 : ByteArray) (hs : x0.size ≤ 12) : ∀ (k i m : Nat), i + k = x0.size → m < 10 ^ i →
    R65_5 (k + 1) (m : Int) (i : Int) x0 [⟨.int .i64, num65 (x0.data.toList.drop i) (m : Int)⟩] := by
  intro k
  have hll : x0.data.toList.length = x0.size := rfl
  have hbl : (bytesOf x0).length = x0.size := by unfold bytesOf; rw [List.length_map]; rfl
  induction k with
  | zero =>
    intro i m hi hm
    rw [R65_5, if_neg (by rw [hbl]; simp; omega), List.drop_of_length_le (by omega)]
    rfl
  | succ k ih =>
    intro i m hi hm
    have hlt : i < x0.data.toList.length := by rw [hll]; omega
    have hcons : x0.data.toList.drop i = x0.data.toList.getD i 0 :: x0.data.toList.drop (i + 1) := drop_get _ i 0 hlt
    have hbyte : (bytesOf x0).getD i 0 = ((x0.data.toList.getD i 0).toNat : Int) := by
      unfold bytesOf
      rw [List.getD_eq_getElem?_getD, List.getD_eq_getElem?_getD, List.getElem?_map, List.getElem?_eq_getElem hlt]
      rfl
    rw [R65_5, if_pos (by rw [hbl]; simp; omega), hcons]
    simp only [Int.toNat_natCast, hbyte, hbl]
    generalize x0.data.toList.getD i 0 = b at *
    refine ⟨by omega, by omega, ?_⟩
    unfold num65
    by_cases h1 : b.toNat < 48
    · have h1' : (b.toNat : Int) < 48 := by omega
      have h1'' : ¬ 48 ≤ b.toNat := by omega
      simp [h1', h1'']
    · have h1' : ¬ (b.toNat : Int) < 48 := by omega
      have h1'' : 48 ≤ b.toNat := by omega
      by_cases h2 : b.toNat > 57
      · have h2' : (b.toNat : Int) > 57 := by omega
        have h2'' : ¬ b.toNat ≤ 57 := by omega
        simp [h1', h2', h2'']
      · have h2' : ¬ (b.toNat : Int) > 57 := by omega
        have h2'' : b.toNat ≤ 57 := by omega
        have hp : 10 ^ i ≤ 10 ^ 11 := Nat.pow_le_pow_right (by decide) (by omega)
        have hm2 : m < 100000000000 := Nat.lt_of_lt_of_le hm hp
        simp only [h1', h1'', h2', h2'', decide_true, decide_false, Bool.and_self, Bool.false_eq_true, if_false, if_true]
        refine ⟨by rw [i64_iff]; omega, by rw [u8_iff]; omega, by rw [i64_iff]; omega, by rw [i64_iff]; omega, by rw [i64_iff]; omega, ?_⟩
        have e1 : 10 * (m : Int) + ((b.toNat : Int) - 48) = ((10 * m + (b.toNat - 48) : Nat) : Int) := by omega
        have e2 : (i : Int) + 1 = ((i + 1 : Nat) : Int) := by omega
        rw [e1, e2]
        exact ih (i + 1) (10 * m + (b.toNat - 48)) (by omega) (by rw [Nat.pow_succ]; omega)

theorem top65 (x0 : ByteArray) : R65 (x0.size + 1 + 1) x0 [⟨.int .i64, g65_0 x0⟩] := by
  rw [R65]
  unfold g65_0
  by_cases h1 : x0.size < 1
  · rw [if_pos (by simp; omega), if_pos (.inl h1)]
  · rw [if_neg (by simp; omega)]
    by_cases h2 : 12 < x0.size
    · rw [if_pos (by simp; omega), if_pos (.inr h2)]
    · rw [if_neg (by simp; omega), if_neg (by omega)]
      exact run65 x0 (by omega) x0.size 0 0 (by omega) (by decide)

def S65 : Am.Spec := { sig := sig65, pre := fun ⟨x0, _⟩ => P65 x0, res := fun ⟨x0, _⟩ => [⟨.int .i64, g65_0 x0⟩] }
theorem con65 : Contract Tryd.prog 65 S65 := contract_of Tryd.func65 hb65 (Nat.le_of_ble_eq_true (by kernel_rfl)) (fun ⟨x0, _⟩ h hwf w0 O q =>
  (snd65 _).1 x0 _ (top65 x0) w0 O q)

end Go.Proofs.YtakodkjcmacofaaDoor

/- Function 102 (impl.within): its runs between cut points. Written by a program of this repo (gen). -/
set_option linter.unusedVariables false
set_option linter.unusedSimpArgs false
set_option maxRecDepth 100000
namespace Go.Proofs.YtakodkjcmacofaaDoor
open Go Go.Am Go.Proofs
def ext102 : Ext := []
theorem ext102Ok : ExtOk Tryd.prog ext102 := trivial
/-! Function 102. -/
noncomputable def b102 : Code := bodyOf Tryd.f102
theorem hb102 : Tryd.f102.body = some b102 := by kernel_rfl
def sig102 : List AT := [AT.v (Ty.int IntKind.i64), AT.v (Ty.int IntKind.i64), AT.v (Ty.int IntKind.i64)]
def tys102 : List Ty := [Ty.bool]
def P102 (x0 : Int) (x1 : Int) (x2 : Int) : Prop := True
def g102_0 (x0 : Int) (x1 : Int) (x2 : Int) : Bool := (if (Decidable.decide (x0 ≥ x1)) = true then Decidable.decide (x0 ≤ x2) else Bool.false)
theorem p102_0 (x0 : Int) (x1 : Int) (x2 : Int) : runF tab ext102 false 15 [] 2000 [] tys102 Tryd.f102.results [true] [.code b102] (entE 0 0 sig102 (x0, x1, x2, ())) (entL sig102 (x0, x1, x2, ())) = some ([Dyn.mk Ty.bool (Decidable.decide (x0 ≤ x2))], [], [Decidable.decide (x0 ≥ x1) = Bool.true]) := by kernel_rfl
theorem p102_1 (x0 : Int) (x1 : Int) (x2 : Int) : runF tab ext102 false 15 [] 2000 [] tys102 Tryd.f102.results [false] [.code b102] (entE 0 0 sig102 (x0, x1, x2, ())) (entL sig102 (x0, x1, x2, ())) = some ([Dyn.mk Ty.bool Bool.false], [], [Decidable.decide (x0 ≥ x1) = Bool.false]) := by kernel_rfl
theorem at102 (x0 : Int) (x1 : Int) (x2 : Int) (h : P102 x0 x1 x2) (w0 : World) (O : List Nat) (q : Nat → Value) : AtV Tryd.prog 102 (PostR [⟨Ty.bool, g102_0 x0 x1 x2⟩] [] [] q w0 O) 15 w0 O q [] [.code b102] (entE 0 0 sig102 (x0, x1, x2, ())) (entL sig102 (x0, x1, x2, ())) := by
  unfold P102 at h
  unfold g102_0
  by_cases b0 : (Decidable.decide (x0 ≥ x1)) = true
  · try simp only [if_pos b0] at h ⊢
    exact AtV.fin Tryd.func102 tabOk ext102Ok mixed (p102_0 x0 x1 x2) ⟨b0, trivial⟩
  · try simp only [if_neg b0] at h ⊢
    replace b0 := Bool.eq_false_iff.2 b0
    exact AtV.fin Tryd.func102 tabOk ext102Ok mixed (p102_1 x0 x1 x2) ⟨b0, trivial⟩

def S102 : Am.Spec := { sig := sig102, pre := fun ⟨x0, x1, x2, _⟩ => P102 x0 x1 x2, res := fun ⟨x0, x1, x2, _⟩ => [⟨Ty.bool, g102_0 x0 x1 x2⟩] }
theorem con102 : Contract Tryd.prog 102 S102 := contract_of Tryd.func102 hb102 (Nat.le_of_ble_eq_true (by kernel_rfl)) (fun ⟨x0, x1, x2, _⟩ h _ w0 O q => at102 x0 x1 x2 h w0 O q)


end Go.Proofs.YtakodkjcmacofaaDoor

/- Function 141 (strconv.FormatInt): its contract, off what is known of the library. -/
set_option linter.unusedVariables false
set_option linter.unusedSimpArgs false
set_option maxRecDepth 100000
namespace Go.Proofs.YtakodkjcmacofaaDoor
open Go Go.Am Go.Proofs

def sig141 : List AT := [AT.v (Ty.int .i64), AT.v (Ty.int .i64)]
def g141_0 (x0 x1 : Int) : ByteArray := numB x0
def P141 (x0 x1 : Int) : Prop := x1 = 10
def S141 : Am.Spec := { sig := sig141, pre := fun ⟨x0, x1, _⟩ => P141 x0 x1, res := fun ⟨x0, x1, _⟩ => [⟨Ty.str, g141_0 x0 x1⟩] }
theorem con141 : Contract Tryd.prog 141 S141 := contract_flat rfl fun w ⟨x0, x1, _⟩ vs bss hg hp hw ha => by
  obtain ⟨v0, s0, _, _, rfl, _, ⟨_, rfl, hi⟩, v1, s1, _, _, rfl, _, ⟨_, rfl, _⟩, rfl, _⟩ := ha
  obtain rfl : x1 = 10 := hp
  have hi : InR .i64 x0 := hi
  rw [i64_iff] at hi
  refine ⟨fun d hd => ?_, ?_⟩
  · rw [List.mem_singleton.1 hd]
    refine ⟨rfl, ?_⟩
    show (numB x0).size ≤ maxLen
    have := numB_size x0 hi.1 hi.2
    unfold maxLen; omega
  · refine (Tryd.strconv_FormatInt_10 x0 hi.1 hi.2 w (pow10G hg)).mono ?_
    rintro e w' ⟨rfl, n, os, rfl⟩
    exact ⟨rfl, kept_grow _ _ _⟩

end Go.Proofs.YtakodkjcmacofaaDoor

/- Function 94 (impl.Decimal): its runs between cut points. Written by a program of this repo (gen). -/
set_option linter.unusedVariables false
set_option linter.unusedSimpArgs false
set_option maxRecDepth 100000
namespace Go.Proofs.YtakodkjcmacofaaDoor
open Go Go.Am Go.Proofs
def ext94 : Ext := [(141, S141)]
theorem call94_141 : Callable Tryd.prog 141 := ⟨Tryd.f141, Tryd.func141, by kernel_rfl, by kernel_rfl⟩
theorem ext94Ok : ExtOk Tryd.prog ext94 := ⟨⟨call94_141, con141⟩, trivial⟩
/-! Function 94. -/
noncomputable def b94 : Code := bodyOf Tryd.f94
theorem hb94 : Tryd.f94.body = some b94 := by kernel_rfl
def sig94 : List AT := [AT.v (Ty.int IntKind.i64)]
def tys94 : List Ty := [Ty.str]
def P94 (x0 : Int) : Prop := ((P141 x0 10) ∧ True)
def g94_0 (x0 : Int) : ByteArray := g141_0 x0 10
theorem p94_0 (x0 : Int) : runF tab ext94 false 5 [] 2000 [] tys94 Tryd.f94.results [] [.code b94] (entE 0 0 sig94 (x0, ())) (entL sig94 (x0, ())) = some ([Dyn.mk Ty.str (g141_0 x0 10)], [], [P141 x0 10]) := by kernel_rfl
theorem at94 (x0 : Int) (h : P94 x0) (w0 : World) (O : List Nat) (q : Nat → Value) : AtV Tryd.prog 94 (PostR [⟨Ty.str, g94_0 x0⟩] [] [] q w0 O) 5 w0 O q [] [.code b94] (entE 0 0 sig94 (x0, ())) (entL sig94 (x0, ())) := by
  unfold P94 at h
  unfold g94_0
  obtain ⟨s0, h⟩ := h
  exact AtV.fin Tryd.func94 tabOk ext94Ok mixed (p94_0 x0) ⟨s0, trivial⟩

def S94 : Am.Spec := { sig := sig94, pre := fun ⟨x0, _⟩ => P94 x0, res := fun ⟨x0, _⟩ => [⟨Ty.str, g94_0 x0⟩] }
theorem con94 : Contract Tryd.prog 94 S94 := contract_of Tryd.func94 hb94 (Nat.le_of_ble_eq_true (by kernel_rfl)) (fun ⟨x0, _⟩ h _ w0 O q => at94 x0 h w0 O q)


end Go.Proofs.YtakodkjcmacofaaDoor

/- Function 143 (strings.Repeat): its contract, off what is known of the library. -/
set_option linter.unusedVariables false
set_option linter.unusedSimpArgs false
set_option maxRecDepth 100000
namespace Go.Proofs.YtakodkjcmacofaaDoor
open Go Go.Am Go.Proofs

def sig143 : List AT := [AT.v Ty.str, AT.v (Ty.int .i64)]
def g143_0 (x0 : ByteArray) (x1 : Int) : ByteArray := ⟨(Lib.repeatL x0.data.toList x1.toNat).toArray⟩
def P143 (x0 : ByteArray) (x1 : Int) : Prop := 0 ≤ x1 ∧ (x0.size : Int) * x1 ≤ 140737488355328
def S143 : Am.Spec := { sig := sig143, pre := fun ⟨x0, x1, _⟩ => P143 x0 x1, res := fun ⟨x0, x1, _⟩ => [⟨Ty.str, g143_0 x0 x1⟩] }
theorem con143 : Contract Tryd.prog 143 S143 := contract_flat rfl fun w ⟨x0, x1, _⟩ vs bss hg hp hw ha => by
  obtain ⟨v0, s0, _, _, rfl, _, ⟨_, rfl, _⟩, v1, s1, _, _, rfl, _, ⟨_, rfl, _⟩, rfl, _⟩ := ha
  obtain ⟨h0, h1⟩ := hp
  obtain ⟨c, rfl⟩ : ∃ c : Nat, x1 = (c : Int) := Int.eq_ofNat_of_zero_le h0
  have hi : InR .i64 (c : Int) := hw.2.1
  rw [i64_iff] at hi
  have hm : x0.size * c ≤ 140737488355328 := by
    have : ((x0.size * c : Nat) : Int) = (x0.size : Int) * (c : Int) := Int.natCast_mul _ _
    omega
  refine ⟨fun d hd => ?_, ?_⟩
  · rw [List.mem_singleton.1 hd]
    refine ⟨rfl, ?_⟩
    show (ByteArray.mk (Lib.repeatL x0.data.toList c).toArray).size ≤ maxLen
    have : (ByteArray.mk (Lib.repeatL x0.data.toList c).toArray).size = c * x0.data.toList.length := by
      show (Lib.repeatL x0.data.toList c).toArray.size = _
      rw [List.size_toArray, Lib.repeatL_length]
    rw [this, Nat.mul_comm]
    have e : x0.data.toList.length = x0.size := rfl
    rw [e]
    unfold maxLen
    omega
  · refine (Tryd.strings_Repeat x0 c w (by omega) hm).mono ?_
    rintro e w' ⟨rfl, hb⟩
    exact ⟨rfl, Kept.of_below hb⟩

end Go.Proofs.YtakodkjcmacofaaDoor

/- Function 103 (impl.padded): its runs between cut points. Written by a program of this repo (gen). -/
set_option linter.unusedVariables false
set_option linter.unusedSimpArgs false
set_option maxRecDepth 100000
namespace Go.Proofs.YtakodkjcmacofaaDoor
open Go Go.Am Go.Proofs
def ext103 : Ext := [(94, S94), (143, S143)]
theorem call103_94 : Callable Tryd.prog 94 := ⟨Tryd.f94, Tryd.func94, by kernel_rfl, by kernel_rfl⟩
theorem call103_143 : Callable Tryd.prog 143 := ⟨Tryd.f143, Tryd.func143, by kernel_rfl, by kernel_rfl⟩
theorem ext103Ok : ExtOk Tryd.prog ext103 := ⟨⟨call103_94, con94⟩, ⟨call103_143, con143⟩, trivial⟩
/-! Function 103. -/
noncomputable def b103 : Code := bodyOf Tryd.f103
theorem hb103 : Tryd.f103.body = some b103 := by kernel_rfl
def sig103 : List AT := [AT.v (Ty.int IntKind.i64), AT.v (Ty.int IntKind.i64)]
def tys103 : List Ty := [Ty.str]
def P103 (x0 : Int) (x1 : Int) : Prop := ((P94 x0) ∧ ((InR IntKind.i64 (x1 - (↑(ByteArray.size (g94_0 x0)) : Int))) ∧ ((P143 (ByteArray.mk #[48]) (if 0 < x1 - (↑(ByteArray.size (g94_0 x0)) : Int) then x1 - (↑(ByteArray.size (g94_0 x0)) : Int) else 0)) ∧ ((ByteArray.size (g143_0 (ByteArray.mk #[48]) (if 0 < x1 - (↑(ByteArray.size (g94_0 x0)) : Int) then x1 - (↑(ByteArray.size (g94_0 x0)) : Int) else 0)) + ByteArray.size (g94_0 x0) ≤ 9223372036854775807) ∧ True))))
def g103_0 (x0 : Int) (x1 : Int) : ByteArray := g143_0 (ByteArray.mk #[48]) (if 0 < x1 - (↑(ByteArray.size (g94_0 x0)) : Int) then x1 - (↑(ByteArray.size (g94_0 x0)) : Int) else 0) ++ g94_0 x0
theorem p103_0 (x0 : Int) (x1 : Int) : runF tab ext103 false 16 [] 2000 [] tys103 Tryd.f103.results [] [.code b103] (entE 0 0 sig103 (x0, x1, ())) (entL sig103 (x0, x1, ())) = some ([Dyn.mk Ty.str (g143_0 (ByteArray.mk #[48]) (if 0 < x1 - (↑(ByteArray.size (g94_0 x0)) : Int) then x1 - (↑(ByteArray.size (g94_0 x0)) : Int) else 0) ++ g94_0 x0)], [], [P94 x0, InR IntKind.i64 (x1 - (↑(ByteArray.size (g94_0 x0)) : Int)), P143 (ByteArray.mk #[48]) (if 0 < x1 - (↑(ByteArray.size (g94_0 x0)) : Int) then x1 - (↑(ByteArray.size (g94_0 x0)) : Int) else 0), ByteArray.size (g143_0 (ByteArray.mk #[48]) (if 0 < x1 - (↑(ByteArray.size (g94_0 x0)) : Int) then x1 - (↑(ByteArray.size (g94_0 x0)) : Int) else 0)) + ByteArray.size (g94_0 x0) ≤ 9223372036854775807]) := by kernel_rfl
theorem at103 (x0 : Int) (x1 : Int) (h : P103 x0 x1) (w0 : World) (O : List Nat) (q : Nat → Value) : AtV Tryd.prog 103 (PostR [⟨Ty.str, g103_0 x0 x1⟩] [] [] q w0 O) 16 w0 O q [] [.code b103] (entE 0 0 sig103 (x0, x1, ())) (entL sig103 (x0, x1, ())) := by
  unfold P103 at h
  unfold g103_0
  obtain ⟨s0, h⟩ := h
  obtain ⟨s1, h⟩ := h
  obtain ⟨s2, h⟩ := h
  obtain ⟨s3, h⟩ := h
  exact AtV.fin Tryd.func103 tabOk ext103Ok mixed (p103_0 x0 x1) ⟨s0, s1, s2, s3, trivial⟩

def S103 : Am.Spec := { sig := sig103, pre := fun ⟨x0, x1, _⟩ => P103 x0 x1, res := fun ⟨x0, x1, _⟩ => [⟨Ty.str, g103_0 x0 x1⟩] }
theorem con103 : Contract Tryd.prog 103 S103 := contract_of Tryd.func103 hb103 (Nat.le_of_ble_eq_true (by kernel_rfl)) (fun ⟨x0, x1, _⟩ h _ w0 O q => at103 x0 x1 h w0 O q)


end Go.Proofs.YtakodkjcmacofaaDoor

/- Function 38 (impl.ClockText): its runs between cut points. Written by a program of this repo (gen). -/
set_option linter.unusedVariables false
set_option linter.unusedSimpArgs false
set_option maxRecDepth 100000
namespace Go.Proofs.YtakodkjcmacofaaDoor
open Go Go.Am Go.Proofs
def ext38 : Ext := [(102, S102), (103, S103)]
theorem call38_102 : Callable Tryd.prog 102 := ⟨Tryd.f102, Tryd.func102, by kernel_rfl, by kernel_rfl⟩
theorem call38_103 : Callable Tryd.prog 103 := ⟨Tryd.f103, Tryd.func103, by kernel_rfl, by kernel_rfl⟩
theorem ext38Ok : ExtOk Tryd.prog ext38 := ⟨⟨call38_102, con102⟩, ⟨call38_103, con103⟩, trivial⟩
/-! Function 38. -/
noncomputable def b38 : Code := bodyOf Tryd.f38
theorem hb38 : Tryd.f38.body = some b38 := by kernel_rfl
def sig38 : List AT := [AT.v (Ty.int IntKind.i64)]
def tys38 : List Ty := [Ty.str]
def P38 (x0 : Int) : Prop := (if (!g102_0 x0 0 1439) = true then True else ((InR IntKind.i64 (Int.tdiv x0 60)) ∧ ((P103 (Int.tdiv x0 60) 2) ∧ ((ByteArray.size (g103_0 (Int.tdiv x0 60) 2) + 1 ≤ 9223372036854775807) ∧ ((InR IntKind.i64 (Int.tmod x0 60)) ∧ ((P103 (Int.tmod x0 60) 2) ∧ ((ByteArray.size (g103_0 (Int.tdiv x0 60) 2 ++ ByteArray.mk #[58]) + ByteArray.size (g103_0 (Int.tmod x0 60) 2) ≤ 9223372036854775807) ∧ True)))))))
def g38_0 (x0 : Int) : ByteArray := (if (!g102_0 x0 0 1439) = true then ByteArray.mk #[] else g103_0 (Int.tdiv x0 60) 2 ++ ByteArray.mk #[58] ++ g103_0 (Int.tmod x0 60) 2)
theorem p38_0 (x0 : Int) : runF tab ext38 false 14 [] 2000 [] tys38 Tryd.f38.results [true] [.code b38] (entE 0 0 sig38 (x0, ())) (entL sig38 (x0, ())) = some ([Dyn.mk Ty.str (ByteArray.mk #[])], [], [True, (!g102_0 x0 0 1439) = Bool.true]) := by kernel_rfl
theorem p38_1 (x0 : Int) : runF tab ext38 false 14 [] 2000 [] tys38 Tryd.f38.results [false] [.code b38] (entE 0 0 sig38 (x0, ())) (entL sig38 (x0, ())) = some ([Dyn.mk Ty.str (g103_0 (Int.tdiv x0 60) 2 ++ ByteArray.mk #[58] ++ g103_0 (Int.tmod x0 60) 2)], [], [True, (!g102_0 x0 0 1439) = Bool.false, (60 : Int) ≠ (0 : Int), InR IntKind.i64 (Int.tdiv x0 60), P103 (Int.tdiv x0 60) 2, ByteArray.size (g103_0 (Int.tdiv x0 60) 2) + 1 ≤ 9223372036854775807, (60 : Int) ≠ (0 : Int), InR IntKind.i64 (Int.tmod x0 60), P103 (Int.tmod x0 60) 2, ByteArray.size (g103_0 (Int.tdiv x0 60) 2 ++ ByteArray.mk #[58]) + ByteArray.size (g103_0 (Int.tmod x0 60) 2) ≤ 9223372036854775807]) := by kernel_rfl
theorem at38 (x0 : Int) (h : P38 x0) (w0 : World) (O : List Nat) (q : Nat → Value) : AtV Tryd.prog 38 (PostR [⟨Ty.str, g38_0 x0⟩] [] [] q w0 O) 14 w0 O q [] [.code b38] (entE 0 0 sig38 (x0, ())) (entL sig38 (x0, ())) := by
  unfold P38 at h
  unfold g38_0
  by_cases b0 : (!g102_0 x0 0 1439) = true
  · try simp only [if_pos b0] at h ⊢
    exact AtV.fin Tryd.func38 tabOk ext38Ok mixed (p38_0 x0) ⟨trivial, b0, trivial⟩
  · try simp only [if_neg b0] at h ⊢
    replace b0 := Bool.eq_false_iff.2 b0
    obtain ⟨s0, h⟩ := h
    obtain ⟨s1, h⟩ := h
    obtain ⟨s2, h⟩ := h
    obtain ⟨s3, h⟩ := h
    obtain ⟨s4, h⟩ := h
    obtain ⟨s5, h⟩ := h
    exact AtV.fin Tryd.func38 tabOk ext38Ok mixed (p38_1 x0) ⟨trivial, b0, (by decide), s0, s1, s2, (by decide), s3, s4, s5, trivial⟩

def S38 : Am.Spec := { sig := sig38, pre := fun ⟨x0, _⟩ => P38 x0, res := fun ⟨x0, _⟩ => [⟨Ty.str, g38_0 x0⟩] }
theorem con38 : Contract Tryd.prog 38 S38 := contract_of Tryd.func38 hb38 (Nat.le_of_ble_eq_true (by kernel_rfl)) (fun ⟨x0, _⟩ h _ w0 O q => at38 x0 h w0 O q)


end Go.Proofs.YtakodkjcmacofaaDoor

/- Function 14 (impl.ReadClock): its runs between cut points. Written by a program of this repo (gen). -/
set_option linter.unusedVariables false
set_option linter.unusedSimpArgs false
set_option maxRecDepth 100000
namespace Go.Proofs.YtakodkjcmacofaaDoor
open Go Go.Am Go.Proofs
def ext14 : Ext := [(64, S64), (65, S65), (38, S38)]
theorem call14_64 : Callable Tryd.prog 64 := ⟨Tryd.f64, Tryd.func64, by kernel_rfl, by kernel_rfl⟩
theorem call14_65 : Callable Tryd.prog 65 := ⟨Tryd.f65, Tryd.func65, by kernel_rfl, by kernel_rfl⟩
theorem call14_38 : Callable Tryd.prog 38 := ⟨Tryd.f38, Tryd.func38, by kernel_rfl, by kernel_rfl⟩
theorem ext14Ok : ExtOk Tryd.prog ext14 := ⟨⟨call14_64, con64⟩, ⟨call14_65, con65⟩, ⟨call14_38, con38⟩, trivial⟩
/-! Function 14. -/
noncomputable def b14 : Code := bodyOf Tryd.f14
theorem hb14 : Tryd.f14.body = some b14 := by kernel_rfl
def sig14 : List AT := [AT.v (Ty.str)]
def tys14 : List Ty := [Ty.int IntKind.i64, Ty.bool]
def P14 (x0 : ByteArray) : Prop := ((P64 x0 (ByteArray.mk #[58])) ∧ ((InR IntKind.i64 (60 * g65_0 (g64_0 x0 (ByteArray.mk #[58])))) ∧ ((InR IntKind.i64 (60 * g65_0 (g64_0 x0 (ByteArray.mk #[58])) + g65_0 (g64_1 x0 (ByteArray.mk #[58])))) ∧ (if (ByteArray.toList x0 == ByteArray.toList (ByteArray.mk #[])) = true then True else ((P38 (60 * g65_0 (g64_0 x0 (ByteArray.mk #[58])) + g65_0 (g64_1 x0 (ByteArray.mk #[58])))) ∧ True)))))
def g14_0 (x0 : ByteArray) : Int := (if (ByteArray.toList x0 == ByteArray.toList (ByteArray.mk #[])) = true then 0 else (if (!ByteArray.toList (g38_0 (60 * g65_0 (g64_0 x0 (ByteArray.mk #[58])) + g65_0 (g64_1 x0 (ByteArray.mk #[58])))) == ByteArray.toList x0) = true then 0 else 60 * g65_0 (g64_0 x0 (ByteArray.mk #[58])) + g65_0 (g64_1 x0 (ByteArray.mk #[58]))))
def g14_1 (x0 : ByteArray) : Bool := (if (ByteArray.toList x0 == ByteArray.toList (ByteArray.mk #[])) = true then Bool.false else (if (!ByteArray.toList (g38_0 (60 * g65_0 (g64_0 x0 (ByteArray.mk #[58])) + g65_0 (g64_1 x0 (ByteArray.mk #[58])))) == ByteArray.toList x0) = true then Bool.false else Bool.true))
theorem p14_0 (x0 : ByteArray) : runF tab ext14 false 29 [] 2000 [] tys14 Tryd.f14.results [true, true] [.code b14] (entE 0 0 sig14 (x0, ())) (entL sig14 (x0, ())) = some ([Dyn.mk (Ty.int IntKind.i64) 0, Dyn.mk Ty.bool Bool.false], [], [P64 x0 (ByteArray.mk #[58]), True, InR IntKind.i64 (60 * g65_0 (g64_0 x0 (ByteArray.mk #[58]))), True, InR IntKind.i64 (60 * g65_0 (g64_0 x0 (ByteArray.mk #[58])) + g65_0 (g64_1 x0 (ByteArray.mk #[58]))), (ByteArray.toList x0 == ByteArray.toList (ByteArray.mk #[])) = Bool.true, Bool.true = Bool.true]) := by kernel_rfl
theorem p14_1 (x0 : ByteArray) : runF tab ext14 false 29 [] 2000 [] tys14 Tryd.f14.results [false, true] [.code b14] (entE 0 0 sig14 (x0, ())) (entL sig14 (x0, ())) = some ([Dyn.mk (Ty.int IntKind.i64) 0, Dyn.mk Ty.bool Bool.false], [], [P64 x0 (ByteArray.mk #[58]), True, InR IntKind.i64 (60 * g65_0 (g64_0 x0 (ByteArray.mk #[58]))), True, InR IntKind.i64 (60 * g65_0 (g64_0 x0 (ByteArray.mk #[58])) + g65_0 (g64_1 x0 (ByteArray.mk #[58]))), (ByteArray.toList x0 == ByteArray.toList (ByteArray.mk #[])) = Bool.false, P38 (60 * g65_0 (g64_0 x0 (ByteArray.mk #[58])) + g65_0 (g64_1 x0 (ByteArray.mk #[58]))), (!ByteArray.toList (g38_0 (60 * g65_0 (g64_0 x0 (ByteArray.mk #[58])) + g65_0 (g64_1 x0 (ByteArray.mk #[58])))) == ByteArray.toList x0) = Bool.true]) := by kernel_rfl
theorem p14_2 (x0 : ByteArray) : runF tab ext14 false 29 [] 2000 [] tys14 Tryd.f14.results [false, false] [.code b14] (entE 0 0 sig14 (x0, ())) (entL sig14 (x0, ())) = some ([Dyn.mk (Ty.int IntKind.i64) (60 * g65_0 (g64_0 x0 (ByteArray.mk #[58])) + g65_0 (g64_1 x0 (ByteArray.mk #[58]))), Dyn.mk Ty.bool Bool.true], [], [P64 x0 (ByteArray.mk #[58]), True, InR IntKind.i64 (60 * g65_0 (g64_0 x0 (ByteArray.mk #[58]))), True, InR IntKind.i64 (60 * g65_0 (g64_0 x0 (ByteArray.mk #[58])) + g65_0 (g64_1 x0 (ByteArray.mk #[58]))), (ByteArray.toList x0 == ByteArray.toList (ByteArray.mk #[])) = Bool.false, P38 (60 * g65_0 (g64_0 x0 (ByteArray.mk #[58])) + g65_0 (g64_1 x0 (ByteArray.mk #[58]))), (!ByteArray.toList (g38_0 (60 * g65_0 (g64_0 x0 (ByteArray.mk #[58])) + g65_0 (g64_1 x0 (ByteArray.mk #[58])))) == ByteArray.toList x0) = Bool.false]) := by kernel_rfl
theorem at14 (x0 : ByteArray) (h : P14 x0) (w0 : World) (O : List Nat) (q : Nat → Value) : AtV Tryd.prog 14 (PostR [⟨Ty.int IntKind.i64, g14_0 x0⟩, ⟨Ty.bool, g14_1 x0⟩] [] [] q w0 O) 29 w0 O q [] [.code b14] (entE 0 0 sig14 (x0, ())) (entL sig14 (x0, ())) := by
  unfold P14 at h
  unfold g14_0 g14_1
  obtain ⟨s0, h⟩ := h
  obtain ⟨s1, h⟩ := h
  obtain ⟨s2, h⟩ := h
  by_cases b0 : (ByteArray.toList x0 == ByteArray.toList (ByteArray.mk #[])) = true
  · try simp only [if_pos b0] at h ⊢
    exact AtV.fin Tryd.func14 tabOk ext14Ok mixed (p14_0 x0) ⟨s0, trivial, s1, trivial, s2, b0, rfl, trivial⟩
  · try simp only [if_neg b0] at h ⊢
    replace b0 := Bool.eq_false_iff.2 b0
    obtain ⟨s3, h⟩ := h
    by_cases b1 : (!ByteArray.toList (g38_0 (60 * g65_0 (g64_0 x0 (ByteArray.mk #[58])) + g65_0 (g64_1 x0 (ByteArray.mk #[58])))) == ByteArray.toList x0) = true
    · try simp only [if_pos b1] at h ⊢
      exact AtV.fin Tryd.func14 tabOk ext14Ok mixed (p14_1 x0) ⟨s0, trivial, s1, trivial, s2, b0, s3, b1, trivial⟩
    · try simp only [if_neg b1] at h ⊢
      replace b1 := Bool.eq_false_iff.2 b1
      exact AtV.fin Tryd.func14 tabOk ext14Ok mixed (p14_2 x0) ⟨s0, trivial, s1, trivial, s2, b0, s3, b1, trivial⟩

def S14 : Am.Spec := { sig := sig14, pre := fun ⟨x0, _⟩ => P14 x0, res := fun ⟨x0, _⟩ => [⟨Ty.int IntKind.i64, g14_0 x0⟩, ⟨Ty.bool, g14_1 x0⟩] }
theorem con14 : Contract Tryd.prog 14 S14 := contract_of Tryd.func14 hb14 (Nat.le_of_ble_eq_true (by kernel_rfl)) (fun ⟨x0, _⟩ h _ w0 O q => at14 x0 h w0 O q)


end Go.Proofs.YtakodkjcmacofaaDoor

/- Function 3 (laws.FnExactReadClock): its runs between cut points. Written by a program of this repo (gen). -/
set_option linter.unusedVariables false
set_option linter.unusedSimpArgs false
set_option maxRecDepth 100000
namespace Go.Proofs.YtakodkjcmacofaaDoor
open Go Go.Am Go.Proofs
def ext3 : Ext := [(13, S13), (14, S14)]
theorem call3_13 : Callable Tryd.prog 13 := ⟨Tryd.f13, Tryd.func13, by kernel_rfl, by kernel_rfl⟩
theorem call3_14 : Callable Tryd.prog 14 := ⟨Tryd.f14, Tryd.func14, by kernel_rfl, by kernel_rfl⟩
theorem ext3Ok : ExtOk Tryd.prog ext3 := ⟨⟨call3_13, con13⟩, ⟨call3_14, con14⟩, trivial⟩
/-! Function 3. -/
noncomputable def b3 : Code := bodyOf Tryd.f3
theorem hb3 : Tryd.f3.body = some b3 := by kernel_rfl
def sig3 : List AT := [AT.v (Ty.str)]
def tys3 : List Ty := [Ty.bool]
def P3 (x0 : ByteArray) : Prop := (if (Decidable.decide ((↑(ByteArray.size x0) : Int) > 1048576)) = true then True else ((P13 x0) ∧ ((P14 x0) ∧ True)))
def g3_0 (x0 : ByteArray) : Bool := (if (Decidable.decide ((↑(ByteArray.size x0) : Int) > 1048576)) = true then Bool.true else (if (g14_0 x0 != g13_0 x0) = true then Bool.false else (if (!g14_1 x0 == g13_1 x0) = true then Bool.false else Bool.true)))
theorem p3_0 (x0 : ByteArray) : runF tab ext3 false 28 [] 2000 [] tys3 Tryd.f3.results [true] [.code b3] (entE 0 0 sig3 (x0, ())) (entL sig3 (x0, ())) = some ([Dyn.mk Ty.bool Bool.true], [], [Decidable.decide ((↑(ByteArray.size x0) : Int) > 1048576) = Bool.true]) := by kernel_rfl
theorem p3_1 (x0 : ByteArray) : runF tab ext3 false 28 [] 2000 [] tys3 Tryd.f3.results [false, true, true] [.code b3] (entE 0 0 sig3 (x0, ())) (entL sig3 (x0, ())) = some ([Dyn.mk Ty.bool Bool.false], [], [Decidable.decide ((↑(ByteArray.size x0) : Int) > 1048576) = Bool.false, P13 x0, P14 x0, (g14_0 x0 != g13_0 x0) = Bool.true, Bool.true = Bool.true]) := by kernel_rfl
theorem p3_2 (x0 : ByteArray) : runF tab ext3 false 28 [] 2000 [] tys3 Tryd.f3.results [false, false, true] [.code b3] (entE 0 0 sig3 (x0, ())) (entL sig3 (x0, ())) = some ([Dyn.mk Ty.bool Bool.false], [], [Decidable.decide ((↑(ByteArray.size x0) : Int) > 1048576) = Bool.false, P13 x0, P14 x0, (g14_0 x0 != g13_0 x0) = Bool.false, (!g14_1 x0 == g13_1 x0) = Bool.true]) := by kernel_rfl
theorem p3_3 (x0 : ByteArray) : runF tab ext3 false 28 [] 2000 [] tys3 Tryd.f3.results [false, false, false] [.code b3] (entE 0 0 sig3 (x0, ())) (entL sig3 (x0, ())) = some ([Dyn.mk Ty.bool Bool.true], [], [Decidable.decide ((↑(ByteArray.size x0) : Int) > 1048576) = Bool.false, P13 x0, P14 x0, (g14_0 x0 != g13_0 x0) = Bool.false, (!g14_1 x0 == g13_1 x0) = Bool.false]) := by kernel_rfl
theorem at3 (x0 : ByteArray) (h : P3 x0) (w0 : World) (O : List Nat) (q : Nat → Value) : AtV Tryd.prog 3 (PostR [⟨Ty.bool, g3_0 x0⟩] [] [] q w0 O) 28 w0 O q [] [.code b3] (entE 0 0 sig3 (x0, ())) (entL sig3 (x0, ())) := by
  unfold P3 at h
  unfold g3_0
  by_cases b0 : (Decidable.decide ((↑(ByteArray.size x0) : Int) > 1048576)) = true
  · try simp only [if_pos b0] at h ⊢
    exact AtV.fin Tryd.func3 tabOk ext3Ok mixed (p3_0 x0) ⟨b0, trivial⟩
  · try simp only [if_neg b0] at h ⊢
    replace b0 := Bool.eq_false_iff.2 b0
    obtain ⟨s0, h⟩ := h
    obtain ⟨s1, h⟩ := h
    by_cases b1 : (g14_0 x0 != g13_0 x0) = true
    · try simp only [if_pos b1] at h ⊢
      exact AtV.fin Tryd.func3 tabOk ext3Ok mixed (p3_1 x0) ⟨b0, s0, s1, b1, rfl, trivial⟩
    · try simp only [if_neg b1] at h ⊢
      replace b1 := Bool.eq_false_iff.2 b1
      by_cases b2 : (!g14_1 x0 == g13_1 x0) = true
      · try simp only [if_pos b2] at h ⊢
        exact AtV.fin Tryd.func3 tabOk ext3Ok mixed (p3_2 x0) ⟨b0, s0, s1, b1, b2, trivial⟩
      · try simp only [if_neg b2] at h ⊢
        replace b2 := Bool.eq_false_iff.2 b2
        exact AtV.fin Tryd.func3 tabOk ext3Ok mixed (p3_3 x0) ⟨b0, s0, s1, b1, b2, trivial⟩

def S3 : Am.Spec := { sig := sig3, pre := fun ⟨x0, _⟩ => P3 x0, res := fun ⟨x0, _⟩ => [⟨Ty.bool, g3_0 x0⟩] }
theorem con3 : Contract Tryd.prog 3 S3 := contract_of Tryd.func3 hb3 (Nat.le_of_ble_eq_true (by kernel_rfl)) (fun ⟨x0, _⟩ h _ w0 O q => at3 x0 h w0 O q)


end Go.Proofs.YtakodkjcmacofaaDoor

/- A law that says how functions of the program and of the specification hang together. -/
set_option linter.unusedVariables false
set_option linter.unusedSimpArgs false
set_option maxRecDepth 100000
namespace Go.Proofs.YtakodkjcmacofaaDoor
open Go Go.Am Go.Proofs

/-- The sign of a digit. -/
def D10 (a : Nat) : UInt8 := UInt8.ofNat (48 + a)
theorem D10_nat {a : Nat} (h : a < 10) : (D10 a).toNat = 48 + a := by unfold D10; rw [UInt8.toNat_ofNat']; omega
theorem D10_of {b : UInt8} (h : 48 ≤ b.toNat ∧ b.toNat ≤ 57) : b = D10 (b.toNat - 48) := by
  rw [← UInt8.toNat_inj, D10_nat (by omega)]; omega
theorem D10_inj {a b : Nat} (ha : a < 10) (hb : b < 10) (h : D10 a = D10 b) : a = b := by
  have := congrArg UInt8.toNat h
  rw [D10_nat ha, D10_nat hb] at this
  omega

theorem num_one {n : Nat} (h : n < 10) : numB (n : Int) = ⟨⟨[D10 n]⟩⟩ := by
  unfold numB Lib.itoa
  rw [if_neg (by omega), Int.toNat_natCast, Lib.decDigits_one h]
  rfl
theorem num_two {n : Nat} (h1 : 10 ≤ n) (h : n < 100) : numB (n : Int) = ⟨⟨[D10 (n / 10), D10 (n % 10)]⟩⟩ := by
  unfold numB Lib.itoa
  rw [if_neg (by omega), Int.toNat_natCast, Lib.decDigits_two (by omega) h]
  rfl

theorem pad_two {n : Nat} (h : n < 100) : P103 (n : Int) 2 ∧ g103_0 (n : Int) 2 = ⟨⟨[D10 (n / 10), D10 (n % 10)]⟩⟩ := by
  unfold P103 g103_0
  have e : g94_0 (n : Int) = numB (n : Int) := rfl
  rw [e]
  by_cases h1 : n < 10
  · rw [num_one h1]
    have e0 : n / 10 = 0 := by omega
    have e1 : n % 10 = n := by omega
    rw [e0, e1]
    have e2 : (ByteArray.mk (Array.mk [D10 n])).size = 1 := rfl
    rw [e2]
    exact ⟨⟨⟨rfl, trivial⟩, by rw [i64_iff]; decide, ⟨by decide, by decide⟩, by show 1 + 1 ≤ _; decide, trivial⟩, rfl⟩
  · rw [num_two (by omega) h]
    have e2 : (ByteArray.mk (Array.mk [D10 (n / 10), D10 (n % 10)])).size = 2 := rfl
    rw [e2]
    exact ⟨⟨⟨rfl, trivial⟩, by rw [i64_iff]; decide, ⟨by decide, by decide⟩, by show 0 + 2 ≤ _; decide, trivial⟩, rfl⟩

theorem num_bound : ∀ (l : List UInt8) (m i : Nat), m < 10 ^ i → i + l.length ≤ 12 → -1 ≤ num65 l (m : Int) ∧ num65 l (m : Int) < 1000000000000
  | [], m, i, h, hi => by
    have hp : 10 ^ i ≤ 10 ^ 12 := Nat.pow_le_pow_right (by decide) (by simp at hi; omega)
    have : m < 1000000000000 := Nat.lt_of_lt_of_le h hp
    show -1 ≤ (m : Int) ∧ (m : Int) < 1000000000000
    omega
  | b :: r, m, i, h, hi => by
    unfold num65
    split
    · rename_i hd
      have hd' : 48 ≤ b.toNat ∧ b.toNat ≤ 57 := by simpa using hd
      have e1 : 10 * (m : Int) + ((b.toNat : Int) - 48) = ((10 * m + (b.toNat - 48) : Nat) : Int) := by omega
      rw [e1]
      exact num_bound r _ (i + 1) (by rw [Nat.pow_succ]; omega) (by simp at hi; omega)
    · omega

theorem number_bound (x : ByteArray) : -1 ≤ g65_0 x ∧ g65_0 x < 1000000000000 := by
  unfold g65_0
  split
  · omega
  · rename_i h
    have : x.data.toList.length = x.size := rfl
    exact num_bound x.data.toList 0 0 (by decide) (by omega)

theorem number_two {a b : Nat} (ha : a < 10) (hb : b < 10) : g65_0 ⟨⟨[D10 a, D10 b]⟩⟩ = ((10 * a + b : Nat) : Int) := by
  unfold g65_0
  rw [if_neg (by show ¬ (2 < 1 ∨ 12 < 2); omega)]
  show num65 [D10 a, D10 b] 0 = _
  simp only [num65, D10_nat ha, D10_nat hb, decide_eq_true_eq, Bool.and_eq_true]
  rw [if_pos (by omega), if_pos (by omega)]
  omega

theorem digits_two {a b : Nat} (ha : a < 10) (hb : b < 10) : g63_0 ⟨⟨[D10 a, D10 b]⟩⟩ = ((10 * a + b : Nat) : Int) ∧ g63_1 ⟨⟨[D10 a, D10 b]⟩⟩ = true := by
  unfold g63_0 g63_1
  show (dig63 [D10 a, D10 b] 0).1 = _ ∧ (dig63 [D10 a, D10 b] 0).2 = _
  simp only [dig63, d63, D10_nat ha, D10_nat hb, decide_eq_true_eq, Bool.and_eq_true]
  rw [if_pos (by omega), if_pos (by omega)]
  exact ⟨by simp only; omega, rfl⟩

theorem digits_all : ∀ (l : List UInt8) (n : Int), (dig63 l n).2 = true → ∀ b ∈ l, 48 ≤ b.toNat ∧ b.toNat ≤ 57
  | [], _, _, b, hb => by cases hb
  | c :: r, n, h, b, hb => by
    unfold dig63 at h
    split at h
    · rename_i hd
      rcases List.mem_cons.1 hb with rfl | hb
      · unfold d63 at hd; simpa using hd
      · exact digits_all r _ h b hb
    · cases h

/-- The text of a time of day. -/
def clk (h m : Nat) : ByteArray := ⟨⟨[D10 (h / 10), D10 (h % 10), 58, D10 (m / 10), D10 (m % 10)]⟩⟩

theorem clk_inj {h m h' m' : Nat} (h1 : h < 100) (h2 : m < 100) (h3 : h' < 100) (h4 : m' < 100) (e : clk h m = clk h' m') : h = h' ∧ m = m' := by
  unfold clk at e
  simp only [ByteArray.mk.injEq, Array.mk.injEq, List.cons.injEq, and_true, true_and] at e
  obtain ⟨e1, e2, e3, e4⟩ := e
  have := D10_inj (by omega) (by omega) e1
  have := D10_inj (by omega) (by omega) e2
  have := D10_inj (by omega) (by omega) e3
  have := D10_inj (by omega) (by omega) e4
  omega

theorem clock_text {k : Nat} (h : k ≤ 1439) : g38_0 (k : Int) = clk (k / 60) (k % 60) := by
  unfold g38_0 g102_0
  have e1 : Int.tdiv (k : Int) 60 = ((k / 60 : Nat) : Int) := rfl
  have e2 : Int.tmod (k : Int) 60 = ((k % 60 : Nat) : Int) := rfl
  rw [e1, e2, (pad_two (n := k / 60) (by omega)).2, (pad_two (n := k % 60) (by omega)).2]
  have c1 : (k : Int) ≥ 0 := by omega
  have c2 : (k : Int) ≤ 1439 := by omega
  simp only [c1, c2, decide_true, if_true, Bool.not_true, Bool.false_eq_true, if_false]
  rfl

theorem clock_pre (n : Int) : P38 n := by
  unfold P38
  split
  · trivial
  · rename_i hw
    have hw' : 0 ≤ n ∧ n ≤ 1439 := by
      unfold g102_0 at hw
      by_cases c1 : n ≥ 0
      · by_cases c2 : n ≤ 1439
        · exact ⟨c1, c2⟩
        · simp [c1, c2] at hw
      · simp [c1] at hw
    obtain ⟨k, rfl⟩ : ∃ k : Nat, n = (k : Int) := Int.eq_ofNat_of_zero_le hw'.1
    have e1 : Int.tdiv (k : Int) 60 = ((k / 60 : Nat) : Int) := rfl
    have e2 : Int.tmod (k : Int) 60 = ((k % 60 : Nat) : Int) := rfl
    obtain ⟨p1, q1⟩ := pad_two (n := k / 60) (by omega)
    obtain ⟨p2, q2⟩ := pad_two (n := k % 60) (by omega)
    rw [e1, e2, q1, q2]
    refine ⟨by rw [i64_iff]; omega, p1, ?_, by rw [i64_iff]; omega, p2, ?_, trivial⟩
    · show 2 + 1 ≤ _; decide
    · show 3 + 2 ≤ _; decide

theorem clk_cut {h m : Nat} (h1 : h < 100) (h2 : m < 100) : g64_0 (clk h m) (ByteArray.mk #[58]) = ⟨⟨[D10 (h / 10), D10 (h % 10)]⟩⟩ ∧ g64_1 (clk h m) (ByteArray.mk #[58]) = ⟨⟨[D10 (m / 10), D10 (m % 10)]⟩⟩ := by
  have hn : (58 : UInt8) ∉ [D10 (h / 10), D10 (h % 10)] := fun hm => by
    simp only [List.mem_cons, List.mem_nil_iff, or_false] at hm
    rcases hm with e | e <;> (have := congrArg UInt8.toNat e; rw [D10_nat (by omega)] at this; have e58 : (58 : UInt8).toNat = 58 := rfl; omega)
  have hc : Lib.cut (clk h m).data.toList (ByteArray.mk #[58]).data.toList = ([D10 (h / 10), D10 (h % 10)], [D10 (m / 10), D10 (m % 10)], true) := cut_hit 58 _ hn
  unfold g64_0 g64_1
  rw [hc]
  exact ⟨rfl, rfl⟩

theorem clock_i1 {h m : Nat} (h1 : h ≤ 23) (h2 : m ≤ 59) : g14_0 (clk h m) = ((60 * h + m : Nat) : Int) ∧ g14_1 (clk h m) = true := by
  obtain ⟨c1, c2⟩ := clk_cut (h := h) (m := m) (by omega) (by omega)
  unfold g14_0 g14_1
  rw [c1, c2, number_two (by omega) (by omega), number_two (by omega) (by omega)]
  have e : 60 * ((10 * (h / 10) + h % 10 : Nat) : Int) + ((10 * (m / 10) + m % 10 : Nat) : Int) = ((60 * h + m : Nat) : Int) := by omega
  have e3 : (60 * h + m) / 60 = h := by omega
  have e4 : (60 * h + m) % 60 = m := by omega
  rw [e, clock_text (by omega), e3, e4]
  have ne : ¬ (ByteArray.toList (clk h m) == ByteArray.toList (ByteArray.mk #[])) = true := by
    rw [bytes_eq]
    intro hh
    have := congrArg ByteArray.size hh
    exact absurd (show (5 : Nat) = 0 from this) (by decide)
  rw [if_neg ne, if_neg ne]
  simp

theorem clock_i2 {x : ByteArray} (hx : g14_1 x = true) : ∃ h m : Nat, h ≤ 23 ∧ m ≤ 59 ∧ x = clk h m := by
  unfold g14_1 at hx
  generalize 60 * g65_0 (g64_0 x (ByteArray.mk #[58])) + g65_0 (g64_1 x (ByteArray.mk #[58])) = n at hx
  split at hx
  · cases hx
  · rename_i h0
    split at hx
    · cases hx
    · rename_i h1
      rw [bytes_eq] at h0
      have h1' : g38_0 n = x := by
        rw [← bytes_eq]; simpa using h1
      by_cases hw : 0 ≤ n ∧ n ≤ 1439
      · obtain ⟨k, rfl⟩ : ∃ k : Nat, n = (k : Int) := Int.eq_ofNat_of_zero_le hw.1
        exact ⟨k / 60, k % 60, by omega, by omega, by rw [← h1', clock_text (by omega)]⟩
      · exfalso
        apply h0
        rw [← h1']
        unfold g38_0 g102_0
        by_cases c1 : n ≥ 0
        · have c2 : ¬ n ≤ 1439 := by omega
          simp [c1, c2]
        · simp [c1]

theorem clock_i3 {x : ByteArray} (hx : g14_1 x = false) : g14_0 x = 0 := by
  unfold g14_1 at hx
  unfold g14_0
  split at hx
  · rename_i h; rw [if_pos h]
  · rename_i h
    rw [if_neg h]
    split at hx
    · rename_i h; rw [if_pos h]
    · cases hx

theorem clock_ip {x : ByteArray} (h : x.size ≤ 1048576) : P14 x := by
  unfold P14
  have b1 := number_bound (g64_0 x (ByteArray.mk #[58]))
  have b2 := number_bound (g64_1 x (ByteArray.mk #[58]))
  refine ⟨(show x.size < 4294967281 from by omega), by rw [i64_iff]; omega, by rw [i64_iff]; omega, ?_⟩
  split
  · trivial
  · exact ⟨clock_pre _, trivial⟩

end Go.Proofs.YtakodkjcmacofaaDoor

/- A law that says how functions of the program and of the specification hang together. -/
set_option linter.unusedVariables false
set_option linter.unusedSimpArgs false
set_option maxRecDepth 100000
namespace Go.Proofs.YtakodkjcmacofaaDoor
open Go Go.Am Go.Proofs

theorem clk_ex {h m : Nat} : ByteArray.extract (clk h m) 0 2 = ⟨⟨[D10 (h / 10), D10 (h % 10)]⟩⟩ ∧ ByteArray.extract (clk h m) 3 (Int.toNat (((clk h m).size : Nat) : Int)) = ⟨⟨[D10 (m / 10), D10 (m % 10)]⟩⟩ :=
  ⟨Lib.extract_mk [D10 (h / 10), D10 (h % 10), 58, D10 (m / 10), D10 (m % 10)] 0 2, Lib.extract_mk [D10 (h / 10), D10 (h % 10), 58, D10 (m / 10), D10 (m % 10)] 3 5⟩

theorem clock_s1 {h m : Nat} (h1 : h ≤ 23) (h2 : m ≤ 59) : g13_0 (clk h m) = ((60 * h + m : Nat) : Int) ∧ g13_1 (clk h m) = true := by
  obtain ⟨c1, c2⟩ := clk_ex (h := h) (m := m)
  obtain ⟨d1, d2⟩ := digits_two (a := h / 10) (b := h % 10) (by omega) (by omega)
  obtain ⟨d3, d4⟩ := digits_two (a := m / 10) (b := m % 10) (by omega) (by omega)
  unfold g13_0 g13_1
  rw [c1, c2, d1, d2, d3, d4]
  have e0 : (((clk h m).size : Int) != 5) = false := rfl
  have e1 : (((List.getD (Array.toList (ByteArray.data (clk h m))) 2 0).toNat : Int) != 58) = false := rfl
  have e2 : ¬ ((10 * (h / 10) + h % 10 : Nat) : Int) > 23 := by omega
  have e3 : ¬ ((10 * (m / 10) + m % 10 : Nat) : Int) > 59 := by omega
  simp only [e0, e1, e2, e3, Bool.not_true, Bool.false_eq_true, if_false, decide_false, and_true]
  omega

theorem five : ∀ {l : List UInt8}, l.length = 5 → ∃ a b c d e, l = [a, b, c, d, e]
  | [a, b, c, d, e], _ => ⟨a, b, c, d, e, rfl⟩

theorem clock_s2 {x : ByteArray} (hx : g13_1 x = true) : ∃ h m : Nat, h ≤ 23 ∧ m ≤ 59 ∧ x = clk h m := by
  obtain ⟨⟨l⟩⟩ := x
  unfold g13_1 at hx
  by_cases h5 : l.length = 5
  · obtain ⟨a, b, c, d, e, rfl⟩ := five h5
    have x1 : ByteArray.extract ⟨⟨[a, b, c, d, e]⟩⟩ 0 2 = ⟨⟨[a, b]⟩⟩ := Lib.extract_mk [a, b, c, d, e] 0 2
    have x2 : ByteArray.extract ⟨⟨[a, b, c, d, e]⟩⟩ 3 (Int.toNat (((ByteArray.mk ⟨[a, b, c, d, e]⟩).size : Nat) : Int)) = ⟨⟨[d, e]⟩⟩ := Lib.extract_mk [a, b, c, d, e] 3 5
    rw [x1, x2] at hx
    split at hx
    · cases hx
    · split at hx
      · cases hx
      · rename_i hc
        have hc' : c = 58 := by
          rw [← UInt8.toNat_inj]
          have : ((c.toNat : Nat) : Int) = 58 := by simpa using hc
          have e58 : (58 : UInt8).toNat = 58 := rfl
          omega
        split at hx
        · cases hx
        · rename_i g1
          split at hx
          · cases hx
          · rename_i g2
            split at hx
            · cases hx
            · rename_i l1
              split at hx
              · cases hx
              · rename_i l2
                have g1' : g63_1 ⟨⟨[a, b]⟩⟩ = true := by simpa using g1
                have g2' : g63_1 ⟨⟨[d, e]⟩⟩ = true := by simpa using g2
                have a1 := digits_all [a, b] 0 g1'
                have a2 := digits_all [d, e] 0 g2'
                have ha := a1 a (by simp)
                have hb := a1 b (by simp)
                have hd := a2 d (by simp)
                have he := a2 e (by simp)
                obtain ⟨a, la, rfl⟩ : ∃ a' : Nat, a' < 10 ∧ a = D10 a' := ⟨a.toNat - 48, by omega, D10_of ha⟩
                obtain ⟨b, lb, rfl⟩ : ∃ a' : Nat, a' < 10 ∧ b = D10 a' := ⟨b.toNat - 48, by omega, D10_of hb⟩
                obtain ⟨d, ld, rfl⟩ : ∃ a' : Nat, a' < 10 ∧ d = D10 a' := ⟨d.toNat - 48, by omega, D10_of hd⟩
                obtain ⟨e, le, rfl⟩ : ∃ a' : Nat, a' < 10 ∧ e = D10 a' := ⟨e.toNat - 48, by omega, D10_of he⟩
                rw [(digits_two la lb).1] at l1
                rw [(digits_two ld le).1] at l2
                simp only [decide_eq_true_eq] at l1 l2
                refine ⟨10 * a + b, 10 * d + e, by omega, by omega, ?_⟩
                unfold clk
                rw [show (10 * a + b) / 10 = a by omega, show (10 * a + b) % 10 = b by omega, show (10 * d + e) / 10 = d by omega, show (10 * d + e) % 10 = e by omega, hc']
  · rw [if_pos (by
      have : (ByteArray.mk ⟨l⟩).size = l.length := rfl
      rw [this]
      have : (l.length : Int) ≠ 5 := by omega
      simpa using this)] at hx
    cases hx

theorem clock_s3 {x : ByteArray} (hx : g13_1 x = false) : g13_0 x = 0 := by
  unfold g13_1 at hx
  unfold g13_0
  split at hx
  · rename_i h; rw [if_pos h]
  · rename_i h
    rw [if_neg h]
    split at hx
    · rename_i h; rw [if_pos h]
    · rename_i h
      rw [if_neg h]
      split at hx
      · rename_i h; rw [if_pos h]
      · rename_i h
        rw [if_neg h]
        split at hx
        · rename_i h; rw [if_pos h]
        · rename_i h
          rw [if_neg h]
          split at hx
          · rename_i h; rw [if_pos h]
          · rename_i h
            rw [if_neg h]
            split at hx
            · rename_i h; rw [if_pos h]
            · cases hx

theorem dig_nonneg : ∀ (l : List UInt8) (n : Int), 0 ≤ n → 0 ≤ (dig63 l n).1
  | [], _, h => h
  | c :: r, n, h => by
    unfold dig63
    split
    · rename_i hd
      have hd' : 48 ≤ c.toNat ∧ c.toNat ≤ 57 := by unfold d63 at hd; simpa using hd
      exact dig_nonneg r _ (by omega)
    · exact Int.le_refl _

theorem digits_nonneg (x : ByteArray) : 0 ≤ g63_0 x := dig_nonneg _ 0 (Int.le_refl _)

theorem clock_sp (x : ByteArray) : P13 x := by
  unfold P13
  split
  · trivial
  · rename_i h
    have h5 : x.size = 5 := by
      have : (x.size : Int) = 5 := by simpa using h
      omega
    have s1 : (ByteArray.extract x 0 2).size ≤ 5 := by
      rw [ByteArray.size_extract]; omega
    have s2 : (ByteArray.extract x 3 (Int.toNat (x.size : Int))).size ≤ 5 := by
      rw [ByteArray.size_extract]; omega
    refine ⟨by omega, ?_⟩
    split
    · trivial
    · refine ⟨by omega, (show (ByteArray.extract x 0 2).size ≤ 18 from by omega), by omega, (show (ByteArray.extract x 3 (Int.toNat (x.size : Int))).size ≤ 18 from by omega), ?_⟩
      split
      · trivial
      · split
        · trivial
        · split
          · trivial
          · rename_i l1
            split
            · trivial
            · rename_i l2
              simp only [decide_eq_true_eq] at l1 l2
              have n1 := digits_nonneg (ByteArray.extract x 0 2)
              have n2 := digits_nonneg (ByteArray.extract x 3 (Int.toNat (x.size : Int)))
              exact ⟨by rw [i64_iff]; omega, by rw [i64_iff]; omega, trivial⟩

theorem read_clock (x : ByteArray) (h : x.size ≤ 1048576) : P13 x ∧ P14 x ∧ g14_0 x = g13_0 x ∧ g14_1 x = g13_1 x := by
  refine ⟨clock_sp x, clock_ip h, ?_⟩
  cases hs : g13_1 x with
  | true =>
    obtain ⟨a, b, ha, hb, rfl⟩ := clock_s2 hs
    obtain ⟨i0, i1⟩ := clock_i1 ha hb
    obtain ⟨s0, s1⟩ := clock_s1 ha hb
    rw [i0, s0]
    exact ⟨rfl, i1⟩
  | false =>
    cases hi : g14_1 x with
    | true =>
      obtain ⟨a, b, ha, hb, rfl⟩ := clock_i2 hi
      rw [(clock_s1 ha hb).2] at hs
      cases hs
    | false => exact ⟨(clock_i3 hi).trans (clock_s3 hs).symm, rfl⟩

end Go.Proofs.YtakodkjcmacofaaDoor

/- The plain law of FnExactReadClock. -/
set_option linter.unusedVariables false
set_option linter.unusedSimpArgs false
set_option maxRecDepth 100000
namespace Go.Proofs.YtakodkjcmacofaaDoor
open Go Go.Am Go.Proofs

theorem law3 (x : ByteArray) (hw : Wf .str x) : P3 x ∧ g3_0 x = true := by
  unfold P3 g3_0
  by_cases h : (x.size : Int) > 1048576
  · simp only [h, decide_true, if_true, and_self]
  · obtain ⟨p1, p2, e0, e1⟩ := read_clock x (by omega)
    simp only [h, decide_false, Bool.false_eq_true, if_false, e0, e1, p1, p2, bne_self_eq_false, beq_self_eq_true, Bool.not_true, true_and, and_self]

end Go.Proofs.YtakodkjcmacofaaDoor
