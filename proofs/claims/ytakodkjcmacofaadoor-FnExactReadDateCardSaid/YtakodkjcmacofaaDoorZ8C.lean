/- Several texts in one: the functions that this law reaches, and their laws. -/
import Derived.Test.YtakodkjcmacofaaDoorZ8A
import Derived.Test.YtakodkjcmacofaaDoorZ8B
import Derived.Test.YtakodkjcmacofaaDoorRows
import Derived.KernelRfl
import Derived.Shelf.Vars
import Derived.Shelf.Strings.Builder1
import Derived.Shelf.Strings.Builder2
import Derived.Shelf.Strings.OnBuilder
import Derived.Shelf.Strings.BuilderF
import Derived.Shelf.Strings.BuilderK
import Derived.Shelf.Utf8.RuneCount
import Derived.Shelf.Strconv.Itoa0
import Derived.Shelf.Strconv.Itoa1
import Derived.Shelf.LaysM
import Derived.Shelf.Strconv.Itoa2
import Derived.Shelf.Strconv.Itoa3
import Derived.Shelf.Strconv.Itoa4
import Derived.Shelf.Strings.Search1
import Derived.Shelf.Strings.Search2
import Derived.Shelf.Strings.Search3
import Derived.Shelf.Strings.Cut
import Derived.Shelf.Strings.Count
import Derived.Shelf.Strings.Shaped
import Derived.Shelf.Strings.Prefix
import Derived.Shelf.Strings.Split
import Derived.Shelf.Strings.SplitShaped
import Derived.Shelf.Unicode.Decode
import Derived.Shelf.Strings.RuneCount
import Derived.Shelf.Strings.Explode
import Derived.Shelf.Bits.Mul64
import Derived.Shelf.Strings.Repeat
import Derived.Shelf.Unicode.DecodeSlow
import Derived.Shelf.Unicode.DecodeAny
import Derived.Lib.ItoaNum

/- The types of this program, as the abstract machine reads them. -/
set_option linter.unusedVariables false
set_option linter.unusedSimpArgs false
set_option maxRecDepth 100000
namespace Go.Proofs.YtakodkjcmacofaaDoor
open Go Go.Am Go.Proofs
def tab : List TI := [TI.other,
  TI.other,
  TI.scal (Ty.int IntKind.i64),
  TI.scal (Ty.int IntKind.i64),
  TI.scal (Ty.bool),
  TI.scal (Ty.int IntKind.u8),
  TI.scal (Ty.int IntKind.u8),
  TI.struct (Ty.cons (Ty.int IntKind.i64) (Ty.cons (Ty.int IntKind.i64) (Ty.cons Ty.bool (Ty.cons (Ty.int IntKind.u8) Ty.unit)))),
  TI.struct (Ty.cons (Ty.int IntKind.i64) (Ty.cons (Ty.int IntKind.i64) (Ty.cons Ty.bool (Ty.cons (Ty.int IntKind.u8) Ty.unit)))),
  TI.scal (Ty.str),
  TI.scal (Ty.str),
  TI.scal (Ty.str),
  TI.scal (Ty.int IntKind.u64),
  TI.other,
  TI.other,
  TI.other,
  TI.other,
  TI.other,
  TI.other,
  TI.other,
  TI.other,
  TI.scal (Ty.int IntKind.i32),
  TI.other,
  TI.other,
  TI.other,
  TI.slice 73 (Ty.cons Ty.str (Ty.cons (Ty.int IntKind.i64) (Ty.cons (Ty.int IntKind.i64) (Ty.cons (Ty.int IntKind.i64) (Ty.cons (Ty.int IntKind.i64) Ty.unit))))) 48,
  TI.other,
  TI.slice 79 (Ty.cons Ty.str (Ty.cons Ty.str (Ty.cons Ty.str Ty.unit))) 48,
  TI.other,
  TI.other,
  TI.slice 75 (Ty.cons Ty.str (Ty.cons (Ty.int IntKind.i64) (Ty.cons (Ty.int IntKind.i64) (Ty.cons (Ty.int IntKind.i64) (Ty.cons (Ty.int IntKind.i64) Ty.unit))))) 48,
  TI.other,
  TI.other,
  TI.other,
  TI.other,
  TI.other,
  TI.other,
  TI.other,
  TI.other,
  TI.slice 89 (Ty.cons Ty.str (Ty.cons Ty.str (Ty.cons Ty.str Ty.unit))) 48,
  TI.other,
  TI.other,
  TI.other,
  TI.other,
  TI.other,
  TI.slice 5 (Ty.int IntKind.u8) 1,
  TI.other,
  TI.other,
  TI.other,
  TI.other,
  TI.other,
  TI.other,
  TI.other,
  TI.other,
  TI.other,
  TI.other,
  TI.other,
  TI.other,
  TI.other,
  TI.other,
  TI.slice 2 (Ty.int IntKind.i64) 8,
  TI.other,
  TI.other,
  TI.other,
  TI.other,
  TI.other,
  TI.other,
  TI.slice 9 (Ty.str) 16,
  TI.other,
  TI.other,
  TI.other,
  TI.other,
  TI.struct (Ty.cons Ty.str (Ty.cons (Ty.int IntKind.i64) (Ty.cons (Ty.int IntKind.i64) (Ty.cons (Ty.int IntKind.i64) (Ty.cons (Ty.int IntKind.i64) Ty.unit))))),
  TI.struct (Ty.cons Ty.str (Ty.cons (Ty.int IntKind.i64) (Ty.cons (Ty.int IntKind.i64) (Ty.cons (Ty.int IntKind.i64) (Ty.cons (Ty.int IntKind.i64) Ty.unit))))),
  TI.other,
  TI.struct (Ty.cons Ty.str (Ty.cons (Ty.int IntKind.i64) (Ty.cons (Ty.int IntKind.i64) (Ty.cons (Ty.int IntKind.i64) (Ty.cons (Ty.int IntKind.i64) Ty.unit))))),
  TI.other,
  TI.other,
  TI.struct (Ty.cons Ty.str (Ty.cons Ty.str (Ty.cons Ty.str Ty.unit))),
  TI.struct (Ty.cons Ty.str (Ty.cons Ty.str (Ty.cons Ty.str Ty.unit))),
  TI.other,
  TI.other,
  TI.other,
  TI.other,
  TI.other,
  TI.other,
  TI.other,
  TI.other,
  TI.other,
  TI.struct (Ty.cons Ty.str (Ty.cons Ty.str (Ty.cons Ty.str Ty.unit))),
  TI.other,
  TI.other,
  TI.other,
  TI.other,
  TI.other,
  TI.other,
  TI.other,
  TI.other,
  TI.other,
  TI.other,
  TI.other,
  TI.other,
  TI.other,
  TI.other,
  TI.other,
  TI.other,
  TI.other,
  TI.other,
  TI.other,
  TI.other,
  TI.other,
  TI.other,
  TI.other,
  TI.other,
  TI.other,
  TI.other,
  TI.other,
  TI.other,
  TI.other,
  TI.other,
  TI.other,
  TI.other,
  TI.other,
  TI.other,
  TI.other,
  TI.other,
  TI.other,
  TI.other,
  TI.other,
  TI.other,
  TI.other,
  TI.other,
  TI.other,
  TI.other,
  TI.scal (Ty.int IntKind.u64),
  TI.struct (Ty.cons (Ty.sl (Ty.int IntKind.u8)) (Ty.cons (Ty.int IntKind.i64) (Ty.cons (Ty.int IntKind.u64) Ty.unit))),
  TI.struct (Ty.cons (Ty.sl (Ty.int IntKind.u8)) (Ty.cons (Ty.int IntKind.i64) (Ty.cons (Ty.int IntKind.u64) Ty.unit))),
  TI.other,
  TI.other,
  TI.other,
  TI.other,
  TI.other,
  TI.other,
  TI.other,
  TI.other,
  TI.scal (Ty.int IntKind.u64),
  TI.other,
  TI.other,
  TI.other,
  TI.other,
  TI.other,
  TI.other,
  TI.other,
  TI.other,
  TI.other,
  TI.other,
  TI.slice 3 (Ty.int IntKind.i64) 8,
  TI.other,
  TI.other,
  TI.other,
  TI.other,
  TI.other,
  TI.scal (Ty.int IntKind.u32),
  TI.other,
  TI.other,
  TI.other,
  TI.other,
  TI.other,
  TI.other,
  TI.other,
  TI.other,
  TI.other,
  TI.other,
  TI.other,
  TI.other,
  TI.struct (Ty.cons (Ty.int IntKind.u8) (Ty.cons (Ty.int IntKind.u8) Ty.unit)),
  TI.struct (Ty.cons (Ty.int IntKind.u8) (Ty.cons (Ty.int IntKind.u8) Ty.unit)),
  TI.other,
  TI.other,
  TI.other,
  TI.other,
  TI.other,
  TI.other,
  TI.other,
  TI.other,
  TI.other,
  TI.scal (Ty.int IntKind.u8),
  TI.scal (Ty.int IntKind.u8),
  TI.other,
  TI.scal (Ty.int IntKind.i32),
  TI.scal (Ty.int IntKind.i32)]

theorem tabOk : TabOk Tryd.prog tab := tabOk_of_check (by kernel_rfl)
theorem mixed : Tryd.prog.follows .mixedOrders = true := by kernel_rfl
theorem gv0 {W : World} (h : GInv W) : GHas W 0 (.int .i64) := h.1
theorem gcell0 (W : World) (h : W.ShapedOpen Tryd.prog) : ∃ m, W.cell? ⟨0, 0, none⟩ = some (.int .i64 m) :=
  Go.Proofs.cell_of_shapedOpen_int (zero := #[.int .i64 0]) (t := 3) h (of_decide_eq_true (by kernel_rfl)) (by kernel_rfl) rfl (by kernel_rfl) (by kernel_rfl) Tryd.underlying3
theorem gv1 {W : World} (h : GInv W) : GHas W 1 (.tab .u64 Lib.pow10Tab) := h.2.1
theorem maxLenG {W : World} (h : GInv W) : ∃ m, W.cell? ⟨0, 0, none⟩ = some (.int .i64 m) := gv0 h
theorem pow10G {W : World} (h : GInv W) : Lib.TabIs Tryd.prog W "internal/strconv.uint64pow10" .u64 Lib.pow10Tab := GHas.tab (by kernel_rfl) (gv1 h)
theorem ginv (W : World) (h : W.ShapedOpen Tryd.prog) (h1 : GHas W 1 (.tab .u64 Lib.pow10Tab)) : GInv W := ⟨gcell0 W h, h1, trivial⟩
end Go.Proofs.YtakodkjcmacofaaDoor

/- Function 67 (spec.l01Digit): its runs between cut points. Written by a program of this repo (gen). -/
set_option linter.unusedVariables false
set_option linter.unusedSimpArgs false
set_option maxRecDepth 100000
namespace Go.Proofs.YtakodkjcmacofaaDoor
open Go Go.Am Go.Proofs
def ext67 : Ext := []
theorem ext67Ok : ExtOk Tryd.prog ext67 := trivial
/-! Function 67. -/
noncomputable def b67 : Code := bodyOf Tryd.f67
theorem hb67 : Tryd.f67.body = some b67 := by kernel_rfl
def sig67 : List AT := [AT.v (Ty.int IntKind.u8)]
def tys67 : List Ty := [Ty.bool]
def P67 (x0 : Int) : Prop := True
def g67_0 (x0 : Int) : Bool := (if (Decidable.decide (x0 ≥ 48)) = true then Decidable.decide (x0 ≤ 57) else Bool.false)
theorem p67_0 (x0 : Int) : runF tab ext67 false 9 [] 2000 [] tys67 Tryd.f67.results [true] [.code b67] (entE 0 0 sig67 (x0, ())) (entL sig67 (x0, ())) = some ([Dyn.mk Ty.bool (Decidable.decide (x0 ≤ 57))], [], [Decidable.decide (x0 ≥ 48) = Bool.true]) := by kernel_rfl
theorem p67_1 (x0 : Int) : runF tab ext67 false 9 [] 2000 [] tys67 Tryd.f67.results [false] [.code b67] (entE 0 0 sig67 (x0, ())) (entL sig67 (x0, ())) = some ([Dyn.mk Ty.bool Bool.false], [], [Decidable.decide (x0 ≥ 48) = Bool.false]) := by kernel_rfl
theorem at67 (x0 : Int) (h : P67 x0) (w0 : World) (O : List Nat) (q : Nat → Value) : AtV Tryd.prog 67 (PostR [⟨Ty.bool, g67_0 x0⟩] [] [] q w0 O) 9 w0 O q [] [.code b67] (entE 0 0 sig67 (x0, ())) (entL sig67 (x0, ())) := by
  unfold P67 at h
  unfold g67_0
  by_cases b0 : (Decidable.decide (x0 ≥ 48)) = true
  · try simp only [if_pos b0] at h ⊢
    exact AtV.fin Tryd.func67 tabOk ext67Ok mixed (p67_0 x0) ⟨b0, trivial⟩
  · try simp only [if_neg b0] at h ⊢
    replace b0 := Bool.eq_false_iff.2 b0
    exact AtV.fin Tryd.func67 tabOk ext67Ok mixed (p67_1 x0) ⟨b0, trivial⟩

def S67 : Am.Spec := { sig := sig67, pre := fun ⟨x0, _⟩ => P67 x0, res := fun ⟨x0, _⟩ => [⟨Ty.bool, g67_0 x0⟩] }
theorem con67 : Contract Tryd.prog 67 S67 := contract_of Tryd.func67 hb67 (Nat.le_of_ble_eq_true (by kernel_rfl)) (fun ⟨x0, _⟩ h _ w0 O q => at67 x0 h w0 O q)


end Go.Proofs.YtakodkjcmacofaaDoor

/- Function 63 (spec.l02Digits): its runs between cut points. Written by a program of this repo (gen). -/
set_option linter.unusedVariables false
set_option linter.unusedSimpArgs false
set_option maxRecDepth 100000
namespace Go.Proofs.YtakodkjcmacofaaDoor
open Go Go.Am Go.Proofs
def ext63 : Ext := [(67, S67)]
theorem call63_67 : Callable Tryd.prog 67 := ⟨Tryd.f67, Tryd.func67, by kernel_rfl, by kernel_rfl⟩
theorem ext63Ok : ExtOk Tryd.prog ext63 := ⟨⟨call63_67, con67⟩, trivial⟩
/-! Function 63. -/
noncomputable def b63 : Code := bodyOf Tryd.f63
theorem hb63 : Tryd.f63.body = some b63 := by kernel_rfl
def sig63 : List AT := [AT.v (Ty.str)]
def tys63 : List Ty := [Ty.int IntKind.i64, Ty.bool]
def E63_3 (v4 : Int) (v5 : Int) (x0 : ByteArray) : Env := [(0, PV.a (Atom.val (Value.string x0))), (4, PV.a (Atom.val (Value.int IntKind.i64 v4))), (5, PV.a (Atom.val (Value.int IntKind.i64 v5)))]
def L63_3 (v4 : Int) (v5 : Int) (x0 : ByteArray) : Heap := []
mutual
def R63 : Nat → ByteArray → List Dyn → Prop
  | 0, _, _ => False
  | n + 1, x0, ds => (R63_3 n (0) (0) (x0) ds)
def R63_3 : Nat → Int → Int → ByteArray → List Dyn → Prop
  | 0, _, _, _, _ => False
  | n + 1, v4, v5, x0, ds => (if (Decidable.decide (v5 < (↑(ByteArray.size x0) : Int))) = true then ((0 ≤ v5) ∧ (v5 < (↑(ByteArray.size x0) : Int)) ∧ (if (!g67_0 (↑(UInt8.toNat (List.getD (Array.toList (ByteArray.data x0)) (Int.toNat v5) 0)) : Int)) = true then (ds = [Dyn.mk (Ty.int IntKind.i64) 0, Dyn.mk Ty.bool Bool.false]) else ((InR IntKind.i64 (10 * v4)) ∧ ((0 ≤ v5) ∧ (v5 < (↑(ByteArray.size x0) : Int)) ∧ ((InR IntKind.u8 ((↑(UInt8.toNat (List.getD (Array.toList (ByteArray.data x0)) (Int.toNat v5) 0)) : Int) - 48)) ∧ ((InR IntKind.i64 ((↑(UInt8.toNat (List.getD (Array.toList (ByteArray.data x0)) (Int.toNat v5) 0)) : Int) - 48)) ∧ ((InR IntKind.i64 (10 * v4 + ((↑(UInt8.toNat (List.getD (Array.toList (ByteArray.data x0)) (Int.toNat v5) 0)) : Int) - 48))) ∧ ((InR IntKind.i64 (v5 + 1)) ∧ (R63_3 n (10 * v4 + ((↑(UInt8.toNat (List.getD (Array.toList (ByteArray.data x0)) (Int.toNat v5) 0)) : Int) - 48)) (v5 + 1) (x0) ds))))))))) else (ds = [Dyn.mk (Ty.int IntKind.i64) v4, Dyn.mk Ty.bool Bool.true]))
end
theorem p63_0 (x0 : ByteArray) : Am.runN tab ext63 false 26 [] 2000 [] [] [0, 4, 5] [] [] [.code b63] (entE 0 0 sig63 (x0, ())) (entL sig63 (x0, ())) = some (cutAt b63 3, E63_3 (0) (0) (x0), L63_3 (0) (0) (x0), []) := by kernel_rfl
theorem p63_1 (v4 : Int) (v5 : Int) (x0 : ByteArray) : runF tab ext63 false 26 [] 2000 [] tys63 Tryd.f63.results [true, true] (cutAt b63 3) (E63_3 v4 v5 x0) (L63_3 v4 v5 x0) = some ([Dyn.mk (Ty.int IntKind.i64) 0, Dyn.mk Ty.bool Bool.false], [], [Decidable.decide (v5 < (↑(ByteArray.size x0) : Int)) = Bool.true, 0 ≤ v5, v5 < (↑(ByteArray.size x0) : Int), True, (!g67_0 (↑(UInt8.toNat (List.getD (Array.toList (ByteArray.data x0)) (Int.toNat v5) 0)) : Int)) = Bool.true]) := by kernel_rfl
theorem p63_2 (v4 : Int) (v5 : Int) (x0 : ByteArray) : Am.runN tab ext63 false 26 [] 2000 [] [] [0, 4, 5] [] [true, false] (cutAt b63 3) (E63_3 v4 v5 x0) (L63_3 v4 v5 x0) = some (cutAt b63 3, E63_3 (10 * v4 + ((↑(UInt8.toNat (List.getD (Array.toList (ByteArray.data x0)) (Int.toNat v5) 0)) : Int) - 48)) (v5 + 1) (x0), L63_3 (10 * v4 + ((↑(UInt8.toNat (List.getD (Array.toList (ByteArray.data x0)) (Int.toNat v5) 0)) : Int) - 48)) (v5 + 1) (x0), [Decidable.decide (v5 < (↑(ByteArray.size x0) : Int)) = Bool.true, 0 ≤ v5, v5 < (↑(ByteArray.size x0) : Int), True, (!g67_0 (↑(UInt8.toNat (List.getD (Array.toList (ByteArray.data x0)) (Int.toNat v5) 0)) : Int)) = Bool.false, InR IntKind.i64 (10 * v4), 0 ≤ v5, v5 < (↑(ByteArray.size x0) : Int), InR IntKind.u8 ((↑(UInt8.toNat (List.getD (Array.toList (ByteArray.data x0)) (Int.toNat v5) 0)) : Int) - 48), InR IntKind.i64 ((↑(UInt8.toNat (List.getD (Array.toList (ByteArray.data x0)) (Int.toNat v5) 0)) : Int) - 48), InR IntKind.i64 (10 * v4 + ((↑(UInt8.toNat (List.getD (Array.toList (ByteArray.data x0)) (Int.toNat v5) 0)) : Int) - 48)), InR IntKind.i64 (v5 + 1)]) := by kernel_rfl
theorem p63_3 (v4 : Int) (v5 : Int) (x0 : ByteArray) : runF tab ext63 false 26 [] 2000 [] tys63 Tryd.f63.results [false] (cutAt b63 3) (E63_3 v4 v5 x0) (L63_3 v4 v5 x0) = some ([Dyn.mk (Ty.int IntKind.i64) v4, Dyn.mk Ty.bool Bool.true], [], [Decidable.decide (v5 < (↑(ByteArray.size x0) : Int)) = Bool.false]) := by kernel_rfl
theorem snd63 : ∀ n, (∀ (x0 : ByteArray) ds, R63 n x0 ds → ∀ w0 O q, AtV Tryd.prog 63 (PostR ds [] [] q w0 O) 26 w0 O q [] [.code b63] (entE 0 0 sig63 (x0, ())) (entL sig63 (x0, ()))) ∧ (∀ (v4 : Int) (v5 : Int) (x0 : ByteArray) ds, R63_3 n v4 v5 x0 ds → ∀ w0 O q, AtV Tryd.prog 63 (PostR ds [] [] q w0 O) 26 w0 O q [] (cutAt b63 3) (E63_3 v4 v5 x0) (L63_3 v4 v5 x0)) := by
  intro n
  induction n with
  | zero => exact ⟨fun _ _ h => by simp only [R63] at h, fun _ _ _ _ h => by simp only [R63_3] at h⟩
  | succ n ih =>
  obtain ⟨ih, ih3⟩ := ih
  refine ⟨?_, ?_⟩
  · intro x0 ds h w0 O q
    rw [R63] at h
    exact AtV.runN tabOk ext63Ok mixed (p63_0 x0) trivial (ih3 _ _ _ _ h w0 O q)

  · intro v4 v5 x0 ds h w0 O q
    rw [R63_3] at h
    by_cases b0 : (Decidable.decide (v5 < (↑(ByteArray.size x0) : Int))) = true
    · rw [if_pos b0] at h
      obtain ⟨s0, s1, h⟩ := h
      by_cases b1 : (!g67_0 (↑(UInt8.toNat (List.getD (Array.toList (ByteArray.data x0)) (Int.toNat v5) 0)) : Int)) = true
      · rw [if_pos b1] at h
        subst h
        exact AtV.fin Tryd.func63 tabOk ext63Ok mixed (p63_1 v4 v5 x0) ⟨b0, s0, s1, trivial, b1, trivial⟩
      · rw [if_neg b1] at h
        replace b1 := Bool.eq_false_iff.2 b1
        obtain ⟨s2, h⟩ := h
        obtain ⟨s3, s4, h⟩ := h
        obtain ⟨s5, h⟩ := h
        obtain ⟨s6, h⟩ := h
        obtain ⟨s7, h⟩ := h
        obtain ⟨s8, h⟩ := h
        exact AtV.runN tabOk ext63Ok mixed (p63_2 v4 v5 x0) ⟨b0, s0, s1, trivial, b1, s2, s3, s4, s5, s6, s7, s8, trivial⟩ (ih3 _ _ _ _ h w0 O q)
    · rw [if_neg b0] at h
      replace b0 := Bool.eq_false_iff.2 b0
      subst h
      exact AtV.fin Tryd.func63 tabOk ext63Ok mixed (p63_3 v4 v5 x0) ⟨b0, trivial⟩



def d63 (b : UInt8) : Bool := decide (48 ≤ b.toNat) && decide (b.toNat ≤ 57)
def dig63 : List UInt8 → Int → Int × Bool
  | [], n => (n, true)
  | b :: r, n => if d63 b then dig63 r (10 * n + ((b.toNat : Int) - 48)) else (0, false)
def g63_0 (x0 : ByteArray) : Int := (dig63 x0.data.toList 0).1
def g63_1 (x0 : ByteArray) : Bool := (dig63 x0.data.toList 0).2
def P63 (x0 : ByteArray) : Prop := x0.size ≤ 18

theorem run63 (x0 : ByteArray) (hs : x0.size ≤ 18) : ∀ (k i m : Nat), i + k = x0.size → m < 10 ^ i →
    R63_3 (k + 1) (m : Int) (i : Int) x0 [⟨.int .i64, (dig63 (x0.data.toList.drop i) (m : Int)).1⟩, ⟨.bool, (dig63 (x0.data.toList.drop i) (m : Int)).2⟩] := by
  intro k
  have hll : x0.data.toList.length = x0.size := rfl
  induction k with
  | zero =>
    intro i m hi hm
    rw [R63_3, if_neg (by simp; omega), List.drop_of_length_le (by omega)]
    rfl
  | succ k ih =>
    intro i m hi hm
    have hlt : i < x0.data.toList.length := by rw [hll]; omega
    have hcons : x0.data.toList.drop i = x0.data.toList.getD i 0 :: x0.data.toList.drop (i + 1) := drop_get _ i 0 hlt
    rw [R63_3, if_pos (by simp; omega), hcons]
    simp only [Int.toNat_natCast]
    generalize x0.data.toList.getD i 0 = b at *
    refine ⟨by omega, by omega, ?_⟩
    have hg : g67_0 (b.toNat : Int) = d63 b := by
      unfold g67_0 d63
      by_cases h1 : 48 ≤ b.toNat
      · have h1' : (b.toNat : Int) ≥ 48 := by omega
        by_cases h2 : b.toNat ≤ 57
        · have h2' : (b.toNat : Int) ≤ 57 := by omega
          simp [h1, h2, h1', h2']
        · have h2' : ¬ (b.toNat : Int) ≤ 57 := by omega
          simp [h1, h2, h1', h2']
      · have h1' : ¬ (b.toNat : Int) ≥ 48 := by omega
        simp [h1, h1']
    rw [hg]
    unfold dig63
    cases hd : d63 b with
    | false => rfl
    | true =>
      have hd' : 48 ≤ b.toNat ∧ b.toNat ≤ 57 := by unfold d63 at hd; simpa using hd
      have hp : 10 ^ i ≤ 10 ^ 17 := Nat.pow_le_pow_right (by decide) (by omega)
      have hm2 : m < 100000000000000000 := Nat.lt_of_lt_of_le hm hp
      simp only [Bool.not_true, Bool.false_eq_true, if_false, if_true]
      refine ⟨by rw [i64_iff]; omega, by omega, by omega, ?_, by rw [i64_iff]; omega, by rw [i64_iff]; omega, by rw [i64_iff]; omega, ?_⟩
      · rw [u8_iff]; omega
      · have e1 : 10 * (m : Int) + ((b.toNat : Int) - 48) = ((10 * m + (b.toNat - 48) : Nat) : Int) := by omega
        have e2 : (i : Int) + 1 = ((i + 1 : Nat) : Int) := by omega
        rw [e1, e2]
        exact ih (i + 1) (10 * m + (b.toNat - 48)) (by omega) (by rw [Nat.pow_succ]; omega)

theorem top63 (x0 : ByteArray) (h : P63 x0) : R63 (x0.size + 1 + 1) x0 [⟨.int .i64, g63_0 x0⟩, ⟨.bool, g63_1 x0⟩] := by
  rw [R63]
  exact run63 x0 h x0.size 0 0 (by omega) (by decide)

def S63 : Am.Spec := { sig := sig63, pre := fun ⟨x0, _⟩ => P63 x0, res := fun ⟨x0, _⟩ => [⟨.int .i64, g63_0 x0⟩, ⟨.bool, g63_1 x0⟩] }
theorem con63 : Contract Tryd.prog 63 S63 := contract_of Tryd.func63 hb63 (Nat.le_of_ble_eq_true (by kernel_rfl)) (fun ⟨x0, _⟩ h hwf w0 O q =>
  (snd63 _).1 x0 _ (top63 x0 h) w0 O q)

end Go.Proofs.YtakodkjcmacofaaDoor

/- Function 124 (spec.l00In): its runs between cut points. Written by a program of this repo (gen). -/
set_option linter.unusedVariables false
set_option linter.unusedSimpArgs false
set_option maxRecDepth 100000
namespace Go.Proofs.YtakodkjcmacofaaDoor
open Go Go.Am Go.Proofs
def ext124 : Ext := []
theorem ext124Ok : ExtOk Tryd.prog ext124 := trivial
/-! Function 124. -/
noncomputable def b124 : Code := bodyOf Tryd.f124
theorem hb124 : Tryd.f124.body = some b124 := by kernel_rfl
def sig124 : List AT := [AT.v (Ty.int IntKind.i64), AT.v (Ty.int IntKind.i64), AT.v (Ty.int IntKind.i64)]
def tys124 : List Ty := [Ty.bool]
def P124 (x0 : Int) (x1 : Int) (x2 : Int) : Prop := True
def g124_0 (x0 : Int) (x1 : Int) (x2 : Int) : Bool := (if (Decidable.decide (x0 ≥ x1)) = true then Decidable.decide (x0 ≤ x2) else Bool.false)
theorem p124_0 (x0 : Int) (x1 : Int) (x2 : Int) : runF tab ext124 false 15 [] 2000 [] tys124 Tryd.f124.results [true] [.code b124] (entE 0 0 sig124 (x0, x1, x2, ())) (entL sig124 (x0, x1, x2, ())) = some ([Dyn.mk Ty.bool (Decidable.decide (x0 ≤ x2))], [], [Decidable.decide (x0 ≥ x1) = Bool.true]) := by kernel_rfl
theorem p124_1 (x0 : Int) (x1 : Int) (x2 : Int) : runF tab ext124 false 15 [] 2000 [] tys124 Tryd.f124.results [false] [.code b124] (entE 0 0 sig124 (x0, x1, x2, ())) (entL sig124 (x0, x1, x2, ())) = some ([Dyn.mk Ty.bool Bool.false], [], [Decidable.decide (x0 ≥ x1) = Bool.false]) := by kernel_rfl
theorem at124 (x0 : Int) (x1 : Int) (x2 : Int) (h : P124 x0 x1 x2) (w0 : World) (O : List Nat) (q : Nat → Value) : AtV Tryd.prog 124 (PostR [⟨Ty.bool, g124_0 x0 x1 x2⟩] [] [] q w0 O) 15 w0 O q [] [.code b124] (entE 0 0 sig124 (x0, x1, x2, ())) (entL sig124 (x0, x1, x2, ())) := by
  unfold P124 at h
  unfold g124_0
  by_cases b0 : (Decidable.decide (x0 ≥ x1)) = true
  · try simp only [if_pos b0] at h ⊢
    exact AtV.fin Tryd.func124 tabOk ext124Ok mixed (p124_0 x0 x1 x2) ⟨b0, trivial⟩
  · try simp only [if_neg b0] at h ⊢
    replace b0 := Bool.eq_false_iff.2 b0
    exact AtV.fin Tryd.func124 tabOk ext124Ok mixed (p124_1 x0 x1 x2) ⟨b0, trivial⟩

def S124 : Am.Spec := { sig := sig124, pre := fun ⟨x0, x1, x2, _⟩ => P124 x0 x1 x2, res := fun ⟨x0, x1, x2, _⟩ => [⟨Ty.bool, g124_0 x0 x1 x2⟩] }
theorem con124 : Contract Tryd.prog 124 S124 := contract_of Tryd.func124 hb124 (Nat.le_of_ble_eq_true (by kernel_rfl)) (fun ⟨x0, x1, x2, _⟩ h _ w0 O q => at124 x0 x1 x2 h w0 O q)


end Go.Proofs.YtakodkjcmacofaaDoor

/- Function 159 (spec.l02Length): its runs between cut points. Written by a program of this repo (gen). -/
set_option linter.unusedVariables false
set_option linter.unusedSimpArgs false
set_option maxRecDepth 100000
namespace Go.Proofs.YtakodkjcmacofaaDoor
open Go Go.Am Go.Proofs
def ext159 : Ext := []
theorem ext159Ok : ExtOk Tryd.prog ext159 := trivial
/-! Function 159. -/
noncomputable def b159 : Code := bodyOf Tryd.f159
theorem hb159 : Tryd.f159.body = some b159 := by kernel_rfl
def sig159 : List AT := [AT.v (Ty.int IntKind.i64), AT.v (Ty.int IntKind.i64)]
def tys159 : List Ty := [Ty.int IntKind.i64]
def P159 (x0 : Int) (x1 : Int) : Prop := (if (x1 == 2) = true then ((InR IntKind.i64 (Int.tmod x0 4)) ∧ (if (Int.tmod x0 4 == 0) = true then True else ((InR IntKind.i64 (x1 - 1)) ∧ ((0 ≤ x1 - 1) ∧ (x1 - 1 < 12) ∧ True)))) else ((InR IntKind.i64 (x1 - 1)) ∧ ((0 ≤ x1 - 1) ∧ (x1 - 1 < 12) ∧ True)))
def g159_0 (x0 : Int) (x1 : Int) : Int := (if (x1 == 2) = true then (if (Int.tmod x0 4 == 0) = true then 29 else List.getD [31, 28, 31, 30, 31, 30, 31, 31, 30, 31, 30, 31] (Int.toNat (x1 - 1)) 0) else List.getD [31, 28, 31, 30, 31, 30, 31, 31, 30, 31, 30, 31] (Int.toNat (x1 - 1)) 0)
theorem p159_0 (x0 : Int) (x1 : Int) : runF tab ext159 false 19 [] 2000 [] tys159 Tryd.f159.results [true, true] [.code b159] (entE 0 0 sig159 (x0, x1, ())) (entL sig159 (x0, x1, ())) = some ([Dyn.mk (Ty.int IntKind.i64) 29], [], [(x1 == 2) = Bool.true, (4 : Int) ≠ (0 : Int), InR IntKind.i64 (Int.tmod x0 4), (Int.tmod x0 4 == 0) = Bool.true]) := by kernel_rfl
theorem p159_1 (x0 : Int) (x1 : Int) : runF tab ext159 false 19 [] 2000 [] tys159 Tryd.f159.results [true, false] [.code b159] (entE 0 0 sig159 (x0, x1, ())) (entL sig159 (x0, x1, ())) = some ([Dyn.mk (Ty.int IntKind.i64) (List.getD [31, 28, 31, 30, 31, 30, 31, 31, 30, 31, 30, 31] (Int.toNat (x1 - 1)) 0)], [], [(x1 == 2) = Bool.true, (4 : Int) ≠ (0 : Int), InR IntKind.i64 (Int.tmod x0 4), (Int.tmod x0 4 == 0) = Bool.false, InR IntKind.i64 (x1 - 1), 0 ≤ x1 - 1, x1 - 1 < 12]) := by kernel_rfl
theorem p159_2 (x0 : Int) (x1 : Int) : runF tab ext159 false 19 [] 2000 [] tys159 Tryd.f159.results [false, false] [.code b159] (entE 0 0 sig159 (x0, x1, ())) (entL sig159 (x0, x1, ())) = some ([Dyn.mk (Ty.int IntKind.i64) (List.getD [31, 28, 31, 30, 31, 30, 31, 31, 30, 31, 30, 31] (Int.toNat (x1 - 1)) 0)], [], [(x1 == 2) = Bool.false, Bool.false = Bool.false, InR IntKind.i64 (x1 - 1), 0 ≤ x1 - 1, x1 - 1 < 12]) := by kernel_rfl
theorem at159 (x0 : Int) (x1 : Int) (h : P159 x0 x1) (w0 : World) (O : List Nat) (q : Nat → Value) : AtV Tryd.prog 159 (PostR [⟨Ty.int IntKind.i64, g159_0 x0 x1⟩] [] [] q w0 O) 19 w0 O q [] [.code b159] (entE 0 0 sig159 (x0, x1, ())) (entL sig159 (x0, x1, ())) := by
  unfold P159 at h
  unfold g159_0
  by_cases b0 : (x1 == 2) = true
  · try simp only [if_pos b0] at h ⊢
    obtain ⟨s0, h⟩ := h
    by_cases b1 : (Int.tmod x0 4 == 0) = true
    · try simp only [if_pos b1] at h ⊢
      exact AtV.fin Tryd.func159 tabOk ext159Ok mixed (p159_0 x0 x1) ⟨b0, (by decide), s0, b1, trivial⟩
    · try simp only [if_neg b1] at h ⊢
      replace b1 := Bool.eq_false_iff.2 b1
      obtain ⟨s1, h⟩ := h
      obtain ⟨s2, s3, h⟩ := h
      exact AtV.fin Tryd.func159 tabOk ext159Ok mixed (p159_1 x0 x1) ⟨b0, (by decide), s0, b1, s1, s2, s3, trivial⟩
  · try simp only [if_neg b0] at h ⊢
    replace b0 := Bool.eq_false_iff.2 b0
    obtain ⟨s0, h⟩ := h
    obtain ⟨s1, s2, h⟩ := h
    exact AtV.fin Tryd.func159 tabOk ext159Ok mixed (p159_2 x0 x1) ⟨b0, rfl, s0, s1, s2, trivial⟩

def S159 : Am.Spec := { sig := sig159, pre := fun ⟨x0, x1, _⟩ => P159 x0 x1, res := fun ⟨x0, x1, _⟩ => [⟨Ty.int IntKind.i64, g159_0 x0 x1⟩] }
theorem con159 : Contract Tryd.prog 159 S159 := contract_of Tryd.func159 hb159 (Nat.le_of_ble_eq_true (by kernel_rfl)) (fun ⟨x0, x1, _⟩ h _ w0 O q => at159 x0 x1 h w0 O q)


end Go.Proofs.YtakodkjcmacofaaDoor

/- Function 133 (spec.l02Number): its runs between cut points. Written by a program of this repo (gen). -/
set_option linter.unusedVariables false
set_option linter.unusedSimpArgs false
set_option maxRecDepth 100000
namespace Go.Proofs.YtakodkjcmacofaaDoor
open Go Go.Am Go.Proofs
def ext133 : Ext := [(124, S124), (159, S159)]
theorem call133_124 : Callable Tryd.prog 124 := ⟨Tryd.f124, Tryd.func124, by kernel_rfl, by kernel_rfl⟩
theorem call133_159 : Callable Tryd.prog 159 := ⟨Tryd.f159, Tryd.func159, by kernel_rfl, by kernel_rfl⟩
theorem ext133Ok : ExtOk Tryd.prog ext133 := ⟨⟨call133_124, con124⟩, ⟨call133_159, con159⟩, trivial⟩
/-! Function 133. -/
noncomputable def b133 : Code := bodyOf Tryd.f133
theorem hb133 : Tryd.f133.body = some b133 := by kernel_rfl
def sig133 : List AT := [AT.v (Ty.int IntKind.i64), AT.v (Ty.int IntKind.i64), AT.v (Ty.int IntKind.i64)]
def tys133 : List Ty := [Ty.int IntKind.i64, Ty.bool]
def E133_5 (v8 : Int) (v9 : Int) (x0 : Int) (x1 : Int) : Env := [(0, PV.a (Atom.val (Value.int IntKind.i64 x0))), (1, PV.a (Atom.val (Value.int IntKind.i64 x1))), (8, PV.a (Atom.val (Value.int IntKind.i64 v8))), (9, PV.a (Atom.val (Value.int IntKind.i64 v9)))]
def L133_5 (v8 : Int) (v9 : Int) (x0 : Int) (x1 : Int) : Heap := []
def E133_11 (v8 : Int) (v10 : Int) (x0 : Int) (x1 : Int) : Env := [(0, PV.a (Atom.val (Value.int IntKind.i64 x0))), (1, PV.a (Atom.val (Value.int IntKind.i64 x1))), (8, PV.a (Atom.val (Value.int IntKind.i64 v8))), (10, PV.a (Atom.val (Value.int IntKind.i64 v10)))]
def L133_11 (v8 : Int) (v10 : Int) (x0 : Int) (x1 : Int) : Heap := []
mutual
def R133 : Nat → Int → Int → Int → List Dyn → Prop
  | 0, _, _, _, _ => False
  | n + 1, x0, x1, x2, ds => (if (!g124_0 x0 2000 2099) = true then (ds = [Dyn.mk (Ty.int IntKind.i64) 0, Dyn.mk Ty.bool Bool.false]) else (if (!g124_0 x1 1 12) = true then (ds = [Dyn.mk (Ty.int IntKind.i64) 0, Dyn.mk Ty.bool Bool.false]) else ((P159 x0 x1) ∧ (if (!g124_0 x2 1 (g159_0 x0 x1)) = true then (ds = [Dyn.mk (Ty.int IntKind.i64) 0, Dyn.mk Ty.bool Bool.false]) else ((InR IntKind.i64 (x2 - 1)) ∧ (R133_5 n (x2 - 1) (2000) (x0) (x1) ds))))))
def R133_5 : Nat → Int → Int → Int → Int → List Dyn → Prop
  | 0, _, _, _, _, _ => False
  | n + 1, v8, v9, x0, x1, ds => (if (Decidable.decide (v9 < x0)) = true then ((InR IntKind.i64 (v8 + 365)) ∧ ((InR IntKind.i64 (Int.tmod v9 4)) ∧ (if (Int.tmod v9 4 == 0) = true then ((InR IntKind.i64 (v8 + 365 + 1)) ∧ ((InR IntKind.i64 (v9 + 1)) ∧ (R133_5 n (v8 + 365 + 1) (v9 + 1) (x0) (x1) ds))) else ((InR IntKind.i64 (v9 + 1)) ∧ (R133_5 n (v8 + 365) (v9 + 1) (x0) (x1) ds))))) else (R133_11 n (v8) (1) (x0) (x1) ds))
def R133_11 : Nat → Int → Int → Int → Int → List Dyn → Prop
  | 0, _, _, _, _, _ => False
  | n + 1, v8, v10, x0, x1, ds => (if (Decidable.decide (v10 < x1)) = true then ((P159 x0 v10) ∧ ((InR IntKind.i64 (v8 + g159_0 x0 v10)) ∧ ((InR IntKind.i64 (v10 + 1)) ∧ (R133_11 n (v8 + g159_0 x0 v10) (v10 + 1) (x0) (x1) ds)))) else (ds = [Dyn.mk (Ty.int IntKind.i64) v8, Dyn.mk Ty.bool Bool.true]))
end
theorem p133_0 (x0 : Int) (x1 : Int) (x2 : Int) : runF tab ext133 false 52 [] 2000 [] tys133 Tryd.f133.results [true, true, true] [.code b133] (entE 0 0 sig133 (x0, x1, x2, ())) (entL sig133 (x0, x1, x2, ())) = some ([Dyn.mk (Ty.int IntKind.i64) 0, Dyn.mk Ty.bool Bool.false], [], [True, (!g124_0 x0 2000 2099) = Bool.true, Bool.true = Bool.true, Bool.true = Bool.true]) := by kernel_rfl
theorem p133_1 (x0 : Int) (x1 : Int) (x2 : Int) : runF tab ext133 false 52 [] 2000 [] tys133 Tryd.f133.results [false, true, true] [.code b133] (entE 0 0 sig133 (x0, x1, x2, ())) (entL sig133 (x0, x1, x2, ())) = some ([Dyn.mk (Ty.int IntKind.i64) 0, Dyn.mk Ty.bool Bool.false], [], [True, (!g124_0 x0 2000 2099) = Bool.false, True, (!g124_0 x1 1 12) = Bool.true, Bool.true = Bool.true]) := by kernel_rfl
theorem p133_2 (x0 : Int) (x1 : Int) (x2 : Int) : runF tab ext133 false 52 [] 2000 [] tys133 Tryd.f133.results [false, false, true] [.code b133] (entE 0 0 sig133 (x0, x1, x2, ())) (entL sig133 (x0, x1, x2, ())) = some ([Dyn.mk (Ty.int IntKind.i64) 0, Dyn.mk Ty.bool Bool.false], [], [True, (!g124_0 x0 2000 2099) = Bool.false, True, (!g124_0 x1 1 12) = Bool.false, P159 x0 x1, True, (!g124_0 x2 1 (g159_0 x0 x1)) = Bool.true]) := by kernel_rfl
theorem p133_3 (x0 : Int) (x1 : Int) (x2 : Int) : Am.runN tab ext133 false 52 [] 2000 [] [] [0, 1, 8, 9] [] [false, false, false] [.code b133] (entE 0 0 sig133 (x0, x1, x2, ())) (entL sig133 (x0, x1, x2, ())) = some (cutAt b133 5, E133_5 (x2 - 1) (2000) (x0) (x1), L133_5 (x2 - 1) (2000) (x0) (x1), [True, (!g124_0 x0 2000 2099) = Bool.false, True, (!g124_0 x1 1 12) = Bool.false, P159 x0 x1, True, (!g124_0 x2 1 (g159_0 x0 x1)) = Bool.false, InR IntKind.i64 (x2 - 1)]) := by kernel_rfl
theorem p133_4 (v8 : Int) (v9 : Int) (x0 : Int) (x1 : Int) : Am.runN tab ext133 false 52 [] 2000 [] [] [0, 1, 8, 9] [] [true, true] (cutAt b133 5) (E133_5 v8 v9 x0 x1) (L133_5 v8 v9 x0 x1) = some (cutAt b133 5, E133_5 (v8 + 365 + 1) (v9 + 1) (x0) (x1), L133_5 (v8 + 365 + 1) (v9 + 1) (x0) (x1), [Decidable.decide (v9 < x0) = Bool.true, InR IntKind.i64 (v8 + 365), (4 : Int) ≠ (0 : Int), InR IntKind.i64 (Int.tmod v9 4), (Int.tmod v9 4 == 0) = Bool.true, InR IntKind.i64 (v8 + 365 + 1), InR IntKind.i64 (v9 + 1)]) := by kernel_rfl
theorem p133_5 (v8 : Int) (v9 : Int) (x0 : Int) (x1 : Int) : Am.runN tab ext133 false 52 [] 2000 [] [] [0, 1, 8, 9] [] [true, false] (cutAt b133 5) (E133_5 v8 v9 x0 x1) (L133_5 v8 v9 x0 x1) = some (cutAt b133 5, E133_5 (v8 + 365) (v9 + 1) (x0) (x1), L133_5 (v8 + 365) (v9 + 1) (x0) (x1), [Decidable.decide (v9 < x0) = Bool.true, InR IntKind.i64 (v8 + 365), (4 : Int) ≠ (0 : Int), InR IntKind.i64 (Int.tmod v9 4), (Int.tmod v9 4 == 0) = Bool.false, InR IntKind.i64 (v9 + 1)]) := by kernel_rfl
theorem p133_6 (v8 : Int) (v9 : Int) (x0 : Int) (x1 : Int) : Am.runN tab ext133 false 52 [] 2000 [] [] [0, 1, 8, 10] [] [false] (cutAt b133 5) (E133_5 v8 v9 x0 x1) (L133_5 v8 v9 x0 x1) = some (cutAt b133 11, E133_11 (v8) (1) (x0) (x1), L133_11 (v8) (1) (x0) (x1), [Decidable.decide (v9 < x0) = Bool.false]) := by kernel_rfl
theorem p133_7 (v8 : Int) (v10 : Int) (x0 : Int) (x1 : Int) : Am.runN tab ext133 false 52 [] 2000 [] [] [0, 1, 8, 10] [] [true] (cutAt b133 11) (E133_11 v8 v10 x0 x1) (L133_11 v8 v10 x0 x1) = some (cutAt b133 11, E133_11 (v8 + g159_0 x0 v10) (v10 + 1) (x0) (x1), L133_11 (v8 + g159_0 x0 v10) (v10 + 1) (x0) (x1), [Decidable.decide (v10 < x1) = Bool.true, P159 x0 v10, InR IntKind.i64 (v8 + g159_0 x0 v10), InR IntKind.i64 (v10 + 1)]) := by kernel_rfl
theorem p133_8 (v8 : Int) (v10 : Int) (x0 : Int) (x1 : Int) : runF tab ext133 false 52 [] 2000 [] tys133 Tryd.f133.results [false] (cutAt b133 11) (E133_11 v8 v10 x0 x1) (L133_11 v8 v10 x0 x1) = some ([Dyn.mk (Ty.int IntKind.i64) v8, Dyn.mk Ty.bool Bool.true], [], [Decidable.decide (v10 < x1) = Bool.false]) := by kernel_rfl
theorem snd133 : ∀ n, (∀ (x0 : Int) (x1 : Int) (x2 : Int) ds, R133 n x0 x1 x2 ds → ∀ w0 O q, AtV Tryd.prog 133 (PostR ds [] [] q w0 O) 52 w0 O q [] [.code b133] (entE 0 0 sig133 (x0, x1, x2, ())) (entL sig133 (x0, x1, x2, ()))) ∧ (∀ (v8 : Int) (v9 : Int) (x0 : Int) (x1 : Int) ds, R133_5 n v8 v9 x0 x1 ds → ∀ w0 O q, AtV Tryd.prog 133 (PostR ds [] [] q w0 O) 52 w0 O q [] (cutAt b133 5) (E133_5 v8 v9 x0 x1) (L133_5 v8 v9 x0 x1)) ∧ (∀ (v8 : Int) (v10 : Int) (x0 : Int) (x1 : Int) ds, R133_11 n v8 v10 x0 x1 ds → ∀ w0 O q, AtV Tryd.prog 133 (PostR ds [] [] q w0 O) 52 w0 O q [] (cutAt b133 11) (E133_11 v8 v10 x0 x1) (L133_11 v8 v10 x0 x1)) := by
  intro n
  induction n with
  | zero => exact ⟨fun _ _ _ _ h => by simp only [R133] at h, fun _ _ _ _ _ h => by simp only [R133_5] at h, fun _ _ _ _ _ h => by simp only [R133_11] at h⟩
  | succ n ih =>
  obtain ⟨ih, ih5, ih11⟩ := ih
  refine ⟨?_, ?_, ?_⟩
  · intro x0 x1 x2 ds h w0 O q
    rw [R133] at h
    by_cases b0 : (!g124_0 x0 2000 2099) = true
    · rw [if_pos b0] at h
      subst h
      exact AtV.fin Tryd.func133 tabOk ext133Ok mixed (p133_0 x0 x1 x2) ⟨trivial, b0, rfl, rfl, trivial⟩
    · rw [if_neg b0] at h
      replace b0 := Bool.eq_false_iff.2 b0
      by_cases b1 : (!g124_0 x1 1 12) = true
      · rw [if_pos b1] at h
        subst h
        exact AtV.fin Tryd.func133 tabOk ext133Ok mixed (p133_1 x0 x1 x2) ⟨trivial, b0, trivial, b1, rfl, trivial⟩
      · rw [if_neg b1] at h
        replace b1 := Bool.eq_false_iff.2 b1
        obtain ⟨s0, h⟩ := h
        by_cases b2 : (!g124_0 x2 1 (g159_0 x0 x1)) = true
        · rw [if_pos b2] at h
          subst h
          exact AtV.fin Tryd.func133 tabOk ext133Ok mixed (p133_2 x0 x1 x2) ⟨trivial, b0, trivial, b1, s0, trivial, b2, trivial⟩
        · rw [if_neg b2] at h
          replace b2 := Bool.eq_false_iff.2 b2
          obtain ⟨s1, h⟩ := h
          exact AtV.runN tabOk ext133Ok mixed (p133_3 x0 x1 x2) ⟨trivial, b0, trivial, b1, s0, trivial, b2, s1, trivial⟩ (ih5 _ _ _ _ _ h w0 O q)

  · intro v8 v9 x0 x1 ds h w0 O q
    rw [R133_5] at h
    by_cases b0 : (Decidable.decide (v9 < x0)) = true
    · rw [if_pos b0] at h
      obtain ⟨s0, h⟩ := h
      obtain ⟨s1, h⟩ := h
      by_cases b1 : (Int.tmod v9 4 == 0) = true
      · rw [if_pos b1] at h
        obtain ⟨s2, h⟩ := h
        obtain ⟨s3, h⟩ := h
        exact AtV.runN tabOk ext133Ok mixed (p133_4 v8 v9 x0 x1) ⟨b0, s0, (by decide), s1, b1, s2, s3, trivial⟩ (ih5 _ _ _ _ _ h w0 O q)
      · rw [if_neg b1] at h
        replace b1 := Bool.eq_false_iff.2 b1
        obtain ⟨s2, h⟩ := h
        exact AtV.runN tabOk ext133Ok mixed (p133_5 v8 v9 x0 x1) ⟨b0, s0, (by decide), s1, b1, s2, trivial⟩ (ih5 _ _ _ _ _ h w0 O q)
    · rw [if_neg b0] at h
      replace b0 := Bool.eq_false_iff.2 b0
      exact AtV.runN tabOk ext133Ok mixed (p133_6 v8 v9 x0 x1) ⟨b0, trivial⟩ (ih11 _ _ _ _ _ h w0 O q)

  · intro v8 v10 x0 x1 ds h w0 O q
    rw [R133_11] at h
    by_cases b0 : (Decidable.decide (v10 < x1)) = true
    · rw [if_pos b0] at h
      obtain ⟨s0, h⟩ := h
      obtain ⟨s1, h⟩ := h
      obtain ⟨s2, h⟩ := h
      exact AtV.runN tabOk ext133Ok mixed (p133_7 v8 v10 x0 x1) ⟨b0, s0, s1, s2, trivial⟩ (ih11 _ _ _ _ _ h w0 O q)
    · rw [if_neg b0] at h
      replace b0 := Bool.eq_false_iff.2 b0
      subst h
      exact AtV.fin Tryd.func133 tabOk ext133Ok mixed (p133_8 v8 v10 x0 x1) ⟨b0, trivial⟩



def ms133 (y : Int) : Nat → Int
  | 0 => 0
  | k + 1 => ms133 y k + g159_0 y ((k : Int) + 1)
def yd133 : Nat → Int
  | 0 => 0
  | k + 1 => yd133 k + 365 + (if (Int.tmod (2000 + (k : Int)) 4 == 0) = true then 1 else 0)
def ok133 (x0 x1 x2 : Int) : Bool := g124_0 x0 2000 2099 && (g124_0 x1 1 12 && g124_0 x2 1 (g159_0 x0 x1))
def g133_0 (x0 x1 x2 : Int) : Int := if ok133 x0 x1 x2 = true then x2 - 1 + yd133 (x0 - 2000).toNat + ms133 x0 (x1 - 1).toNat else 0
def g133_1 (x0 x1 x2 : Int) : Bool := ok133 x0 x1 x2
def P133 (x0 x1 x2 : Int) : Prop := True

theorem in133 {x a b : Int} : g124_0 x a b = true ↔ a ≤ x ∧ x ≤ b := by
  unfold g124_0
  by_cases c1 : x ≥ a
  · by_cases c2 : x ≤ b
    · simp [c1, c2]
    · simp [c1, c2]
  · have : ¬ a ≤ x := c1
    simp [c1, this]

theorem len133 {y m : Int} (hy : 2000 ≤ y ∧ y ≤ 2099) (h : 1 ≤ m ∧ m ≤ 12) : P159 y m ∧ 28 ≤ g159_0 y m ∧ g159_0 y m ≤ 31 := by
  have e : Int.tmod y 4 = y % 4 := Int.tmod_eq_emod_of_nonneg (by omega)
  have hm : m = 1 ∨ m = 2 ∨ m = 3 ∨ m = 4 ∨ m = 5 ∨ m = 6 ∨ m = 7 ∨ m = 8 ∨ m = 9 ∨ m = 10 ∨ m = 11 ∨ m = 12 := by omega
  unfold P159 g159_0
  rw [e]
  have hi : InR .i64 (y % 4) := by rw [i64_iff]; omega
  by_cases hz : (y % 4 == 0) = true
  · rcases hm with rfl | rfl | rfl | rfl | rfl | rfl | rfl | rfl | rfl | rfl | rfl | rfl <;> simp [hz, hi] <;> decide
  · rcases hm with rfl | rfl | rfl | rfl | rfl | rfl | rfl | rfl | rfl | rfl | rfl | rfl <;> simp [hz, hi] <;> decide

theorem msb133 {y : Int} (hy : 2000 ≤ y ∧ y ≤ 2099) : ∀ k, k ≤ 12 → 0 ≤ ms133 y k ∧ ms133 y k ≤ 31 * k
  | 0, _ => by simp [ms133]
  | k + 1, h => by
    have := msb133 hy k (by omega)
    have := len133 hy (m := (k : Int) + 1) (by omega)
    simp only [ms133]
    omega

theorem ydb133 : ∀ k, 0 ≤ yd133 k ∧ yd133 k ≤ 366 * k
  | 0 => by simp [yd133]
  | k + 1 => by
    have := ydb133 k
    simp only [yd133]
    split <;> omega

theorem runM133 {y m : Int} (hy : 2000 ≤ y ∧ y ≤ 2099) (hm : 1 ≤ m ∧ m ≤ 12) (v : Int) (hv : 0 ≤ v ∧ v ≤ 1000000) : ∀ (k i : Nat), (i : Int) + k = m - 1 →
    R133_11 (k + 1) (v + ms133 y i) ((i : Int) + 1) y m [⟨.int .i64, v + ms133 y (m - 1).toNat⟩, ⟨.bool, true⟩] := by
  intro k
  induction k with
  | zero =>
    intro i hi
    rw [R133_11, if_neg (by simp; omega), show (m - 1).toNat = i by omega]
  | succ k ih =>
    intro i hi
    obtain ⟨p, l1, l2⟩ := len133 hy (m := (i : Int) + 1) (by omega)
    obtain ⟨b1, b2⟩ := msb133 hy i (by omega)
    rw [R133_11, if_pos (by simp; omega)]
    have e1 : v + ms133 y i + g159_0 y ((i : Int) + 1) = v + ms133 y (i + 1) := by simp only [ms133]; omega
    have e2 : (i : Int) + 1 + 1 = ((i + 1 : Nat) : Int) + 1 := by omega
    refine ⟨p, by rw [i64_iff]; omega, by rw [i64_iff]; omega, ?_⟩
    rw [e1, e2]
    exact ih (i + 1) (by omega)

theorem runY133 {y m : Int} (hy : 2000 ≤ y ∧ y ≤ 2099) (hm : 1 ≤ m ∧ m ≤ 12) (v : Int) (hv : 0 ≤ v ∧ v ≤ 30) : ∀ (k i : Nat), (i : Int) + k = y - 2000 →
    R133_5 (k + 1 + ((m - 1).toNat + 1)) (v + yd133 i) (2000 + (i : Int)) y m [⟨.int .i64, v + yd133 (y - 2000).toNat + ms133 y (m - 1).toNat⟩, ⟨.bool, true⟩] := by
  intro k
  induction k with
  | zero =>
    intro i hi
    obtain ⟨b1, b2⟩ := ydb133 i
    rw [show 0 + 1 + ((m - 1).toNat + 1) = ((m - 1).toNat + 1) + 1 by omega, R133_5, if_neg (by simp; omega), show (y - 2000).toNat = i by omega]
    have := runM133 hy hm (v + yd133 i) (by omega) (m - 1).toNat 0 (by omega)
    simpa [ms133] using this
  | succ k ih =>
    intro i hi
    obtain ⟨b1, b2⟩ := ydb133 i
    have et : Int.tmod (2000 + (i : Int)) 4 = (2000 + (i : Int)) % 4 := Int.tmod_eq_emod_of_nonneg (by omega)
    have hin := ih (i + 1) (by omega)
    have e2 : 2000 + (i : Int) + 1 = 2000 + ((i + 1 : Nat) : Int) := by omega
    simp only [yd133] at hin
    rw [show k + 1 + 1 + ((m - 1).toNat + 1) = (k + 1 + ((m - 1).toNat + 1)) + 1 by omega, R133_5, if_pos (by simp; omega)]
    refine ⟨by rw [i64_iff]; omega, by rw [i64_iff, et]; omega, ?_⟩
    by_cases hz : (Int.tmod (2000 + (i : Int)) 4 == 0) = true
    · rw [if_pos hz] at hin ⊢
      rw [e2, show v + yd133 i + 365 + 1 = v + (yd133 i + 365 + 1) by omega]
      exact ⟨by rw [i64_iff]; omega, by rw [i64_iff]; omega, hin⟩
    · rw [if_neg hz] at hin ⊢
      rw [e2, show v + yd133 i + 365 = v + (yd133 i + 365 + 0) by omega]
      exact ⟨by rw [i64_iff]; omega, hin⟩

theorem top133 (x0 x1 x2 : Int) (hx : InR .i64 x2) : ∃ n, R133 n x0 x1 x2 [⟨.int .i64, g133_0 x0 x1 x2⟩, ⟨.bool, g133_1 x0 x1 x2⟩] := by
  unfold g133_0 g133_1 ok133
  cases h0 : g124_0 x0 2000 2099 with
  | false => exact ⟨1, by rw [R133, if_pos (by rw [h0]; rfl)]; simp⟩
  | true =>
    have h0' := in133.1 h0
    cases h1 : g124_0 x1 1 12 with
    | false => exact ⟨1, by rw [R133, if_neg (by rw [h0]; decide), if_pos (by rw [h1]; rfl)]; simp⟩
    | true =>
      have h1' := in133.1 h1
      obtain ⟨p, l1, l2⟩ := len133 h0' h1'
      cases h2 : g124_0 x2 1 (g159_0 x0 x1) with
      | false => exact ⟨1, by rw [R133, if_neg (by rw [h0]; decide), if_neg (by rw [h1]; decide)]; exact ⟨p, by rw [if_pos (by rw [h2]; rfl)]; simp⟩⟩
      | true =>
        have h2' := in133.1 h2
        refine ⟨((x0 - 2000).toNat + 1 + ((x1 - 1).toNat + 1)) + 1, ?_⟩
        rw [R133, if_neg (by rw [h0]; decide), if_neg (by rw [h1]; decide)]
        refine ⟨p, ?_⟩
        rw [if_neg (by rw [h2]; decide)]
        refine ⟨by rw [i64_iff]; omega, ?_⟩
        have := runY133 h0' h1' (x2 - 1) (by omega) (x0 - 2000).toNat 0 (by omega)
        simpa [yd133] using this

def S133 : Am.Spec := { sig := sig133, pre := fun ⟨x0, x1, x2, _⟩ => P133 x0 x1 x2, res := fun ⟨x0, x1, x2, _⟩ => [⟨.int .i64, g133_0 x0 x1 x2⟩, ⟨.bool, g133_1 x0 x1 x2⟩] }
theorem con133 : Contract Tryd.prog 133 S133 := contract_of Tryd.func133 hb133 (Nat.le_of_ble_eq_true (by kernel_rfl)) (fun ⟨x0, x1, x2, _⟩ h hwf w0 O q =>
  let ⟨n, hn⟩ := top133 x0 x1 x2 hwf.2.2.1
  (snd133 n).1 x0 x1 x2 _ hn w0 O q)

end Go.Proofs.YtakodkjcmacofaaDoor

/- Function 86 (spec.l02Read): its runs between cut points. Written by a program of this repo (gen). -/
set_option linter.unusedVariables false
set_option linter.unusedSimpArgs false
set_option maxRecDepth 100000
namespace Go.Proofs.YtakodkjcmacofaaDoor
open Go Go.Am Go.Proofs
def ext86 : Ext := [(63, S63), (133, S133)]
theorem call86_63 : Callable Tryd.prog 63 := ⟨Tryd.f63, Tryd.func63, by kernel_rfl, by kernel_rfl⟩
theorem call86_133 : Callable Tryd.prog 133 := ⟨Tryd.f133, Tryd.func133, by kernel_rfl, by kernel_rfl⟩
theorem ext86Ok : ExtOk Tryd.prog ext86 := ⟨⟨call86_63, con63⟩, ⟨call86_133, con133⟩, trivial⟩
/-! Function 86. -/
noncomputable def b86 : Code := bodyOf Tryd.f86
theorem hb86 : Tryd.f86.body = some b86 := by kernel_rfl
def sig86 : List AT := [AT.v (Ty.str)]
def tys86 : List Ty := [Ty.int IntKind.i64, Ty.bool]
def P86 (x0 : ByteArray) : Prop := (if ((↑(ByteArray.size x0) : Int) != 10) = true then True else ((4 < (↑(ByteArray.size x0) : Int)) ∧ (if ((↑(UInt8.toNat (List.getD (Array.toList (ByteArray.data x0)) 4 0)) : Int) != 45) = true then True else ((7 < (↑(ByteArray.size x0) : Int)) ∧ (if ((↑(UInt8.toNat (List.getD (Array.toList (ByteArray.data x0)) 7 0)) : Int) != 45) = true then True else ((4 ≤ (↑(ByteArray.size x0) : Int)) ∧ ((P63 (ByteArray.extract x0 0 4)) ∧ ((7 ≤ (↑(ByteArray.size x0) : Int)) ∧ ((P63 (ByteArray.extract x0 5 7)) ∧ ((8 ≤ (↑(ByteArray.size x0) : Int)) ∧ ((P63 (ByteArray.extract x0 8 (Int.toNat (↑(ByteArray.size x0) : Int)))) ∧ True)))))))))))
def g86_0 (x0 : ByteArray) : Int := (if ((↑(ByteArray.size x0) : Int) != 10) = true then 0 else (if ((↑(UInt8.toNat (List.getD (Array.toList (ByteArray.data x0)) 4 0)) : Int) != 45) = true then 0 else (if ((↑(UInt8.toNat (List.getD (Array.toList (ByteArray.data x0)) 7 0)) : Int) != 45) = true then 0 else (if (!g63_1 (ByteArray.extract x0 0 4)) = true then 0 else (if (!g63_1 (ByteArray.extract x0 5 7)) = true then 0 else (if (!g63_1 (ByteArray.extract x0 8 (Int.toNat (↑(ByteArray.size x0) : Int)))) = true then 0 else g133_0 (g63_0 (ByteArray.extract x0 0 4)) (g63_0 (ByteArray.extract x0 5 7)) (g63_0 (ByteArray.extract x0 8 (Int.toNat (↑(ByteArray.size x0) : Int))))))))))
def g86_1 (x0 : ByteArray) : Bool := (if ((↑(ByteArray.size x0) : Int) != 10) = true then Bool.false else (if ((↑(UInt8.toNat (List.getD (Array.toList (ByteArray.data x0)) 4 0)) : Int) != 45) = true then Bool.false else (if ((↑(UInt8.toNat (List.getD (Array.toList (ByteArray.data x0)) 7 0)) : Int) != 45) = true then Bool.false else (if (!g63_1 (ByteArray.extract x0 0 4)) = true then Bool.false else (if (!g63_1 (ByteArray.extract x0 5 7)) = true then Bool.false else (if (!g63_1 (ByteArray.extract x0 8 (Int.toNat (↑(ByteArray.size x0) : Int)))) = true then Bool.false else g133_1 (g63_0 (ByteArray.extract x0 0 4)) (g63_0 (ByteArray.extract x0 5 7)) (g63_0 (ByteArray.extract x0 8 (Int.toNat (↑(ByteArray.size x0) : Int))))))))))
theorem p86_0 (x0 : ByteArray) : runF tab ext86 false 57 [] 2000 [] tys86 Tryd.f86.results [true, true, true] [.code b86] (entE 0 0 sig86 (x0, ())) (entL sig86 (x0, ())) = some ([Dyn.mk (Ty.int IntKind.i64) 0, Dyn.mk Ty.bool Bool.false], [], [((↑(ByteArray.size x0) : Int) != 10) = Bool.true, Bool.true = Bool.true, Bool.true = Bool.true]) := by kernel_rfl
theorem p86_1 (x0 : ByteArray) : runF tab ext86 false 57 [] 2000 [] tys86 Tryd.f86.results [false, true, true] [.code b86] (entE 0 0 sig86 (x0, ())) (entL sig86 (x0, ())) = some ([Dyn.mk (Ty.int IntKind.i64) 0, Dyn.mk Ty.bool Bool.false], [], [((↑(ByteArray.size x0) : Int) != 10) = Bool.false, (0 : Int) ≤ (4 : Int), 4 < (↑(ByteArray.size x0) : Int), ((↑(UInt8.toNat (List.getD (Array.toList (ByteArray.data x0)) 4 0)) : Int) != 45) = Bool.true, Bool.true = Bool.true]) := by kernel_rfl
theorem p86_2 (x0 : ByteArray) : runF tab ext86 false 57 [] 2000 [] tys86 Tryd.f86.results [false, false, true] [.code b86] (entE 0 0 sig86 (x0, ())) (entL sig86 (x0, ())) = some ([Dyn.mk (Ty.int IntKind.i64) 0, Dyn.mk Ty.bool Bool.false], [], [((↑(ByteArray.size x0) : Int) != 10) = Bool.false, (0 : Int) ≤ (4 : Int), 4 < (↑(ByteArray.size x0) : Int), ((↑(UInt8.toNat (List.getD (Array.toList (ByteArray.data x0)) 4 0)) : Int) != 45) = Bool.false, (0 : Int) ≤ (7 : Int), 7 < (↑(ByteArray.size x0) : Int), ((↑(UInt8.toNat (List.getD (Array.toList (ByteArray.data x0)) 7 0)) : Int) != 45) = Bool.true]) := by kernel_rfl
theorem p86_3 (x0 : ByteArray) : runF tab ext86 false 57 [] 2000 [] tys86 Tryd.f86.results [false, false, false, true, true, true] [.code b86] (entE 0 0 sig86 (x0, ())) (entL sig86 (x0, ())) = some ([Dyn.mk (Ty.int IntKind.i64) 0, Dyn.mk Ty.bool Bool.false], [], [((↑(ByteArray.size x0) : Int) != 10) = Bool.false, (0 : Int) ≤ (4 : Int), 4 < (↑(ByteArray.size x0) : Int), ((↑(UInt8.toNat (List.getD (Array.toList (ByteArray.data x0)) 4 0)) : Int) != 45) = Bool.false, (0 : Int) ≤ (7 : Int), 7 < (↑(ByteArray.size x0) : Int), ((↑(UInt8.toNat (List.getD (Array.toList (ByteArray.data x0)) 7 0)) : Int) != 45) = Bool.false, (0 : Int) ≤ (4 : Int), 4 ≤ (↑(ByteArray.size x0) : Int), P63 (ByteArray.extract x0 0 4), (0 : Int) ≤ (5 : Int), (5 : Int) ≤ (7 : Int), 7 ≤ (↑(ByteArray.size x0) : Int), P63 (ByteArray.extract x0 5 7), (0 : Int) ≤ (8 : Int), 8 ≤ (↑(ByteArray.size x0) : Int), P63 (ByteArray.extract x0 8 (Int.toNat (↑(ByteArray.size x0) : Int))), (!g63_1 (ByteArray.extract x0 0 4)) = Bool.true, Bool.true = Bool.true, Bool.true = Bool.true]) := by kernel_rfl
theorem p86_4 (x0 : ByteArray) : runF tab ext86 false 57 [] 2000 [] tys86 Tryd.f86.results [false, false, false, false, true, true] [.code b86] (entE 0 0 sig86 (x0, ())) (entL sig86 (x0, ())) = some ([Dyn.mk (Ty.int IntKind.i64) 0, Dyn.mk Ty.bool Bool.false], [], [((↑(ByteArray.size x0) : Int) != 10) = Bool.false, (0 : Int) ≤ (4 : Int), 4 < (↑(ByteArray.size x0) : Int), ((↑(UInt8.toNat (List.getD (Array.toList (ByteArray.data x0)) 4 0)) : Int) != 45) = Bool.false, (0 : Int) ≤ (7 : Int), 7 < (↑(ByteArray.size x0) : Int), ((↑(UInt8.toNat (List.getD (Array.toList (ByteArray.data x0)) 7 0)) : Int) != 45) = Bool.false, (0 : Int) ≤ (4 : Int), 4 ≤ (↑(ByteArray.size x0) : Int), P63 (ByteArray.extract x0 0 4), (0 : Int) ≤ (5 : Int), (5 : Int) ≤ (7 : Int), 7 ≤ (↑(ByteArray.size x0) : Int), P63 (ByteArray.extract x0 5 7), (0 : Int) ≤ (8 : Int), 8 ≤ (↑(ByteArray.size x0) : Int), P63 (ByteArray.extract x0 8 (Int.toNat (↑(ByteArray.size x0) : Int))), (!g63_1 (ByteArray.extract x0 0 4)) = Bool.false, (!g63_1 (ByteArray.extract x0 5 7)) = Bool.true, Bool.true = Bool.true]) := by kernel_rfl
theorem p86_5 (x0 : ByteArray) : runF tab ext86 false 57 [] 2000 [] tys86 Tryd.f86.results [false, false, false, false, false, true] [.code b86] (entE 0 0 sig86 (x0, ())) (entL sig86 (x0, ())) = some ([Dyn.mk (Ty.int IntKind.i64) 0, Dyn.mk Ty.bool Bool.false], [], [((↑(ByteArray.size x0) : Int) != 10) = Bool.false, (0 : Int) ≤ (4 : Int), 4 < (↑(ByteArray.size x0) : Int), ((↑(UInt8.toNat (List.getD (Array.toList (ByteArray.data x0)) 4 0)) : Int) != 45) = Bool.false, (0 : Int) ≤ (7 : Int), 7 < (↑(ByteArray.size x0) : Int), ((↑(UInt8.toNat (List.getD (Array.toList (ByteArray.data x0)) 7 0)) : Int) != 45) = Bool.false, (0 : Int) ≤ (4 : Int), 4 ≤ (↑(ByteArray.size x0) : Int), P63 (ByteArray.extract x0 0 4), (0 : Int) ≤ (5 : Int), (5 : Int) ≤ (7 : Int), 7 ≤ (↑(ByteArray.size x0) : Int), P63 (ByteArray.extract x0 5 7), (0 : Int) ≤ (8 : Int), 8 ≤ (↑(ByteArray.size x0) : Int), P63 (ByteArray.extract x0 8 (Int.toNat (↑(ByteArray.size x0) : Int))), (!g63_1 (ByteArray.extract x0 0 4)) = Bool.false, (!g63_1 (ByteArray.extract x0 5 7)) = Bool.false, (!g63_1 (ByteArray.extract x0 8 (Int.toNat (↑(ByteArray.size x0) : Int)))) = Bool.true]) := by kernel_rfl
theorem p86_6 (x0 : ByteArray) : runF tab ext86 false 57 [] 2000 [] tys86 Tryd.f86.results [false, false, false, false, false, false] [.code b86] (entE 0 0 sig86 (x0, ())) (entL sig86 (x0, ())) = some ([Dyn.mk (Ty.int IntKind.i64) (g133_0 (g63_0 (ByteArray.extract x0 0 4)) (g63_0 (ByteArray.extract x0 5 7)) (g63_0 (ByteArray.extract x0 8 (Int.toNat (↑(ByteArray.size x0) : Int))))), Dyn.mk Ty.bool (g133_1 (g63_0 (ByteArray.extract x0 0 4)) (g63_0 (ByteArray.extract x0 5 7)) (g63_0 (ByteArray.extract x0 8 (Int.toNat (↑(ByteArray.size x0) : Int)))))], [], [((↑(ByteArray.size x0) : Int) != 10) = Bool.false, (0 : Int) ≤ (4 : Int), 4 < (↑(ByteArray.size x0) : Int), ((↑(UInt8.toNat (List.getD (Array.toList (ByteArray.data x0)) 4 0)) : Int) != 45) = Bool.false, (0 : Int) ≤ (7 : Int), 7 < (↑(ByteArray.size x0) : Int), ((↑(UInt8.toNat (List.getD (Array.toList (ByteArray.data x0)) 7 0)) : Int) != 45) = Bool.false, (0 : Int) ≤ (4 : Int), 4 ≤ (↑(ByteArray.size x0) : Int), P63 (ByteArray.extract x0 0 4), (0 : Int) ≤ (5 : Int), (5 : Int) ≤ (7 : Int), 7 ≤ (↑(ByteArray.size x0) : Int), P63 (ByteArray.extract x0 5 7), (0 : Int) ≤ (8 : Int), 8 ≤ (↑(ByteArray.size x0) : Int), P63 (ByteArray.extract x0 8 (Int.toNat (↑(ByteArray.size x0) : Int))), (!g63_1 (ByteArray.extract x0 0 4)) = Bool.false, (!g63_1 (ByteArray.extract x0 5 7)) = Bool.false, (!g63_1 (ByteArray.extract x0 8 (Int.toNat (↑(ByteArray.size x0) : Int)))) = Bool.false, True]) := by kernel_rfl
theorem at86 (x0 : ByteArray) (h : P86 x0) (w0 : World) (O : List Nat) (q : Nat → Value) : AtV Tryd.prog 86 (PostR [⟨Ty.int IntKind.i64, g86_0 x0⟩, ⟨Ty.bool, g86_1 x0⟩] [] [] q w0 O) 57 w0 O q [] [.code b86] (entE 0 0 sig86 (x0, ())) (entL sig86 (x0, ())) := by
  unfold P86 at h
  unfold g86_0 g86_1
  by_cases b0 : ((↑(ByteArray.size x0) : Int) != 10) = true
  · try simp only [if_pos b0] at h ⊢
    exact AtV.fin Tryd.func86 tabOk ext86Ok mixed (p86_0 x0) ⟨b0, rfl, rfl, trivial⟩
  · try simp only [if_neg b0] at h ⊢
    replace b0 := Bool.eq_false_iff.2 b0
    obtain ⟨s0, h⟩ := h
    by_cases b1 : ((↑(UInt8.toNat (List.getD (Array.toList (ByteArray.data x0)) 4 0)) : Int) != 45) = true
    · try simp only [if_pos b1] at h ⊢
      exact AtV.fin Tryd.func86 tabOk ext86Ok mixed (p86_1 x0) ⟨b0, (by decide), s0, b1, rfl, trivial⟩
    · try simp only [if_neg b1] at h ⊢
      replace b1 := Bool.eq_false_iff.2 b1
      obtain ⟨s1, h⟩ := h
      by_cases b2 : ((↑(UInt8.toNat (List.getD (Array.toList (ByteArray.data x0)) 7 0)) : Int) != 45) = true
      · try simp only [if_pos b2] at h ⊢
        exact AtV.fin Tryd.func86 tabOk ext86Ok mixed (p86_2 x0) ⟨b0, (by decide), s0, b1, (by decide), s1, b2, trivial⟩
      · try simp only [if_neg b2] at h ⊢
        replace b2 := Bool.eq_false_iff.2 b2
        obtain ⟨s2, h⟩ := h
        obtain ⟨s3, h⟩ := h
        obtain ⟨s4, h⟩ := h
        obtain ⟨s5, h⟩ := h
        obtain ⟨s6, h⟩ := h
        obtain ⟨s7, h⟩ := h
        by_cases b3 : (!g63_1 (ByteArray.extract x0 0 4)) = true
        · try simp only [if_pos b3] at h ⊢
          exact AtV.fin Tryd.func86 tabOk ext86Ok mixed (p86_3 x0) ⟨b0, (by decide), s0, b1, (by decide), s1, b2, (by decide), s2, s3, (by decide), (by decide), s4, s5, (by decide), s6, s7, b3, rfl, rfl, trivial⟩
        · try simp only [if_neg b3] at h ⊢
          replace b3 := Bool.eq_false_iff.2 b3
          by_cases b4 : (!g63_1 (ByteArray.extract x0 5 7)) = true
          · try simp only [if_pos b4] at h ⊢
            exact AtV.fin Tryd.func86 tabOk ext86Ok mixed (p86_4 x0) ⟨b0, (by decide), s0, b1, (by decide), s1, b2, (by decide), s2, s3, (by decide), (by decide), s4, s5, (by decide), s6, s7, b3, b4, rfl, trivial⟩
          · try simp only [if_neg b4] at h ⊢
            replace b4 := Bool.eq_false_iff.2 b4
            by_cases b5 : (!g63_1 (ByteArray.extract x0 8 (Int.toNat (↑(ByteArray.size x0) : Int)))) = true
            · try simp only [if_pos b5] at h ⊢
              exact AtV.fin Tryd.func86 tabOk ext86Ok mixed (p86_5 x0) ⟨b0, (by decide), s0, b1, (by decide), s1, b2, (by decide), s2, s3, (by decide), (by decide), s4, s5, (by decide), s6, s7, b3, b4, b5, trivial⟩
            · try simp only [if_neg b5] at h ⊢
              replace b5 := Bool.eq_false_iff.2 b5
              exact AtV.fin Tryd.func86 tabOk ext86Ok mixed (p86_6 x0) ⟨b0, (by decide), s0, b1, (by decide), s1, b2, (by decide), s2, s3, (by decide), (by decide), s4, s5, (by decide), s6, s7, b3, b4, b5, trivial, trivial⟩

def S86 : Am.Spec := { sig := sig86, pre := fun ⟨x0, _⟩ => P86 x0, res := fun ⟨x0, _⟩ => [⟨Ty.int IntKind.i64, g86_0 x0⟩, ⟨Ty.bool, g86_1 x0⟩] }
theorem con86 : Contract Tryd.prog 86 S86 := contract_of Tryd.func86 hb86 (Nat.le_of_ble_eq_true (by kernel_rfl)) (fun ⟨x0, _⟩ h _ w0 O q => at86 x0 h w0 O q)


end Go.Proofs.YtakodkjcmacofaaDoor

/- Function 30 (spec.ReadDate): its runs between cut points. Written by a program of this repo (gen). -/
set_option linter.unusedVariables false
set_option linter.unusedSimpArgs false
set_option maxRecDepth 100000
namespace Go.Proofs.YtakodkjcmacofaaDoor
open Go Go.Am Go.Proofs
def ext30 : Ext := [(86, S86)]
theorem call30_86 : Callable Tryd.prog 86 := ⟨Tryd.f86, Tryd.func86, by kernel_rfl, by kernel_rfl⟩
theorem ext30Ok : ExtOk Tryd.prog ext30 := ⟨⟨call30_86, con86⟩, trivial⟩
/-! Function 30. -/
noncomputable def b30 : Code := bodyOf Tryd.f30
theorem hb30 : Tryd.f30.body = some b30 := by kernel_rfl
def sig30 : List AT := [AT.v (Ty.str)]
def tys30 : List Ty := [Ty.int IntKind.i64, Ty.bool]
def P30 (x0 : ByteArray) : Prop := ((P86 x0) ∧ True)
def g30_0 (x0 : ByteArray) : Int := g86_0 x0
def g30_1 (x0 : ByteArray) : Bool := g86_1 x0
theorem p30_0 (x0 : ByteArray) : runF tab ext30 false 8 [] 2000 [] tys30 Tryd.f30.results [] [.code b30] (entE 0 0 sig30 (x0, ())) (entL sig30 (x0, ())) = some ([Dyn.mk (Ty.int IntKind.i64) (g86_0 x0), Dyn.mk Ty.bool (g86_1 x0)], [], [P86 x0]) := by kernel_rfl
theorem at30 (x0 : ByteArray) (h : P30 x0) (w0 : World) (O : List Nat) (q : Nat → Value) : AtV Tryd.prog 30 (PostR [⟨Ty.int IntKind.i64, g30_0 x0⟩, ⟨Ty.bool, g30_1 x0⟩] [] [] q w0 O) 8 w0 O q [] [.code b30] (entE 0 0 sig30 (x0, ())) (entL sig30 (x0, ())) := by
  unfold P30 at h
  unfold g30_0 g30_1
  obtain ⟨s0, h⟩ := h
  exact AtV.fin Tryd.func30 tabOk ext30Ok mixed (p30_0 x0) ⟨s0, trivial⟩

def S30 : Am.Spec := { sig := sig30, pre := fun ⟨x0, _⟩ => P30 x0, res := fun ⟨x0, _⟩ => [⟨Ty.int IntKind.i64, g30_0 x0⟩, ⟨Ty.bool, g30_1 x0⟩] }
theorem con30 : Contract Tryd.prog 30 S30 := contract_of Tryd.func30 hb30 (Nat.le_of_ble_eq_true (by kernel_rfl)) (fun ⟨x0, _⟩ h _ w0 O q => at30 x0 h w0 O q)


end Go.Proofs.YtakodkjcmacofaaDoor

/- The contracts of the library that this program uses, laid at this program. Written by a tool of the kit. -/
set_option linter.unusedVariables false
set_option maxRecDepth 100000
namespace Go.Proofs
open Go.Shelf
def Tryd.lays156_ren : Go.Shelf.Ren := ⟨fun | 156 => 157 | 165 => 169 | 166 => 93 | 169 => 97 | 240 => 140 | 241 => 187 | 276 => 166 | 277 => 196 | n => n, fun | 31 => 67 | 9 => 9 | 3 => 3 | 4 => 4 | 0 => 0 | 20 => 20 | 72 => 95 | 76 => 98 | 70 => 93 | 37 => 45 | 75 => 97 | 127 => 133 | 164 => 143 | 5 => 5 | 80 => 102 | n => n, fun | n => n⟩
theorem Tryd.lays156 : Go.Proofs.Lays.n156 Tryd.prog Tryd.lays156_ren := {
  mixed := by kernel_rfl
  f156 := Tryd.func157.trans (congrArg some (by kernel_rfl))
  f165 := Tryd.func169.trans (congrArg some (by kernel_rfl))
  f166 := Tryd.func93.trans (congrArg some (by kernel_rfl))
  f169 := Tryd.func97.trans (congrArg some (by kernel_rfl))
  f240 := Tryd.func140.trans (congrArg some (by kernel_rfl))
  f241 := Tryd.func187.trans (congrArg some (by kernel_rfl))
  f276 := Tryd.func166.trans (congrArg some (by kernel_rfl))
  f277 := Tryd.func196.trans (congrArg some (by kernel_rfl))
  t0 := Tryd.underlying0
  a0 := Tryd.isAgg0
  z0 := Tryd.sizeOf0
  v0 := Tryd.zeroValue0
  t3 := Tryd.underlying3
  a3 := Tryd.isAgg3
  z3 := Tryd.sizeOf3
  v3 := Tryd.zeroValue3
  t4 := Tryd.underlying4
  a4 := Tryd.isAgg4
  z4 := Tryd.sizeOf4
  v4 := Tryd.zeroValue4
  t9 := Tryd.underlying9
  a9 := Tryd.isAgg9
  z9 := Tryd.sizeOf9
  v9 := Tryd.zeroValue9
  t20 := Tryd.underlying20
  a20 := Tryd.isAgg20
  z20 := Tryd.sizeOf20
  v20 := Tryd.zeroValue20
  t31 := Tryd.underlying67
  a31 := Tryd.isAgg67
  z31 := Tryd.sizeOf67
  v31 := Tryd.zeroValue67
  t37 := Tryd.underlying45
  a37 := Tryd.isAgg45
  z37 := Tryd.sizeOf45
  v37 := Tryd.zeroValue45
  t70 := Tryd.underlying93
  a70 := Tryd.isAgg93
  z70 := Tryd.sizeOf93
  v70 := Tryd.zeroValue93
  t72 := Tryd.underlying95
  a72 := Tryd.isAgg95
  z72 := Tryd.sizeOf95
  v72 := Tryd.zeroValue95
  t75 := Tryd.underlying97
  a75 := Tryd.isAgg97
  z75 := Tryd.sizeOf97
  v75 := Tryd.zeroValue97
  t76 := Tryd.underlying98
  a76 := Tryd.isAgg98
  z76 := Tryd.sizeOf98
  v76 := Tryd.zeroValue98
  t127 := Tryd.underlying133
  a127 := Tryd.isAgg133
  z127 := Tryd.sizeOf133
  v127 := Tryd.zeroValue133
  t164 := Tryd.underlying143
  a164 := Tryd.isAgg143
  z164 := Tryd.sizeOf143
  v164 := Tryd.zeroValue143 }
theorem Tryd.Builder_Extra_156 : Builder.Extra Tryd.prog Tryd.lays156_ren := {
  sizeBuilder := by kernel_rfl
  liesBuilder := by kernel_rfl
  t5 := Tryd.underlying5
  a5 := Tryd.isAgg5
  z5 := Tryd.sizeOf5
  v5 := Tryd.zeroValue5
  infoByte := by kernel_rfl
  cellsByte := by kernel_rfl
  sizeByte := by kernel_rfl
  neB5 := by decide }
open Go.RowKit in theorem Tryd.strings_Join_none (a : Option Addr) (c : Nat) (sep : ByteArray) (w : World) :
    Calls Tryd.prog 157 #[.slice a 0 c, .string sep] w fun e w' => e = .returned (.string ⟨#[]⟩) ∧ w' = w := Any.strings_Join_none Tryd.lays156 Tryd.Builder_Extra_156 a c sep w
open Go.RowKit in theorem Tryd.strings_Join (bk o c : Nat) (xs : List ByteArray) (sep : ByteArray) (w : World) (hcells : ∀ (j : Nat) x, xs[j]? = some x → w.cell? ⟨bk, o + j, none⟩ = some (.string x)) (hbk : bk < w.heap.size) (hN : xs.length ≤ 140737488355328) (hcap : xs.length ≤ c) (hlen : (Lib.join (xs.map (·.data.toList)) sep.data.toList).length ≤ 140737488355328) :
    Calls Tryd.prog 157 #[.slice (some ⟨bk, o, none⟩) xs.length c, .string sep] w fun e w' => e = .returned (.string ⟨(Lib.join (xs.map (·.data.toList)) sep.data.toList).toArray⟩) ∧ Below w.heap.size w w' := Any.strings_Join Tryd.lays156 Tryd.Builder_Extra_156 bk o c xs sep w hcells hbk hN hcap hlen
def Tryd.laysM173_ren : Go.Shelf.Ren := ⟨fun | 173 => 141 | 246 => 167 | 283 => 181 | 284 => 182 | 285 => 183 | 286 => 184 | 129 => 192 | 317 => 191 | 318 => 193 | 319 => 194 | 320 => 195 | 337 => 197 | 338 => 198 | n => n, fun | 2 => 2 | 3 => 3 | 9 => 9 | 4 => 4 | 171 => 157 | 0 => 0 | 53 => 134 | 37 => 45 | 5 => 5 | 173 => 160 | 212 => 169 | 51 => 162 | 20 => 20 | 213 => 170 | 46 => 145 | 232 => 179 | 233 => 180 | n => n, fun | 17 => 1 | 18 => 4 | 19 => 5 | n => n⟩
theorem Tryd.laysM173 : Go.Proofs.LaysM.n173 Tryd.prog Tryd.laysM173_ren := {
  mixed := by kernel_rfl
  f129 := Tryd.func192.trans (congrArg some (by kernel_rfl))
  f173 := Tryd.func141.trans (congrArg some (by kernel_rfl))
  f246 := Tryd.func167.trans (congrArg some (by kernel_rfl))
  f283 := Tryd.func181.trans (congrArg some (by kernel_rfl))
  f284 := Tryd.func182.trans (congrArg some (by kernel_rfl))
  f285 := Tryd.func183.trans (congrArg some (by kernel_rfl))
  f286 := Tryd.func184.trans (congrArg some (by kernel_rfl))
  f317 := Tryd.func191.trans (congrArg some (by kernel_rfl))
  f318 := Tryd.func193.trans (congrArg some (by kernel_rfl))
  f319 := Tryd.func194.trans (congrArg some (by kernel_rfl))
  f320 := Tryd.func195.trans (congrArg some (by kernel_rfl))
  f337 := Tryd.func197.trans (congrArg some (by kernel_rfl))
  f338 := Tryd.func198.trans (congrArg some (by kernel_rfl))
  t0 := Tryd.underlying0
  a0 := Tryd.isAgg0
  z0 := Tryd.sizeOf0
  v0 := Tryd.zeroValue0
  t2 := Tryd.underlying2
  a2 := Tryd.isAgg2
  z2 := Tryd.sizeOf2
  v2 := Tryd.zeroValue2
  t3 := Tryd.underlying3
  a3 := Tryd.isAgg3
  z3 := Tryd.sizeOf3
  v3 := Tryd.zeroValue3
  t4 := Tryd.underlying4
  a4 := Tryd.isAgg4
  z4 := Tryd.sizeOf4
  v4 := Tryd.zeroValue4
  t5 := Tryd.underlying5
  a5 := Tryd.isAgg5
  z5 := Tryd.sizeOf5
  v5 := Tryd.zeroValue5
  t9 := Tryd.underlying9
  a9 := Tryd.isAgg9
  z9 := Tryd.sizeOf9
  v9 := Tryd.zeroValue9
  t20 := Tryd.underlying20
  a20 := Tryd.isAgg20
  z20 := Tryd.sizeOf20
  v20 := Tryd.zeroValue20
  t37 := Tryd.underlying45
  a37 := Tryd.isAgg45
  z37 := Tryd.sizeOf45
  v37 := Tryd.zeroValue45
  t46 := Tryd.underlying145
  a46 := Tryd.isAgg145
  z46 := Tryd.sizeOf145
  v46 := Tryd.zeroValue145
  t51 := Tryd.underlying162
  a51 := Tryd.isAgg162
  z51 := Tryd.sizeOf162
  v51 := Tryd.zeroValue162
  t53 := Tryd.underlying134
  a53 := Tryd.isAgg134
  z53 := Tryd.sizeOf134
  v53 := Tryd.zeroValue134
  t171 := Tryd.underlying157
  a171 := Tryd.isAgg157
  z171 := Tryd.sizeOf157
  v171 := Tryd.zeroValue157
  t173 := Tryd.underlying160
  a173 := Tryd.isAgg160
  z173 := Tryd.sizeOf160
  v173 := Tryd.zeroValue160
  t212 := Tryd.underlying169
  a212 := Tryd.isAgg169
  z212 := Tryd.sizeOf169
  v212 := Tryd.zeroValue169
  t213 := Tryd.underlying170
  a213 := Tryd.isAgg170
  z213 := Tryd.sizeOf170
  t232 := Tryd.underlying179
  a232 := Tryd.isAgg179
  z232 := Tryd.sizeOf179
  v232 := Tryd.zeroValue179
  t233 := Tryd.underlying180
  a233 := Tryd.isAgg180
  z233 := Tryd.sizeOf180
  v233 := Tryd.zeroValue180
  g17 := by kernel_rfl
  g18 := by kernel_rfl
  g19 := by kernel_rfl
  i0 := by kernel_rfl
  i2 := by kernel_rfl
  i3 := by kernel_rfl
  i4 := by kernel_rfl
  i5 := by kernel_rfl
  i9 := by kernel_rfl
  i20 := by kernel_rfl
  i37 := by kernel_rfl
  i46 := by kernel_rfl
  i51 := by kernel_rfl
  i53 := by kernel_rfl
  i171 := by kernel_rfl
  i173 := by kernel_rfl
  i212 := by kernel_rfl
  i232 := by kernel_rfl
  i233 := by kernel_rfl
  m17 := by kernel_rfl
  m18 := by kernel_rfl
  m19 := by kernel_rfl }
open Go.RowKit Go.Sort Go.Lib in theorem Tryd.strconv_FormatInt_10 (n : Int) (h0 : -9223372036854775808 ≤ n) (h1 : n ≤ 9223372036854775807) (w : World) (htab : Lib.TabIs Tryd.prog w "internal/strconv.uint64pow10" .u64 Lib.pow10Tab) :
    Calls Tryd.prog 141 #[.int .i64 n, .int .i64 10] w fun e w' => e = .returned (.string ⟨(Lib.itoa n).toArray⟩) ∧ ∃ k os, w' = grow (w.drewN k) os := Any.strconv_FormatInt_10 Tryd.laysM173 n h0 h1 w htab
def Tryd.lays144_ren : Go.Shelf.Ren := ⟨fun | 144 => 163 | 143 => 162 | 219 => 147 | 217 => 171 | 225 => 172 | 224 => 173 | 267 => 174 | 266 => 188 | 314 => 189 | n => n, fun | 9 => 9 | 4 => 4 | 3 => 3 | 5 => 5 | 46 => 145 | 146 => 163 | 51 => 162 | n => n, fun | 1 => 0 | n => n⟩
theorem Tryd.lays144 : Go.Proofs.Lays.n144 Tryd.prog Tryd.lays144_ren := {
  mixed := by kernel_rfl
  f143 := Tryd.func162.trans (congrArg some (by kernel_rfl))
  f144 := Tryd.func163.trans (congrArg some (by kernel_rfl))
  f217 := Tryd.func171.trans (congrArg some (by kernel_rfl))
  f219 := Tryd.func147.trans (congrArg some (by kernel_rfl))
  f224 := Tryd.func173.trans (congrArg some (by kernel_rfl))
  f225 := Tryd.func172.trans (congrArg some (by kernel_rfl))
  f266 := Tryd.func188.trans (congrArg some (by kernel_rfl))
  f267 := Tryd.func174.trans (congrArg some (by kernel_rfl))
  f314 := Tryd.func189.trans (congrArg some (by kernel_rfl))
  t3 := Tryd.underlying3
  a3 := Tryd.isAgg3
  z3 := Tryd.sizeOf3
  v3 := Tryd.zeroValue3
  t4 := Tryd.underlying4
  a4 := Tryd.isAgg4
  z4 := Tryd.sizeOf4
  v4 := Tryd.zeroValue4
  t5 := Tryd.underlying5
  a5 := Tryd.isAgg5
  z5 := Tryd.sizeOf5
  v5 := Tryd.zeroValue5
  t9 := Tryd.underlying9
  a9 := Tryd.isAgg9
  z9 := Tryd.sizeOf9
  v9 := Tryd.zeroValue9
  t46 := Tryd.underlying145
  a46 := Tryd.isAgg145
  z46 := Tryd.sizeOf145
  v46 := Tryd.zeroValue145
  t51 := Tryd.underlying162
  a51 := Tryd.isAgg162
  z51 := Tryd.sizeOf162
  v51 := Tryd.zeroValue162
  t146 := Tryd.underlying163
  a146 := Tryd.isAgg163
  z146 := Tryd.sizeOf163
  v146 := Tryd.zeroValue163
  g1 := by kernel_rfl }
open Go.RowKit Go.Lib in theorem Tryd.strings_Contains (s sub : ByteArray) (m : Int) (w : World) (hs : s.size < 4294967281) (hm : w.cell? ⟨0, 0, none⟩ = some (.int .i64 m)) :
    Calls Tryd.prog 163 #[.string s, .string sub] w fun e w' => e = .returned (.bool (Lib.contains s.data.toList sub.data.toList)) ∧ w' = w := Any.strings_Contains Tryd.lays144 s sub m w hs hm
def Tryd.lays145_ren : Go.Shelf.Ren := ⟨fun | 145 => 64 | 220 => 123 | 219 => 147 | 217 => 171 | 225 => 172 | 224 => 173 | 267 => 174 | 266 => 188 | 314 => 189 | n => n, fun | 9 => 9 | 4 => 4 | 59 => 64 | 3 => 3 | 5 => 5 | 46 => 145 | 146 => 163 | 51 => 162 | n => n, fun | 1 => 0 | n => n⟩
theorem Tryd.lays145 : Go.Proofs.Lays.n145 Tryd.prog Tryd.lays145_ren := {
  mixed := by kernel_rfl
  f145 := Tryd.func64.trans (congrArg some (by kernel_rfl))
  f217 := Tryd.func171.trans (congrArg some (by kernel_rfl))
  f219 := Tryd.func147.trans (congrArg some (by kernel_rfl))
  f220 := Tryd.func123.trans (congrArg some (by kernel_rfl))
  f224 := Tryd.func173.trans (congrArg some (by kernel_rfl))
  f225 := Tryd.func172.trans (congrArg some (by kernel_rfl))
  f266 := Tryd.func188.trans (congrArg some (by kernel_rfl))
  f267 := Tryd.func174.trans (congrArg some (by kernel_rfl))
  f314 := Tryd.func189.trans (congrArg some (by kernel_rfl))
  t3 := Tryd.underlying3
  a3 := Tryd.isAgg3
  z3 := Tryd.sizeOf3
  v3 := Tryd.zeroValue3
  t4 := Tryd.underlying4
  a4 := Tryd.isAgg4
  z4 := Tryd.sizeOf4
  v4 := Tryd.zeroValue4
  t5 := Tryd.underlying5
  a5 := Tryd.isAgg5
  z5 := Tryd.sizeOf5
  v5 := Tryd.zeroValue5
  t9 := Tryd.underlying9
  a9 := Tryd.isAgg9
  z9 := Tryd.sizeOf9
  v9 := Tryd.zeroValue9
  t46 := Tryd.underlying145
  a46 := Tryd.isAgg145
  z46 := Tryd.sizeOf145
  v46 := Tryd.zeroValue145
  t51 := Tryd.underlying162
  a51 := Tryd.isAgg162
  z51 := Tryd.sizeOf162
  v51 := Tryd.zeroValue162
  t59 := Tryd.underlying64
  a59 := Tryd.isAgg64
  z59 := Tryd.sizeOf64
  v59 := Tryd.zeroValue64
  t146 := Tryd.underlying163
  a146 := Tryd.isAgg163
  z146 := Tryd.sizeOf163
  v146 := Tryd.zeroValue163
  g1 := by kernel_rfl }
open Go.RowKit Go.Lib in theorem Tryd.strings_Cut (s sep : ByteArray) (m : Int) (w : World) (hs : s.size < 4294967281) (hm : w.cell? ⟨0, 0, none⟩ = some (.int .i64 m)) :
    Calls Tryd.prog 64 #[.string s, .string sep] w fun e w' => e = .returned (.tuple #[.string ⟨(Lib.cut s.data.toList sep.data.toList).1.toArray⟩, .string ⟨(Lib.cut s.data.toList sep.data.toList).2.1.toArray⟩, .bool (Lib.cut s.data.toList sep.data.toList).2.2]) ∧ ∃ n, w' = w.drewN n := Any.strings_Cut Tryd.lays145 s sep m w hs hm
def Tryd.lays99_ren : Go.Shelf.Ren := ⟨fun | 99 => 84 | 206 => 131 | n => n, fun | 9 => 9 | 4 => 4 | 3 => 3 | n => n, fun | n => n⟩
theorem Tryd.lays99 : Go.Proofs.Lays.n99 Tryd.prog Tryd.lays99_ren := {
  mixed := by kernel_rfl
  f99 := Tryd.func84.trans (congrArg some (by kernel_rfl))
  f206 := Tryd.func131.trans (congrArg some (by kernel_rfl))
  t3 := Tryd.underlying3
  a3 := Tryd.isAgg3
  z3 := Tryd.sizeOf3
  v3 := Tryd.zeroValue3
  t4 := Tryd.underlying4
  a4 := Tryd.isAgg4
  z4 := Tryd.sizeOf4
  v4 := Tryd.zeroValue4
  t9 := Tryd.underlying9
  a9 := Tryd.isAgg9
  z9 := Tryd.sizeOf9
  v9 := Tryd.zeroValue9 }
open Go.RowKit Go.Lib in theorem Tryd.strings_HasPrefix (s p : ByteArray) (w : World) :
    Calls Tryd.prog 84 #[.string s, .string p] w fun e w' => e = .returned (.bool (Lib.hasPrefix s.data.toList p.data.toList)) ∧ w' = w := Any.strings_HasPrefix Tryd.lays99 s p w
def Tryd.lays101_ren : Go.Shelf.Ren := ⟨fun | 101 => 83 | 208 => 130 | 206 => 131 | n => n, fun | 9 => 9 | 4 => 4 | 3 => 3 | n => n, fun | n => n⟩
theorem Tryd.lays101 : Go.Proofs.Lays.n101 Tryd.prog Tryd.lays101_ren := {
  mixed := by kernel_rfl
  f101 := Tryd.func83.trans (congrArg some (by kernel_rfl))
  f206 := Tryd.func131.trans (congrArg some (by kernel_rfl))
  f208 := Tryd.func130.trans (congrArg some (by kernel_rfl))
  t3 := Tryd.underlying3
  a3 := Tryd.isAgg3
  z3 := Tryd.sizeOf3
  v3 := Tryd.zeroValue3
  t4 := Tryd.underlying4
  a4 := Tryd.isAgg4
  z4 := Tryd.sizeOf4
  v4 := Tryd.zeroValue4
  t9 := Tryd.underlying9
  a9 := Tryd.isAgg9
  z9 := Tryd.sizeOf9
  v9 := Tryd.zeroValue9 }
open Go.RowKit Go.Lib in theorem Tryd.strings_TrimPrefix (s p : ByteArray) (w : World) :
    Calls Tryd.prog 83 #[.string s, .string p] w fun e w' => e = .returned (.string ⟨(Lib.trimPrefix s.data.toList p.data.toList).toArray⟩) ∧ w' = w := Any.strings_TrimPrefix Tryd.lays101 s p w
def Tryd.lays102_ren : Go.Shelf.Ren := ⟨fun | 102 => 85 | 209 => 132 | 207 => 158 | n => n, fun | 9 => 9 | 4 => 4 | 3 => 3 | n => n, fun | n => n⟩
theorem Tryd.lays102 : Go.Proofs.Lays.n102 Tryd.prog Tryd.lays102_ren := {
  mixed := by kernel_rfl
  f102 := Tryd.func85.trans (congrArg some (by kernel_rfl))
  f207 := Tryd.func158.trans (congrArg some (by kernel_rfl))
  f209 := Tryd.func132.trans (congrArg some (by kernel_rfl))
  t3 := Tryd.underlying3
  a3 := Tryd.isAgg3
  z3 := Tryd.sizeOf3
  v3 := Tryd.zeroValue3
  t4 := Tryd.underlying4
  a4 := Tryd.isAgg4
  z4 := Tryd.sizeOf4
  v4 := Tryd.zeroValue4
  t9 := Tryd.underlying9
  a9 := Tryd.isAgg9
  z9 := Tryd.sizeOf9
  v9 := Tryd.zeroValue9 }
open Go.RowKit Go.Lib in theorem Tryd.strings_TrimSuffix (s p : ByteArray) (w : World) (hs : s.size ≤ 9223372036854775807) :
    Calls Tryd.prog 85 #[.string s, .string p] w fun e w' => e = .returned (.string ⟨(Lib.trimSuffix s.data.toList p.data.toList).toArray⟩) ∧ w' = w := Any.strings_TrimSuffix Tryd.lays102 s p w hs
def Tryd.lays146_ren : Go.Shelf.Ren := ⟨fun | 146 => 87 | 221 => 134 | 268 => 160 | 138 => 161 | 143 => 162 | 195 => 177 | 197 => 178 | 218 => 179 | 219 => 147 | 260 => 190 | 217 => 171 | 225 => 172 | 224 => 173 | 267 => 174 | 266 => 188 | 314 => 189 | n => n, fun | 9 => 9 | 31 => 67 | 3 => 3 | 4 => 4 | 0 => 0 | 105 => 154 | 21 => 21 | 5 => 5 | 46 => 145 | 119 => 174 | 139 => 177 | 138 => 176 | 146 => 163 | 51 => 162 | n => n, fun | 1 => 0 | 3 => 2 | 4 => 3 | n => n⟩
theorem Tryd.lays146 : Go.Proofs.Lays.n146 Tryd.prog Tryd.lays146_ren := {
  mixed := by kernel_rfl
  f138 := Tryd.func161.trans (congrArg some (by kernel_rfl))
  f143 := Tryd.func162.trans (congrArg some (by kernel_rfl))
  f146 := Tryd.func87.trans (congrArg some (by kernel_rfl))
  f195 := Tryd.func177.trans (congrArg some (by kernel_rfl))
  f197 := Tryd.func178.trans (congrArg some (by kernel_rfl))
  f217 := Tryd.func171.trans (congrArg some (by kernel_rfl))
  f218 := Tryd.func179.trans (congrArg some (by kernel_rfl))
  f219 := Tryd.func147.trans (congrArg some (by kernel_rfl))
  f221 := Tryd.func134.trans (congrArg some (by kernel_rfl))
  f224 := Tryd.func173.trans (congrArg some (by kernel_rfl))
  f225 := Tryd.func172.trans (congrArg some (by kernel_rfl))
  f260 := Tryd.func190.trans (congrArg some (by kernel_rfl))
  f266 := Tryd.func188.trans (congrArg some (by kernel_rfl))
  f267 := Tryd.func174.trans (congrArg some (by kernel_rfl))
  f268 := Tryd.func160.trans (congrArg some (by kernel_rfl))
  f314 := Tryd.func189.trans (congrArg some (by kernel_rfl))
  t0 := Tryd.underlying0
  a0 := Tryd.isAgg0
  z0 := Tryd.sizeOf0
  v0 := Tryd.zeroValue0
  t3 := Tryd.underlying3
  a3 := Tryd.isAgg3
  z3 := Tryd.sizeOf3
  v3 := Tryd.zeroValue3
  t4 := Tryd.underlying4
  a4 := Tryd.isAgg4
  z4 := Tryd.sizeOf4
  v4 := Tryd.zeroValue4
  t5 := Tryd.underlying5
  a5 := Tryd.isAgg5
  z5 := Tryd.sizeOf5
  v5 := Tryd.zeroValue5
  t9 := Tryd.underlying9
  a9 := Tryd.isAgg9
  z9 := Tryd.sizeOf9
  v9 := Tryd.zeroValue9
  t21 := Tryd.underlying21
  a21 := Tryd.isAgg21
  z21 := Tryd.sizeOf21
  v21 := Tryd.zeroValue21
  t31 := Tryd.underlying67
  a31 := Tryd.isAgg67
  z31 := Tryd.sizeOf67
  v31 := Tryd.zeroValue67
  t46 := Tryd.underlying145
  a46 := Tryd.isAgg145
  z46 := Tryd.sizeOf145
  v46 := Tryd.zeroValue145
  t51 := Tryd.underlying162
  a51 := Tryd.isAgg162
  z51 := Tryd.sizeOf162
  v51 := Tryd.zeroValue162
  t105 := Tryd.underlying154
  a105 := Tryd.isAgg154
  z105 := Tryd.sizeOf154
  v105 := Tryd.zeroValue154
  t119 := Tryd.underlying174
  a119 := Tryd.isAgg174
  z119 := Tryd.sizeOf174
  t138 := Tryd.underlying176
  a138 := Tryd.isAgg176
  z138 := Tryd.sizeOf176
  v138 := Tryd.zeroValue176
  t139 := Tryd.underlying177
  a139 := Tryd.isAgg177
  z139 := Tryd.sizeOf177
  v139 := Tryd.zeroValue177
  t146 := Tryd.underlying163
  a146 := Tryd.isAgg163
  z146 := Tryd.sizeOf163
  v146 := Tryd.zeroValue163
  g1 := by kernel_rfl
  g3 := by kernel_rfl
  g4 := by kernel_rfl }
open Go.RowKit Go.Lib in theorem Tryd.strings_Split (s sep : ByteArray) (m : Int) (w : World) (hs : s.size < 4294967281) (hm : w.cell? ⟨0, 0, none⟩ = some (.int .i64 m)) (h1 : 1 ≤ sep.size) :
    Calls Tryd.prog 87 #[.string s, .string sep] w fun e w' =>
      e = .returned (.slice (some ⟨w.heap.size, 0, none⟩) (Lib.countB s sep + 1) (Lib.countB s sep + 1)) ∧ w' = w.alloc (.cells ((Lib.splitB sep 0 (Lib.countB s sep) s).map Value.string).toArray 9) := Any.strings_Split Tryd.lays146 (by kernel_rfl) s sep m w hs hm h1
def Tryd.lays105_ren : Go.Shelf.Ren := ⟨fun | 105 => 143 | 212 => 168 | 99 => 84 | 165 => 169 | 166 => 93 | 170 => 170 | 169 => 97 | 263 => 185 | 264 => 186 | 206 => 131 | 240 => 140 | 241 => 187 | 276 => 166 | 277 => 196 | n => n, fun | 9 => 9 | 3 => 3 | 4 => 4 | 20 => 20 | 0 => 0 | 46 => 145 | 109 => 146 | 5 => 5 | 72 => 95 | 76 => 98 | 51 => 162 | 146 => 163 | 53 => 134 | 148 => 165 | 70 => 93 | 37 => 45 | 75 => 97 | 127 => 133 | 164 => 143 | 80 => 102 | n => n, fun | n => n⟩
theorem Tryd.lays105 : Go.Proofs.Lays.n105 Tryd.prog Tryd.lays105_ren := {
  mixed := by kernel_rfl
  f99 := Tryd.func84.trans (congrArg some (by kernel_rfl))
  f105 := Tryd.func143.trans (congrArg some (by kernel_rfl))
  f165 := Tryd.func169.trans (congrArg some (by kernel_rfl))
  f166 := Tryd.func93.trans (congrArg some (by kernel_rfl))
  f169 := Tryd.func97.trans (congrArg some (by kernel_rfl))
  f170 := Tryd.func170.trans (congrArg some (by kernel_rfl))
  f206 := Tryd.func131.trans (congrArg some (by kernel_rfl))
  f212 := Tryd.func168.trans (congrArg some (by kernel_rfl))
  f240 := Tryd.func140.trans (congrArg some (by kernel_rfl))
  f241 := Tryd.func187.trans (congrArg some (by kernel_rfl))
  f263 := Tryd.func185.trans (congrArg some (by kernel_rfl))
  f264 := Tryd.func186.trans (congrArg some (by kernel_rfl))
  f276 := Tryd.func166.trans (congrArg some (by kernel_rfl))
  f277 := Tryd.func196.trans (congrArg some (by kernel_rfl))
  t0 := Tryd.underlying0
  a0 := Tryd.isAgg0
  z0 := Tryd.sizeOf0
  v0 := Tryd.zeroValue0
  t3 := Tryd.underlying3
  a3 := Tryd.isAgg3
  z3 := Tryd.sizeOf3
  v3 := Tryd.zeroValue3
  t4 := Tryd.underlying4
  a4 := Tryd.isAgg4
  z4 := Tryd.sizeOf4
  v4 := Tryd.zeroValue4
  t5 := Tryd.underlying5
  a5 := Tryd.isAgg5
  z5 := Tryd.sizeOf5
  v5 := Tryd.zeroValue5
  t9 := Tryd.underlying9
  a9 := Tryd.isAgg9
  z9 := Tryd.sizeOf9
  v9 := Tryd.zeroValue9
  t20 := Tryd.underlying20
  a20 := Tryd.isAgg20
  z20 := Tryd.sizeOf20
  v20 := Tryd.zeroValue20
  t37 := Tryd.underlying45
  a37 := Tryd.isAgg45
  z37 := Tryd.sizeOf45
  v37 := Tryd.zeroValue45
  t46 := Tryd.underlying145
  a46 := Tryd.isAgg145
  z46 := Tryd.sizeOf145
  v46 := Tryd.zeroValue145
  t51 := Tryd.underlying162
  a51 := Tryd.isAgg162
  z51 := Tryd.sizeOf162
  v51 := Tryd.zeroValue162
  t53 := Tryd.underlying134
  a53 := Tryd.isAgg134
  z53 := Tryd.sizeOf134
  v53 := Tryd.zeroValue134
  t70 := Tryd.underlying93
  a70 := Tryd.isAgg93
  z70 := Tryd.sizeOf93
  v70 := Tryd.zeroValue93
  t72 := Tryd.underlying95
  a72 := Tryd.isAgg95
  z72 := Tryd.sizeOf95
  v72 := Tryd.zeroValue95
  t75 := Tryd.underlying97
  a75 := Tryd.isAgg97
  z75 := Tryd.sizeOf97
  v75 := Tryd.zeroValue97
  t76 := Tryd.underlying98
  a76 := Tryd.isAgg98
  z76 := Tryd.sizeOf98
  v76 := Tryd.zeroValue98
  t109 := Tryd.underlying146
  a109 := Tryd.isAgg146
  z109 := Tryd.sizeOf146
  v109 := Tryd.zeroValue146
  t127 := Tryd.underlying133
  a127 := Tryd.isAgg133
  z127 := Tryd.sizeOf133
  v127 := Tryd.zeroValue133
  t146 := Tryd.underlying163
  a146 := Tryd.isAgg163
  z146 := Tryd.sizeOf163
  v146 := Tryd.zeroValue163
  t148 := Tryd.underlying165
  a148 := Tryd.isAgg165
  z148 := Tryd.sizeOf165
  v148 := Tryd.zeroValue165
  t164 := Tryd.underlying143
  a164 := Tryd.isAgg143
  z164 := Tryd.sizeOf143
  v164 := Tryd.zeroValue143 }
theorem Tryd.Builder_Extra_105 : Builder.Extra Tryd.prog Tryd.lays105_ren := {
  sizeBuilder := by kernel_rfl
  liesBuilder := by kernel_rfl
  t5 := Tryd.underlying5
  a5 := Tryd.isAgg5
  z5 := Tryd.sizeOf5
  v5 := Tryd.zeroValue5
  infoByte := by kernel_rfl
  cellsByte := by kernel_rfl
  sizeByte := by kernel_rfl
  neB5 := by decide }
open Go.RowKit Go.Lib in theorem Tryd.strings_Repeat (s : ByteArray) (c : Nat) (w : World) (hc : c ≤ 9223372036854775807) (hlen : s.size * c ≤ 140737488355328) :
    Calls Tryd.prog 143 #[.string s, .int .i64 c] w fun e w' => e = .returned (.string ⟨(Lib.repeatL s.data.toList c).toArray⟩) ∧ Below w.heap.size w w' := Any.strings_Repeat Tryd.lays105 Tryd.Builder_Extra_105 s c w hc hlen
end Go.Proofs

/- Function 87 (strings.Split): its contract, off what is known of the library. -/
set_option linter.unusedVariables false
set_option linter.unusedSimpArgs false
set_option maxRecDepth 100000
namespace Go.Proofs.YtakodkjcmacofaaDoor
open Go Go.Am Go.Proofs

def sig87 : List AT := [AT.v Ty.str, AT.v Ty.str]
def g87_0 (x0 x1 : ByteArray) : List ByteArray := Lib.splitB x1 0 (Lib.countB x0 x1) x0
def P87 (x0 x1 : ByteArray) : Prop := x0.size < 4294967281 ∧ 1 ≤ x1.size
def S87 : Am.Spec := { sig := sig87, pre := fun ⟨x0, x1, _⟩ => P87 x0 x1, res := fun ⟨x0, x1, _⟩ => [⟨Ty.sl Ty.str, g87_0 x0 x1⟩] }

theorem con87 : Contract Tryd.prog 87 S87 := by
  rintro w ⟨x0, x1, u⟩ vs bss hgo hp ⟨v0, s0, b0, bs0, rfl, rfl, ⟨rfl, rfl, _⟩, v1, s1, b1, bs1, rfl, rfl, ⟨rfl, rfl, _⟩, rfl, rfl⟩ hn
  obtain ⟨hs, h1⟩ : x0.size < 4294967281 ∧ 1 ≤ x1.size := hp
  obtain ⟨m, hm⟩ := maxLenG hgo.inv
  refine (Tryd.strings_Split x0 x1 m w hs hm h1).mono ?_
  rintro e w' ⟨rfl, rfl⟩
  have hlen : (g87_0 x0 x1).length = Lib.countB x0 x1 + 1 := Lib.splitB_all x1 h1 0 _ _ rfl
  have hle := Lib.countB_le x1 h1 x0.size x0 (Nat.le_refl _)
  have hparts : ∀ y ∈ g87_0 x0 x1, y.size ≤ maxLen := fun y hy => by
    have := splitB_part x1 0 _ _ y hy
    unfold maxLen; omega
  have e1 : ∀ xs : List ByteArray, fcs .str xs = xs.map Value.string := by
    intro xs
    induction xs with
    | nil => rfl
    | cons a r ih => unfold fcs at ih ⊢; rw [List.map_cons, List.flatten_cons, ih]; rfl
  have ho : OwnC (w.alloc (.cells ((g87_0 x0 x1).map Value.string).toArray 9)) (.sl .str) (g87_0 x0 x1) [.slice (some ⟨w.heap.size, 0, none⟩) (Lib.countB x0 x1 + 1) (Lib.countB x0 x1 + 1)] [w.heap.size] :=
    own_flat_mk rfl hparts hlen.symm (Nat.le_of_eq hlen) (by unfold maxLen; omega) (by rw [List.size_toArray, List.length_map, hlen]; simp [Ty.size]) (heap_new w _) (freeS_zero _ _) (fun j u hj => by
      rw [e1] at hj
      rw [Nat.zero_add, ← Array.getElem?_toList]
      exact hj)
  refine ⟨[_], [], [[w.heap.size]], rfl, (Kept.refl _ _).alloc _, ⟨_, _, _, _, _, rfl, rfl, ho, rfl, rfl, rfl⟩, ⟨rfl, rfl⟩, by simp, fun b hb hg => ?_⟩
  simp at hb
  have := hg.1
  omega

end Go.Proofs.YtakodkjcmacofaaDoor

/- Function 65 (impl.number): its runs between cut points. Written by a program of this repo (gen). -/
set_option linter.unusedVariables false
set_option linter.unusedSimpArgs false
set_option maxRecDepth 100000
namespace Go.Proofs.YtakodkjcmacofaaDoor
open Go Go.Am Go.Proofs
def ext65 : Ext := []
theorem ext65Ok : ExtOk Tryd.prog ext65 := trivial
/-! Function 65. -/
noncomputable def b65 : Code := bodyOf Tryd.f65
theorem hb65 : Tryd.f65.body = some b65 := by kernel_rfl
def sig65 : List AT := [AT.v (Ty.str)]
def tys65 : List Ty := [Ty.int IntKind.i64]
def E65_5 (v3 : Int) (v17 : Int) (x0 : ByteArray) : Env := [(3, PV.a (Atom.val (Value.int IntKind.i64 v3))), (15, PV.a (Atom.osl 0 Option.none)), (16, PV.a (Atom.val (Value.int IntKind.i64 (↑(List.length (bytesOf x0)) : Int)))), (17, PV.a (Atom.val (Value.int IntKind.i64 v17)))]
def L65_5 (v3 : Int) (v17 : Int) (x0 : ByteArray) : Heap := [Option.some (Arr.mk (Ty.int IntKind.u8) (bytesOf x0) Bool.false)]
mutual
def R65 : Nat → ByteArray → List Dyn → Prop
  | 0, _, _ => False
  | n + 1, x0, ds => (if (Decidable.decide ((↑(ByteArray.size x0) : Int) < 1)) = true then (ds = [Dyn.mk (Ty.int IntKind.i64) (-1)]) else (if (Decidable.decide ((↑(ByteArray.size x0) : Int) > 12)) = true then (ds = [Dyn.mk (Ty.int IntKind.i64) (-1)]) else (R65_5 n (0) (0) (x0) ds)))
def R65_5 : Nat → Int → Int → ByteArray → List Dyn → Prop
  | 0, _, _, _, _ => False
  | n + 1, v3, v17, x0, ds => (if (Decidable.decide (v17 < (↑(List.length (bytesOf x0)) : Int))) = true then ((0 ≤ v17) ∧ (v17 < (↑(List.length (bytesOf x0)) : Int)) ∧ (if (Decidable.decide (List.getD (bytesOf x0) (Int.toNat v17) 0 < 48)) = true then (ds = [Dyn.mk (Ty.int IntKind.i64) (-1)]) else (if (Decidable.decide (List.getD (bytesOf x0) (Int.toNat v17) 0 > 57)) = true then (ds = [Dyn.mk (Ty.int IntKind.i64) (-1)]) else ((InR IntKind.i64 (10 * v3)) ∧ ((InR IntKind.u8 (List.getD (bytesOf x0) (Int.toNat v17) 0 - 48)) ∧ ((InR IntKind.i64 (List.getD (bytesOf x0) (Int.toNat v17) 0 - 48)) ∧ ((InR IntKind.i64 (10 * v3 + (List.getD (bytesOf x0) (Int.toNat v17) 0 - 48))) ∧ ((InR IntKind.i64 (v17 + 1)) ∧ (R65_5 n (10 * v3 + (List.getD (bytesOf x0) (Int.toNat v17) 0 - 48)) (v17 + 1) (x0) ds))))))))) else (ds = [Dyn.mk (Ty.int IntKind.i64) v3]))
end
theorem p65_0 (x0 : ByteArray) : runF tab ext65 false 35 [] 2000 [] tys65 Tryd.f65.results [true, true] [.code b65] (entE 0 0 sig65 (x0, ())) (entL sig65 (x0, ())) = some ([Dyn.mk (Ty.int IntKind.i64) (-1)], [], [Decidable.decide ((↑(ByteArray.size x0) : Int) < 1) = Bool.true, Bool.true = Bool.true]) := by kernel_rfl
theorem p65_1 (x0 : ByteArray) : runF tab ext65 false 35 [] 2000 [] tys65 Tryd.f65.results [false, true] [.code b65] (entE 0 0 sig65 (x0, ())) (entL sig65 (x0, ())) = some ([Dyn.mk (Ty.int IntKind.i64) (-1)], [], [Decidable.decide ((↑(ByteArray.size x0) : Int) < 1) = Bool.false, Decidable.decide ((↑(ByteArray.size x0) : Int) > 12) = Bool.true]) := by kernel_rfl
theorem p65_2 (x0 : ByteArray) : Am.runN tab ext65 false 35 [] 2000 [] [] [3, 15, 16, 17] [0] [false, false] [.code b65] (entE 0 0 sig65 (x0, ())) (entL sig65 (x0, ())) = some (cutAt b65 5, E65_5 (0) (0) (x0), L65_5 (0) (0) (x0), [Decidable.decide ((↑(ByteArray.size x0) : Int) < 1) = Bool.false, Decidable.decide ((↑(ByteArray.size x0) : Int) > 12) = Bool.false]) := by kernel_rfl
theorem p65_3 (v3 : Int) (v17 : Int) (x0 : ByteArray) : runF tab ext65 false 35 [] 2000 [] tys65 Tryd.f65.results [true, true, true] (cutAt b65 5) (E65_5 v3 v17 x0) (L65_5 v3 v17 x0) = some ([Dyn.mk (Ty.int IntKind.i64) (-1)], [], [Decidable.decide (v17 < (↑(List.length (bytesOf x0)) : Int)) = Bool.true, 0 ≤ v17, v17 < (↑(List.length (bytesOf x0)) : Int), Decidable.decide (List.getD (bytesOf x0) (Int.toNat v17) 0 < 48) = Bool.true, Bool.true = Bool.true]) := by kernel_rfl
theorem p65_4 (v3 : Int) (v17 : Int) (x0 : ByteArray) : runF tab ext65 false 35 [] 2000 [] tys65 Tryd.f65.results [true, false, true] (cutAt b65 5) (E65_5 v3 v17 x0) (L65_5 v3 v17 x0) = some ([Dyn.mk (Ty.int IntKind.i64) (-1)], [], [Decidable.decide (v17 < (↑(List.length (bytesOf x0)) : Int)) = Bool.true, 0 ≤ v17, v17 < (↑(List.length (bytesOf x0)) : Int), Decidable.decide (List.getD (bytesOf x0) (Int.toNat v17) 0 < 48) = Bool.false, Decidable.decide (List.getD (bytesOf x0) (Int.toNat v17) 0 > 57) = Bool.true]) := by kernel_rfl
theorem p65_5 (v3 : Int) (v17 : Int) (x0 : ByteArray) : Am.runN tab ext65 false 35 [] 2000 [] [] [3, 15, 16, 17] [0] [true, false, false] (cutAt b65 5) (E65_5 v3 v17 x0) (L65_5 v3 v17 x0) = some (cutAt b65 5, E65_5 (10 * v3 + (List.getD (bytesOf x0) (Int.toNat v17) 0 - 48)) (v17 + 1) (x0), L65_5 (10 * v3 + (List.getD (bytesOf x0) (Int.toNat v17) 0 - 48)) (v17 + 1) (x0), [Decidable.decide (v17 < (↑(List.length (bytesOf x0)) : Int)) = Bool.true, 0 ≤ v17, v17 < (↑(List.length (bytesOf x0)) : Int), Decidable.decide (List.getD (bytesOf x0) (Int.toNat v17) 0 < 48) = Bool.false, Decidable.decide (List.getD (bytesOf x0) (Int.toNat v17) 0 > 57) = Bool.false, InR IntKind.i64 (10 * v3), InR IntKind.u8 (List.getD (bytesOf x0) (Int.toNat v17) 0 - 48), InR IntKind.i64 (List.getD (bytesOf x0) (Int.toNat v17) 0 - 48), InR IntKind.i64 (10 * v3 + (List.getD (bytesOf x0) (Int.toNat v17) 0 - 48)), InR IntKind.i64 (v17 + 1)]) := by kernel_rfl
theorem p65_6 (v3 : Int) (v17 : Int) (x0 : ByteArray) : runF tab ext65 false 35 [] 2000 [] tys65 Tryd.f65.results [false] (cutAt b65 5) (E65_5 v3 v17 x0) (L65_5 v3 v17 x0) = some ([Dyn.mk (Ty.int IntKind.i64) v3], [], [Decidable.decide (v17 < (↑(List.length (bytesOf x0)) : Int)) = Bool.false]) := by kernel_rfl
theorem snd65 : ∀ n, (∀ (x0 : ByteArray) ds, R65 n x0 ds → ∀ w0 O q, AtV Tryd.prog 65 (PostR ds [] [] q w0 O) 35 w0 O q [] [.code b65] (entE 0 0 sig65 (x0, ())) (entL sig65 (x0, ()))) ∧ (∀ (v3 : Int) (v17 : Int) (x0 : ByteArray) ds, R65_5 n v3 v17 x0 ds → ∀ w0 O q, AtV Tryd.prog 65 (PostR ds [] [] q w0 O) 35 w0 O q [] (cutAt b65 5) (E65_5 v3 v17 x0) (L65_5 v3 v17 x0)) := by
  intro n
  induction n with
  | zero => exact ⟨fun _ _ h => by simp only [R65] at h, fun _ _ _ _ h => by simp only [R65_5] at h⟩
  | succ n ih =>
  obtain ⟨ih, ih5⟩ := ih
  refine ⟨?_, ?_⟩
  · intro x0 ds h w0 O q
    rw [R65] at h
    by_cases b0 : (Decidable.decide ((↑(ByteArray.size x0) : Int) < 1)) = true
    · rw [if_pos b0] at h
      subst h
      exact AtV.fin Tryd.func65 tabOk ext65Ok mixed (p65_0 x0) ⟨b0, rfl, trivial⟩
    · rw [if_neg b0] at h
      replace b0 := Bool.eq_false_iff.2 b0
      by_cases b1 : (Decidable.decide ((↑(ByteArray.size x0) : Int) > 12)) = true
      · rw [if_pos b1] at h
        subst h
        exact AtV.fin Tryd.func65 tabOk ext65Ok mixed (p65_1 x0) ⟨b0, b1, trivial⟩
      · rw [if_neg b1] at h
        replace b1 := Bool.eq_false_iff.2 b1
        exact AtV.runN tabOk ext65Ok mixed (p65_2 x0) ⟨b0, b1, trivial⟩ (ih5 _ _ _ _ h w0 O q)

  · intro v3 v17 x0 ds h w0 O q
    rw [R65_5] at h
    by_cases b0 : (Decidable.decide (v17 < (↑(List.length (bytesOf x0)) : Int))) = true
    · rw [if_pos b0] at h
      obtain ⟨s0, s1, h⟩ := h
      by_cases b1 : (Decidable.decide (List.getD (bytesOf x0) (Int.toNat v17) 0 < 48)) = true
      · rw [if_pos b1] at h
        subst h
        exact AtV.fin Tryd.func65 tabOk ext65Ok mixed (p65_3 v3 v17 x0) ⟨b0, s0, s1, b1, rfl, trivial⟩
      · rw [if_neg b1] at h
        replace b1 := Bool.eq_false_iff.2 b1
        by_cases b2 : (Decidable.decide (List.getD (bytesOf x0) (Int.toNat v17) 0 > 57)) = true
        · rw [if_pos b2] at h
          subst h
          exact AtV.fin Tryd.func65 tabOk ext65Ok mixed (p65_4 v3 v17 x0) ⟨b0, s0, s1, b1, b2, trivial⟩
        · rw [if_neg b2] at h
          replace b2 := Bool.eq_false_iff.2 b2
          obtain ⟨s2, h⟩ := h
          obtain ⟨s3, h⟩ := h
          obtain ⟨s4, h⟩ := h
          obtain ⟨s5, h⟩ := h
          obtain ⟨s6, h⟩ := h
          exact AtV.runN tabOk ext65Ok mixed (p65_5 v3 v17 x0) ⟨b0, s0, s1, b1, b2, s2, s3, s4, s5, s6, trivial⟩ (ih5 _ _ _ _ h w0 O q)
    · rw [if_neg b0] at h
      replace b0 := Bool.eq_false_iff.2 b0
      subst h
      exact AtV.fin Tryd.func65 tabOk ext65Ok mixed (p65_6 v3 v17 x0) ⟨b0, trivial⟩



def num65 : List UInt8 → Int → Int
  | [], n => n
  | b :: r, n => if decide (48 ≤ b.toNat) && decide (b.toNat ≤ 57) then num65 r (10 * n + ((b.toNat : Int) - 48)) else -1
def g65_0 (x0 : ByteArray) : Int := if x0.size < 1 ∨ 12 < x0.size then -1 else num65 x0.data.toList 0
def P65 (x0 : ByteArray) : Prop := True

theorem run65 (x0 : ByteArray) (hs : x0.size ≤ 12) : ∀ (k i m : Nat), i + k = x0.size → m < 10 ^ i →
    R65_5 (k + 1) (m : Int) (i : Int) x0 [⟨.int .i64, num65 (x0.data.toList.drop i) (m : Int)⟩] := by
  intro k
  have hll : x0.data.toList.length = x0.size := rfl
  have hbl : (bytesOf x0).length = x0.size := by unfold bytesOf; rw [List.length_map]; rfl
  induction k with
  | zero =>
    intro i m hi hm
    rw [R65_5, if_neg (by rw [hbl]; simp; omega), List.drop_of_length_le (by omega)]
    rfl
  | succ k ih =>
    intro i m hi hm
    have hlt : i < x0.data.toList.length := by rw [hll]; omega
    have hcons : x0.data.toList.drop i = x0.data.toList.getD i 0 :: x0.data.toList.drop (i + 1) := drop_get _ i 0 hlt
    have hbyte : (bytesOf x0).getD i 0 = ((x0.data.toList.getD i 0).toNat : Int) := by
      unfold bytesOf
      rw [List.getD_eq_getElem?_getD, List.getD_eq_getElem?_getD, List.getElem?_map, List.getElem?_eq_getElem hlt]
      rfl
    rw [R65_5, if_pos (by rw [hbl]; simp; omega), hcons]
    simp only [Int.toNat_natCast, hbyte, hbl]
    generalize x0.data.toList.getD i 0 = b at *
    refine ⟨by omega, by omega, ?_⟩
    unfold num65
    by_cases h1 : b.toNat < 48
    · have h1' : (b.toNat : Int) < 48 := by omega
      have h1'' : ¬ 48 ≤ b.toNat := by omega
      simp [h1', h1'']
    · have h1' : ¬ (b.toNat : Int) < 48 := by omega
      have h1'' : 48 ≤ b.toNat := by omega
      by_cases h2 : b.toNat > 57
      · have h2' : (b.toNat : Int) > 57 := by omega
        have h2'' : ¬ b.toNat ≤ 57 := by omega
        simp [h1', h2', h2'']
      · have h2' : ¬ (b.toNat : Int) > 57 := by omega
        have h2'' : b.toNat ≤ 57 := by omega
        have hp : 10 ^ i ≤ 10 ^ 11 := Nat.pow_le_pow_right (by decide) (by omega)
        have hm2 : m < 100000000000 := Nat.lt_of_lt_of_le hm hp
        simp only [h1', h1'', h2', h2'', decide_true, decide_false, Bool.and_self, Bool.false_eq_true, if_false, if_true]
        refine ⟨by rw [i64_iff]; omega, by rw [u8_iff]; omega, by rw [i64_iff]; omega, by rw [i64_iff]; omega, by rw [i64_iff]; omega, ?_⟩
        have e1 : 10 * (m : Int) + ((b.toNat : Int) - 48) = ((10 * m + (b.toNat - 48) : Nat) : Int) := by omega
        have e2 : (i : Int) + 1 = ((i + 1 : Nat) : Int) := by omega
        rw [e1, e2]
        exact ih (i + 1) (10 * m + (b.toNat - 48)) (by omega) (by rw [Nat.pow_succ]; omega)

theorem top65 (x0 : ByteArray) : R65 (x0.size + 1 + 1) x0 [⟨.int .i64, g65_0 x0⟩] := by
  rw [R65]
  unfold g65_0
  by_cases h1 : x0.size < 1
  · rw [if_pos (by simp; omega), if_pos (.inl h1)]
  · rw [if_neg (by simp; omega)]
    by_cases h2 : 12 < x0.size
    · rw [if_pos (by simp; omega), if_pos (.inr h2)]
    · rw [if_neg (by simp; omega), if_neg (by omega)]
      exact run65 x0 (by omega) x0.size 0 0 (by omega) (by decide)

def S65 : Am.Spec := { sig := sig65, pre := fun ⟨x0, _⟩ => P65 x0, res := fun ⟨x0, _⟩ => [⟨.int .i64, g65_0 x0⟩] }
theorem con65 : Contract Tryd.prog 65 S65 := contract_of Tryd.func65 hb65 (Nat.le_of_ble_eq_true (by kernel_rfl)) (fun ⟨x0, _⟩ h hwf w0 O q =>
  (snd65 _).1 x0 _ (top65 x0) w0 O q)

end Go.Proofs.YtakodkjcmacofaaDoor

/- Function 102 (impl.within): its runs between cut points. Written by a program of this repo (gen). -/
set_option linter.unusedVariables false
set_option linter.unusedSimpArgs false
set_option maxRecDepth 100000
namespace Go.Proofs.YtakodkjcmacofaaDoor
open Go Go.Am Go.Proofs
def ext102 : Ext := []
theorem ext102Ok : ExtOk Tryd.prog ext102 := trivial
/-! Function 102. -/
noncomputable def b102 : Code := bodyOf Tryd.f102
theorem hb102 : Tryd.f102.body = some b102 := by kernel_rfl
def sig102 : List AT := [AT.v (Ty.int IntKind.i64), AT.v (Ty.int IntKind.i64), AT.v (Ty.int IntKind.i64)]
def tys102 : List Ty := [Ty.bool]
def P102 (x0 : Int) (x1 : Int) (x2 : Int) : Prop := True
def g102_0 (x0 : Int) (x1 : Int) (x2 : Int) : Bool := (if (Decidable.decide (x0 ≥ x1)) = true then Decidable.decide (x0 ≤ x2) else Bool.false)
theorem p102_0 (x0 : Int) (x1 : Int) (x2 : Int) : runF tab ext102 false 15 [] 2000 [] tys102 Tryd.f102.results [true] [.code b102] (entE 0 0 sig102 (x0, x1, x2, ())) (entL sig102 (x0, x1, x2, ())) = some ([Dyn.mk Ty.bool (Decidable.decide (x0 ≤ x2))], [], [Decidable.decide (x0 ≥ x1) = Bool.true]) := by kernel_rfl
theorem p102_1 (x0 : Int) (x1 : Int) (x2 : Int) : runF tab ext102 false 15 [] 2000 [] tys102 Tryd.f102.results [false] [.code b102] (entE 0 0 sig102 (x0, x1, x2, ())) (entL sig102 (x0, x1, x2, ())) = some ([Dyn.mk Ty.bool Bool.false], [], [Decidable.decide (x0 ≥ x1) = Bool.false]) := by kernel_rfl
theorem at102 (x0 : Int) (x1 : Int) (x2 : Int) (h : P102 x0 x1 x2) (w0 : World) (O : List Nat) (q : Nat → Value) : AtV Tryd.prog 102 (PostR [⟨Ty.bool, g102_0 x0 x1 x2⟩] [] [] q w0 O) 15 w0 O q [] [.code b102] (entE 0 0 sig102 (x0, x1, x2, ())) (entL sig102 (x0, x1, x2, ())) := by
  unfold P102 at h
  unfold g102_0
  by_cases b0 : (Decidable.decide (x0 ≥ x1)) = true
  · try simp only [if_pos b0] at h ⊢
    exact AtV.fin Tryd.func102 tabOk ext102Ok mixed (p102_0 x0 x1 x2) ⟨b0, trivial⟩
  · try simp only [if_neg b0] at h ⊢
    replace b0 := Bool.eq_false_iff.2 b0
    exact AtV.fin Tryd.func102 tabOk ext102Ok mixed (p102_1 x0 x1 x2) ⟨b0, trivial⟩

def S102 : Am.Spec := { sig := sig102, pre := fun ⟨x0, x1, x2, _⟩ => P102 x0 x1 x2, res := fun ⟨x0, x1, x2, _⟩ => [⟨Ty.bool, g102_0 x0 x1 x2⟩] }
theorem con102 : Contract Tryd.prog 102 S102 := contract_of Tryd.func102 hb102 (Nat.le_of_ble_eq_true (by kernel_rfl)) (fun ⟨x0, x1, x2, _⟩ h _ w0 O q => at102 x0 x1 x2 h w0 O q)


end Go.Proofs.YtakodkjcmacofaaDoor

/- Function 115 (impl.monthLength): its runs between cut points. Written by a program of this repo (gen). -/
set_option linter.unusedVariables false
set_option linter.unusedSimpArgs false
set_option maxRecDepth 100000
namespace Go.Proofs.YtakodkjcmacofaaDoor
open Go Go.Am Go.Proofs
def ext115 : Ext := []
theorem ext115Ok : ExtOk Tryd.prog ext115 := trivial
/-! Function 115. -/
noncomputable def b115 : Code := bodyOf Tryd.f115
theorem hb115 : Tryd.f115.body = some b115 := by kernel_rfl
def sig115 : List AT := [AT.v (Ty.int IntKind.i64), AT.v (Ty.int IntKind.i64)]
def tys115 : List Ty := [Ty.int IntKind.i64]
def P115 (x0 : Int) (x1 : Int) : Prop := (if (x1 == 2) = true then ((InR IntKind.i64 (Int.tmod x0 4)) ∧ True) else True)
def g115_0 (x0 : Int) (x1 : Int) : Int := (if (x1 == 2) = true then (if (Int.tmod x0 4 == 0) = true then 29 else 28) else (if (x1 == 4) = true then 30 else (if (x1 == 6) = true then 30 else (if (x1 == 9) = true then 30 else (if (x1 == 11) = true then 30 else 31)))))
theorem p115_0 (x0 : Int) (x1 : Int) : runF tab ext115 false 16 [] 2000 [] tys115 Tryd.f115.results [true, true] [.code b115] (entE 0 0 sig115 (x0, x1, ())) (entL sig115 (x0, x1, ())) = some ([Dyn.mk (Ty.int IntKind.i64) 29], [], [(x1 == 2) = Bool.true, (4 : Int) ≠ (0 : Int), InR IntKind.i64 (Int.tmod x0 4), (Int.tmod x0 4 == 0) = Bool.true]) := by kernel_rfl
theorem p115_1 (x0 : Int) (x1 : Int) : runF tab ext115 false 16 [] 2000 [] tys115 Tryd.f115.results [true, false] [.code b115] (entE 0 0 sig115 (x0, x1, ())) (entL sig115 (x0, x1, ())) = some ([Dyn.mk (Ty.int IntKind.i64) 28], [], [(x1 == 2) = Bool.true, (4 : Int) ≠ (0 : Int), InR IntKind.i64 (Int.tmod x0 4), (Int.tmod x0 4 == 0) = Bool.false]) := by kernel_rfl
theorem p115_2 (x0 : Int) (x1 : Int) : runF tab ext115 false 16 [] 2000 [] tys115 Tryd.f115.results [false, true] [.code b115] (entE 0 0 sig115 (x0, x1, ())) (entL sig115 (x0, x1, ())) = some ([Dyn.mk (Ty.int IntKind.i64) 30], [], [(x1 == 2) = Bool.false, (x1 == 4) = Bool.true]) := by kernel_rfl
theorem p115_3 (x0 : Int) (x1 : Int) : runF tab ext115 false 16 [] 2000 [] tys115 Tryd.f115.results [false, false, true] [.code b115] (entE 0 0 sig115 (x0, x1, ())) (entL sig115 (x0, x1, ())) = some ([Dyn.mk (Ty.int IntKind.i64) 30], [], [(x1 == 2) = Bool.false, (x1 == 4) = Bool.false, (x1 == 6) = Bool.true]) := by kernel_rfl
theorem p115_4 (x0 : Int) (x1 : Int) : runF tab ext115 false 16 [] 2000 [] tys115 Tryd.f115.results [false, false, false, true] [.code b115] (entE 0 0 sig115 (x0, x1, ())) (entL sig115 (x0, x1, ())) = some ([Dyn.mk (Ty.int IntKind.i64) 30], [], [(x1 == 2) = Bool.false, (x1 == 4) = Bool.false, (x1 == 6) = Bool.false, (x1 == 9) = Bool.true]) := by kernel_rfl
theorem p115_5 (x0 : Int) (x1 : Int) : runF tab ext115 false 16 [] 2000 [] tys115 Tryd.f115.results [false, false, false, false, true] [.code b115] (entE 0 0 sig115 (x0, x1, ())) (entL sig115 (x0, x1, ())) = some ([Dyn.mk (Ty.int IntKind.i64) 30], [], [(x1 == 2) = Bool.false, (x1 == 4) = Bool.false, (x1 == 6) = Bool.false, (x1 == 9) = Bool.false, (x1 == 11) = Bool.true]) := by kernel_rfl
theorem p115_6 (x0 : Int) (x1 : Int) : runF tab ext115 false 16 [] 2000 [] tys115 Tryd.f115.results [false, false, false, false, false] [.code b115] (entE 0 0 sig115 (x0, x1, ())) (entL sig115 (x0, x1, ())) = some ([Dyn.mk (Ty.int IntKind.i64) 31], [], [(x1 == 2) = Bool.false, (x1 == 4) = Bool.false, (x1 == 6) = Bool.false, (x1 == 9) = Bool.false, (x1 == 11) = Bool.false]) := by kernel_rfl
theorem at115 (x0 : Int) (x1 : Int) (h : P115 x0 x1) (w0 : World) (O : List Nat) (q : Nat → Value) : AtV Tryd.prog 115 (PostR [⟨Ty.int IntKind.i64, g115_0 x0 x1⟩] [] [] q w0 O) 16 w0 O q [] [.code b115] (entE 0 0 sig115 (x0, x1, ())) (entL sig115 (x0, x1, ())) := by
  unfold P115 at h
  unfold g115_0
  by_cases b0 : (x1 == 2) = true
  · try simp only [if_pos b0] at h ⊢
    obtain ⟨s0, h⟩ := h
    by_cases b1 : (Int.tmod x0 4 == 0) = true
    · try simp only [if_pos b1] at h ⊢
      exact AtV.fin Tryd.func115 tabOk ext115Ok mixed (p115_0 x0 x1) ⟨b0, (by decide), s0, b1, trivial⟩
    · try simp only [if_neg b1] at h ⊢
      replace b1 := Bool.eq_false_iff.2 b1
      exact AtV.fin Tryd.func115 tabOk ext115Ok mixed (p115_1 x0 x1) ⟨b0, (by decide), s0, b1, trivial⟩
  · try simp only [if_neg b0] at h ⊢
    replace b0 := Bool.eq_false_iff.2 b0
    by_cases b1 : (x1 == 4) = true
    · try simp only [if_pos b1] at h ⊢
      exact AtV.fin Tryd.func115 tabOk ext115Ok mixed (p115_2 x0 x1) ⟨b0, b1, trivial⟩
    · try simp only [if_neg b1] at h ⊢
      replace b1 := Bool.eq_false_iff.2 b1
      by_cases b2 : (x1 == 6) = true
      · try simp only [if_pos b2] at h ⊢
        exact AtV.fin Tryd.func115 tabOk ext115Ok mixed (p115_3 x0 x1) ⟨b0, b1, b2, trivial⟩
      · try simp only [if_neg b2] at h ⊢
        replace b2 := Bool.eq_false_iff.2 b2
        by_cases b3 : (x1 == 9) = true
        · try simp only [if_pos b3] at h ⊢
          exact AtV.fin Tryd.func115 tabOk ext115Ok mixed (p115_4 x0 x1) ⟨b0, b1, b2, b3, trivial⟩
        · try simp only [if_neg b3] at h ⊢
          replace b3 := Bool.eq_false_iff.2 b3
          by_cases b4 : (x1 == 11) = true
          · try simp only [if_pos b4] at h ⊢
            exact AtV.fin Tryd.func115 tabOk ext115Ok mixed (p115_5 x0 x1) ⟨b0, b1, b2, b3, b4, trivial⟩
          · try simp only [if_neg b4] at h ⊢
            replace b4 := Bool.eq_false_iff.2 b4
            exact AtV.fin Tryd.func115 tabOk ext115Ok mixed (p115_6 x0 x1) ⟨b0, b1, b2, b3, b4, trivial⟩

def S115 : Am.Spec := { sig := sig115, pre := fun ⟨x0, x1, _⟩ => P115 x0 x1, res := fun ⟨x0, x1, _⟩ => [⟨Ty.int IntKind.i64, g115_0 x0 x1⟩] }
theorem con115 : Contract Tryd.prog 115 S115 := contract_of Tryd.func115 hb115 (Nat.le_of_ble_eq_true (by kernel_rfl)) (fun ⟨x0, x1, _⟩ h _ w0 O q => at115 x0 x1 h w0 O q)


end Go.Proofs.YtakodkjcmacofaaDoor

/- Function 116 (impl.dayOf): its runs between cut points. Written by a program of this repo (gen). -/
set_option linter.unusedVariables false
set_option linter.unusedSimpArgs false
set_option maxRecDepth 100000
namespace Go.Proofs.YtakodkjcmacofaaDoor
open Go Go.Am Go.Proofs
def ext116 : Ext := [(115, S115)]
theorem call116_115 : Callable Tryd.prog 115 := ⟨Tryd.f115, Tryd.func115, by kernel_rfl, by kernel_rfl⟩
theorem ext116Ok : ExtOk Tryd.prog ext116 := ⟨⟨call116_115, con115⟩, trivial⟩
/-! Function 116. -/
noncomputable def b116 : Code := bodyOf Tryd.f116
theorem hb116 : Tryd.f116.body = some b116 := by kernel_rfl
def sig116 : List AT := [AT.v (Ty.int IntKind.i64), AT.v (Ty.int IntKind.i64), AT.v (Ty.int IntKind.i64)]
def tys116 : List Ty := [Ty.int IntKind.i64]
def E116_3 (v7 : Int) (v8 : Int) (x0 : Int) (x1 : Int) : Env := [(0, PV.a (Atom.val (Value.int IntKind.i64 x0))), (1, PV.a (Atom.val (Value.int IntKind.i64 x1))), (7, PV.a (Atom.val (Value.int IntKind.i64 v7))), (8, PV.a (Atom.val (Value.int IntKind.i64 v8)))]
def L116_3 (v7 : Int) (v8 : Int) (x0 : Int) (x1 : Int) : Heap := []
mutual
def R116 : Nat → Int → Int → Int → List Dyn → Prop
  | 0, _, _, _, _ => False
  | n + 1, x0, x1, x2, ds => ((InR IntKind.i64 (x0 - 2000)) ∧ ((InR IntKind.i64 ((x0 - 2000) * 365)) ∧ ((InR IntKind.i64 (x0 - 1997)) ∧ ((InR IntKind.i64 (Int.tdiv (x0 - 1997) 4)) ∧ ((InR IntKind.i64 ((x0 - 2000) * 365 + Int.tdiv (x0 - 1997) 4)) ∧ ((InR IntKind.i64 ((x0 - 2000) * 365 + Int.tdiv (x0 - 1997) 4 + x2)) ∧ ((InR IntKind.i64 ((x0 - 2000) * 365 + Int.tdiv (x0 - 1997) 4 + x2 - 1)) ∧ (R116_3 n ((x0 - 2000) * 365 + Int.tdiv (x0 - 1997) 4 + x2 - 1) (1) (x0) (x1) ds))))))))
def R116_3 : Nat → Int → Int → Int → Int → List Dyn → Prop
  | 0, _, _, _, _, _ => False
  | n + 1, v7, v8, x0, x1, ds => (if (Decidable.decide (v8 < x1)) = true then ((P115 x0 v8) ∧ ((InR IntKind.i64 (v7 + g115_0 x0 v8)) ∧ ((InR IntKind.i64 (v8 + 1)) ∧ (R116_3 n (v7 + g115_0 x0 v8) (v8 + 1) (x0) (x1) ds)))) else (ds = [Dyn.mk (Ty.int IntKind.i64) v7]))
end
theorem p116_0 (x0 : Int) (x1 : Int) (x2 : Int) : Am.runN tab ext116 false 30 [] 2000 [] [] [0, 1, 7, 8] [] [] [.code b116] (entE 0 0 sig116 (x0, x1, x2, ())) (entL sig116 (x0, x1, x2, ())) = some (cutAt b116 3, E116_3 ((x0 - 2000) * 365 + Int.tdiv (x0 - 1997) 4 + x2 - 1) (1) (x0) (x1), L116_3 ((x0 - 2000) * 365 + Int.tdiv (x0 - 1997) 4 + x2 - 1) (1) (x0) (x1), [InR IntKind.i64 (x0 - 2000), InR IntKind.i64 ((x0 - 2000) * 365), InR IntKind.i64 (x0 - 1997), (4 : Int) ≠ (0 : Int), InR IntKind.i64 (Int.tdiv (x0 - 1997) 4), InR IntKind.i64 ((x0 - 2000) * 365 + Int.tdiv (x0 - 1997) 4), InR IntKind.i64 ((x0 - 2000) * 365 + Int.tdiv (x0 - 1997) 4 + x2), InR IntKind.i64 ((x0 - 2000) * 365 + Int.tdiv (x0 - 1997) 4 + x2 - 1)]) := by kernel_rfl
theorem p116_1 (v7 : Int) (v8 : Int) (x0 : Int) (x1 : Int) : Am.runN tab ext116 false 30 [] 2000 [] [] [0, 1, 7, 8] [] [true] (cutAt b116 3) (E116_3 v7 v8 x0 x1) (L116_3 v7 v8 x0 x1) = some (cutAt b116 3, E116_3 (v7 + g115_0 x0 v8) (v8 + 1) (x0) (x1), L116_3 (v7 + g115_0 x0 v8) (v8 + 1) (x0) (x1), [Decidable.decide (v8 < x1) = Bool.true, P115 x0 v8, InR IntKind.i64 (v7 + g115_0 x0 v8), InR IntKind.i64 (v8 + 1)]) := by kernel_rfl
theorem p116_2 (v7 : Int) (v8 : Int) (x0 : Int) (x1 : Int) : runF tab ext116 false 30 [] 2000 [] tys116 Tryd.f116.results [false] (cutAt b116 3) (E116_3 v7 v8 x0 x1) (L116_3 v7 v8 x0 x1) = some ([Dyn.mk (Ty.int IntKind.i64) v7], [], [Decidable.decide (v8 < x1) = Bool.false]) := by kernel_rfl
theorem snd116 : ∀ n, (∀ (x0 : Int) (x1 : Int) (x2 : Int) ds, R116 n x0 x1 x2 ds → ∀ w0 O q, AtV Tryd.prog 116 (PostR ds [] [] q w0 O) 30 w0 O q [] [.code b116] (entE 0 0 sig116 (x0, x1, x2, ())) (entL sig116 (x0, x1, x2, ()))) ∧ (∀ (v7 : Int) (v8 : Int) (x0 : Int) (x1 : Int) ds, R116_3 n v7 v8 x0 x1 ds → ∀ w0 O q, AtV Tryd.prog 116 (PostR ds [] [] q w0 O) 30 w0 O q [] (cutAt b116 3) (E116_3 v7 v8 x0 x1) (L116_3 v7 v8 x0 x1)) := by
  intro n
  induction n with
  | zero => exact ⟨fun _ _ _ _ h => by simp only [R116] at h, fun _ _ _ _ _ h => by simp only [R116_3] at h⟩
  | succ n ih =>
  obtain ⟨ih, ih3⟩ := ih
  refine ⟨?_, ?_⟩
  · intro x0 x1 x2 ds h w0 O q
    rw [R116] at h
    obtain ⟨s0, h⟩ := h
    obtain ⟨s1, h⟩ := h
    obtain ⟨s2, h⟩ := h
    obtain ⟨s3, h⟩ := h
    obtain ⟨s4, h⟩ := h
    obtain ⟨s5, h⟩ := h
    obtain ⟨s6, h⟩ := h
    exact AtV.runN tabOk ext116Ok mixed (p116_0 x0 x1 x2) ⟨s0, s1, s2, (by decide), s3, s4, s5, s6, trivial⟩ (ih3 _ _ _ _ _ h w0 O q)

  · intro v7 v8 x0 x1 ds h w0 O q
    rw [R116_3] at h
    by_cases b0 : (Decidable.decide (v8 < x1)) = true
    · rw [if_pos b0] at h
      obtain ⟨s0, h⟩ := h
      obtain ⟨s1, h⟩ := h
      obtain ⟨s2, h⟩ := h
      exact AtV.runN tabOk ext116Ok mixed (p116_1 v7 v8 x0 x1) ⟨b0, s0, s1, s2, trivial⟩ (ih3 _ _ _ _ _ h w0 O q)
    · rw [if_neg b0] at h
      replace b0 := Bool.eq_false_iff.2 b0
      subst h
      exact AtV.fin Tryd.func116 tabOk ext116Ok mixed (p116_2 v7 v8 x0 x1) ⟨b0, trivial⟩



def ms116 (y : Int) : Nat → Int
  | 0 => 0
  | k + 1 => ms116 y k + g115_0 y ((k : Int) + 1)
def bs116 (y d : Int) : Int := (y - 2000) * 365 + Int.tdiv (y - 1997) 4 + d - 1
def g116_0 (x0 x1 x2 : Int) : Int := bs116 x0 x2 + ms116 x0 (x1 - 1).toNat
def P116 (x0 x1 x2 : Int) : Prop := (2000 ≤ x0 ∧ x0 ≤ 2099) ∧ (1 ≤ x1 ∧ x1 ≤ 12) ∧ (1 ≤ x2 ∧ x2 ≤ 31)

theorem len116 {y m : Int} (hy : 2000 ≤ y ∧ y ≤ 2099) : P115 y m ∧ 28 ≤ g115_0 y m ∧ g115_0 y m ≤ 31 := by
  have e : Int.tmod y 4 = y % 4 := Int.tmod_eq_emod_of_nonneg (by omega)
  unfold P115 g115_0
  rw [e]
  have hi : InR .i64 (y % 4) := by rw [i64_iff]; omega
  refine ⟨?_, ?_, ?_⟩
  · split
    · exact ⟨hi, trivial⟩
    · trivial
  · repeat' split
    all_goals omega
  · repeat' split
    all_goals omega

theorem msb116 {y : Int} (hy : 2000 ≤ y ∧ y ≤ 2099) : ∀ k, 0 ≤ ms116 y k ∧ ms116 y k ≤ 31 * k
  | 0 => by simp [ms116]
  | k + 1 => by
    have := msb116 hy k
    have := len116 hy (m := (k : Int) + 1)
    simp only [ms116]
    omega

theorem runM116 {y m : Int} (hy : 2000 ≤ y ∧ y ≤ 2099) (hm : 1 ≤ m ∧ m ≤ 12) (v : Int) (hv : 0 ≤ v ∧ v ≤ 1000000) : ∀ (k i : Nat), (i : Int) + k = m - 1 →
    R116_3 (k + 1) (v + ms116 y i) ((i : Int) + 1) y m [⟨.int .i64, v + ms116 y (m - 1).toNat⟩] := by
  intro k
  induction k with
  | zero =>
    intro i hi
    rw [R116_3, if_neg (by simp; omega), show (m - 1).toNat = i by omega]
  | succ k ih =>
    intro i hi
    obtain ⟨p, l1, l2⟩ := len116 hy (m := (i : Int) + 1)
    obtain ⟨b1, b2⟩ := msb116 hy i
    rw [R116_3, if_pos (by simp; omega)]
    have e1 : v + ms116 y i + g115_0 y ((i : Int) + 1) = v + ms116 y (i + 1) := by simp only [ms116]; omega
    have e2 : (i : Int) + 1 + 1 = ((i + 1 : Nat) : Int) + 1 := by omega
    refine ⟨p, by rw [i64_iff]; omega, by rw [i64_iff]; omega, ?_⟩
    rw [e1, e2]
    exact ih (i + 1) (by omega)

theorem top116 (x0 x1 x2 : Int) (h : P116 x0 x1 x2) : R116 ((x1 - 1).toNat + 1 + 1) x0 x1 x2 [⟨.int .i64, g116_0 x0 x1 x2⟩] := by
  obtain ⟨h0, h1, h2⟩ := h
  have e : Int.tdiv (x0 - 1997) 4 = (x0 - 1997) / 4 := Int.tdiv_eq_ediv_of_nonneg (by omega)
  rw [R116]
  have := runM116 h0 h1 (bs116 x0 x2) (by unfold bs116; rw [e]; omega) (x1 - 1).toNat 0 (by omega)
  refine ⟨by rw [i64_iff]; omega, by rw [i64_iff]; omega, by rw [i64_iff]; omega, by rw [i64_iff, e]; omega, by rw [i64_iff, e]; omega, by rw [i64_iff, e]; omega, by rw [i64_iff, e]; omega, ?_⟩
  simpa [ms116, g116_0, bs116] using this

def S116 : Am.Spec := { sig := sig116, pre := fun ⟨x0, x1, x2, _⟩ => P116 x0 x1 x2, res := fun ⟨x0, x1, x2, _⟩ => [⟨.int .i64, g116_0 x0 x1 x2⟩] }
theorem con116 : Contract Tryd.prog 116 S116 := contract_of Tryd.func116 hb116 (Nat.le_of_ble_eq_true (by kernel_rfl)) (fun ⟨x0, x1, x2, _⟩ h hwf w0 O q =>
  (snd116 _).1 x0 x1 x2 _ (top116 x0 x1 x2 h) w0 O q)

end Go.Proofs.YtakodkjcmacofaaDoor

/- Function 52 (impl.DayNumber): its runs between cut points. Written by a program of this repo (gen). -/
set_option linter.unusedVariables false
set_option linter.unusedSimpArgs false
set_option maxRecDepth 100000
namespace Go.Proofs.YtakodkjcmacofaaDoor
open Go Go.Am Go.Proofs
def ext52 : Ext := [(102, S102), (115, S115), (116, S116)]
theorem call52_102 : Callable Tryd.prog 102 := ⟨Tryd.f102, Tryd.func102, by kernel_rfl, by kernel_rfl⟩
theorem call52_115 : Callable Tryd.prog 115 := ⟨Tryd.f115, Tryd.func115, by kernel_rfl, by kernel_rfl⟩
theorem call52_116 : Callable Tryd.prog 116 := ⟨Tryd.f116, Tryd.func116, by kernel_rfl, by kernel_rfl⟩
theorem ext52Ok : ExtOk Tryd.prog ext52 := ⟨⟨call52_102, con102⟩, ⟨call52_115, con115⟩, ⟨call52_116, con116⟩, trivial⟩
/-! Function 52. -/
noncomputable def b52 : Code := bodyOf Tryd.f52
theorem hb52 : Tryd.f52.body = some b52 := by kernel_rfl
def sig52 : List AT := [AT.v (Ty.int IntKind.i64), AT.v (Ty.int IntKind.i64), AT.v (Ty.int IntKind.i64)]
def tys52 : List Ty := [Ty.int IntKind.i64, Ty.int IntKind.i64]
def P52 (x0 : Int) (x1 : Int) (x2 : Int) : Prop := (if (!g102_0 x0 2000 2099) = true then True else (if (!g102_0 x1 1 12) = true then True else ((P115 x0 x1) ∧ (if (!g102_0 x2 1 (g115_0 x0 x1)) = true then True else ((P116 x0 x1 x2) ∧ True)))))
def g52_0 (x0 : Int) (x1 : Int) (x2 : Int) : Int := (if (!g102_0 x0 2000 2099) = true then 0 else (if (!g102_0 x1 1 12) = true then 0 else (if (!g102_0 x2 1 (g115_0 x0 x1)) = true then 0 else g116_0 x0 x1 x2)))
def g52_1 (x0 : Int) (x1 : Int) (x2 : Int) : Int := (if (!g102_0 x0 2000 2099) = true then 2 else (if (!g102_0 x1 1 12) = true then 2 else (if (!g102_0 x2 1 (g115_0 x0 x1)) = true then 2 else 0)))
theorem p52_0 (x0 : Int) (x1 : Int) (x2 : Int) : runF tab ext52 false 28 [] 2000 [] tys52 Tryd.f52.results [true, true, true] [.code b52] (entE 0 0 sig52 (x0, x1, x2, ())) (entL sig52 (x0, x1, x2, ())) = some ([Dyn.mk (Ty.int IntKind.i64) 0, Dyn.mk (Ty.int IntKind.i64) 2], [], [True, (!g102_0 x0 2000 2099) = Bool.true, Bool.true = Bool.true, Bool.true = Bool.true]) := by kernel_rfl
theorem p52_1 (x0 : Int) (x1 : Int) (x2 : Int) : runF tab ext52 false 28 [] 2000 [] tys52 Tryd.f52.results [false, true, true] [.code b52] (entE 0 0 sig52 (x0, x1, x2, ())) (entL sig52 (x0, x1, x2, ())) = some ([Dyn.mk (Ty.int IntKind.i64) 0, Dyn.mk (Ty.int IntKind.i64) 2], [], [True, (!g102_0 x0 2000 2099) = Bool.false, True, (!g102_0 x1 1 12) = Bool.true, Bool.true = Bool.true]) := by kernel_rfl
theorem p52_2 (x0 : Int) (x1 : Int) (x2 : Int) : runF tab ext52 false 28 [] 2000 [] tys52 Tryd.f52.results [false, false, true] [.code b52] (entE 0 0 sig52 (x0, x1, x2, ())) (entL sig52 (x0, x1, x2, ())) = some ([Dyn.mk (Ty.int IntKind.i64) 0, Dyn.mk (Ty.int IntKind.i64) 2], [], [True, (!g102_0 x0 2000 2099) = Bool.false, True, (!g102_0 x1 1 12) = Bool.false, P115 x0 x1, True, (!g102_0 x2 1 (g115_0 x0 x1)) = Bool.true]) := by kernel_rfl
theorem p52_3 (x0 : Int) (x1 : Int) (x2 : Int) : runF tab ext52 false 28 [] 2000 [] tys52 Tryd.f52.results [false, false, false] [.code b52] (entE 0 0 sig52 (x0, x1, x2, ())) (entL sig52 (x0, x1, x2, ())) = some ([Dyn.mk (Ty.int IntKind.i64) (g116_0 x0 x1 x2), Dyn.mk (Ty.int IntKind.i64) 0], [], [True, (!g102_0 x0 2000 2099) = Bool.false, True, (!g102_0 x1 1 12) = Bool.false, P115 x0 x1, True, (!g102_0 x2 1 (g115_0 x0 x1)) = Bool.false, P116 x0 x1 x2]) := by kernel_rfl
theorem at52 (x0 : Int) (x1 : Int) (x2 : Int) (h : P52 x0 x1 x2) (w0 : World) (O : List Nat) (q : Nat → Value) : AtV Tryd.prog 52 (PostR [⟨Ty.int IntKind.i64, g52_0 x0 x1 x2⟩, ⟨Ty.int IntKind.i64, g52_1 x0 x1 x2⟩] [] [] q w0 O) 28 w0 O q [] [.code b52] (entE 0 0 sig52 (x0, x1, x2, ())) (entL sig52 (x0, x1, x2, ())) := by
  unfold P52 at h
  unfold g52_0 g52_1
  by_cases b0 : (!g102_0 x0 2000 2099) = true
  · try simp only [if_pos b0] at h ⊢
    exact AtV.fin Tryd.func52 tabOk ext52Ok mixed (p52_0 x0 x1 x2) ⟨trivial, b0, rfl, rfl, trivial⟩
  · try simp only [if_neg b0] at h ⊢
    replace b0 := Bool.eq_false_iff.2 b0
    by_cases b1 : (!g102_0 x1 1 12) = true
    · try simp only [if_pos b1] at h ⊢
      exact AtV.fin Tryd.func52 tabOk ext52Ok mixed (p52_1 x0 x1 x2) ⟨trivial, b0, trivial, b1, rfl, trivial⟩
    · try simp only [if_neg b1] at h ⊢
      replace b1 := Bool.eq_false_iff.2 b1
      obtain ⟨s0, h⟩ := h
      by_cases b2 : (!g102_0 x2 1 (g115_0 x0 x1)) = true
      · try simp only [if_pos b2] at h ⊢
        exact AtV.fin Tryd.func52 tabOk ext52Ok mixed (p52_2 x0 x1 x2) ⟨trivial, b0, trivial, b1, s0, trivial, b2, trivial⟩
      · try simp only [if_neg b2] at h ⊢
        replace b2 := Bool.eq_false_iff.2 b2
        obtain ⟨s1, h⟩ := h
        exact AtV.fin Tryd.func52 tabOk ext52Ok mixed (p52_3 x0 x1 x2) ⟨trivial, b0, trivial, b1, s0, trivial, b2, s1, trivial⟩

def S52 : Am.Spec := { sig := sig52, pre := fun ⟨x0, x1, x2, _⟩ => P52 x0 x1 x2, res := fun ⟨x0, x1, x2, _⟩ => [⟨Ty.int IntKind.i64, g52_0 x0 x1 x2⟩, ⟨Ty.int IntKind.i64, g52_1 x0 x1 x2⟩] }
theorem con52 : Contract Tryd.prog 52 S52 := contract_of Tryd.func52 hb52 (Nat.le_of_ble_eq_true (by kernel_rfl)) (fun ⟨x0, x1, x2, _⟩ h _ w0 O q => at52 x0 x1 x2 h w0 O q)


end Go.Proofs.YtakodkjcmacofaaDoor

/- Function 113 (impl.isDay): its runs between cut points. Written by a program of this repo (gen). -/
set_option linter.unusedVariables false
set_option linter.unusedSimpArgs false
set_option maxRecDepth 100000
namespace Go.Proofs.YtakodkjcmacofaaDoor
open Go Go.Am Go.Proofs
def ext113 : Ext := [(102, S102)]
theorem call113_102 : Callable Tryd.prog 102 := ⟨Tryd.f102, Tryd.func102, by kernel_rfl, by kernel_rfl⟩
theorem ext113Ok : ExtOk Tryd.prog ext113 := ⟨⟨call113_102, con102⟩, trivial⟩
/-! Function 113. -/
noncomputable def b113 : Code := bodyOf Tryd.f113
theorem hb113 : Tryd.f113.body = some b113 := by kernel_rfl
def sig113 : List AT := [AT.v (Ty.int IntKind.i64)]
def tys113 : List Ty := [Ty.bool]
def P113 (x0 : Int) : Prop := True
def g113_0 (x0 : Int) : Bool := g102_0 x0 0 36524
theorem p113_0 (x0 : Int) : runF tab ext113 false 5 [] 2000 [] tys113 Tryd.f113.results [] [.code b113] (entE 0 0 sig113 (x0, ())) (entL sig113 (x0, ())) = some ([Dyn.mk Ty.bool (g102_0 x0 0 36524)], [], [True]) := by kernel_rfl
theorem at113 (x0 : Int) (h : P113 x0) (w0 : World) (O : List Nat) (q : Nat → Value) : AtV Tryd.prog 113 (PostR [⟨Ty.bool, g113_0 x0⟩] [] [] q w0 O) 5 w0 O q [] [.code b113] (entE 0 0 sig113 (x0, ())) (entL sig113 (x0, ())) := by
  unfold P113 at h
  unfold g113_0
  exact AtV.fin Tryd.func113 tabOk ext113Ok mixed (p113_0 x0) ⟨trivial, trivial⟩

def S113 : Am.Spec := { sig := sig113, pre := fun ⟨x0, _⟩ => P113 x0, res := fun ⟨x0, _⟩ => [⟨Ty.bool, g113_0 x0⟩] }
theorem con113 : Contract Tryd.prog 113 S113 := contract_of Tryd.func113 hb113 (Nat.le_of_ble_eq_true (by kernel_rfl)) (fun ⟨x0, _⟩ h _ w0 O q => at113 x0 h w0 O q)


end Go.Proofs.YtakodkjcmacofaaDoor

/- Function 114 (impl.dateOf): its runs between cut points. Written by a program of this repo (gen). -/
set_option linter.unusedVariables false
set_option linter.unusedSimpArgs false
set_option maxRecDepth 100000
namespace Go.Proofs.YtakodkjcmacofaaDoor
open Go Go.Am Go.Proofs
def ext114 : Ext := [(116, S116)]
theorem call114_116 : Callable Tryd.prog 116 := ⟨Tryd.f116, Tryd.func116, by kernel_rfl, by kernel_rfl⟩
theorem ext114Ok : ExtOk Tryd.prog ext114 := ⟨⟨call114_116, con116⟩, trivial⟩
/-! Function 114. -/
noncomputable def b114 : Code := bodyOf Tryd.f114
theorem hb114 : Tryd.f114.body = some b114 := by kernel_rfl
def sig114 : List AT := [AT.v (Ty.int IntKind.i64)]
def tys114 : List Ty := [Ty.int IntKind.i64, Ty.int IntKind.i64, Ty.int IntKind.i64]
def E114_2 (v5 : Int) (x0 : Int) : Env := [(0, PV.a (Atom.val (Value.int IntKind.i64 x0))), (5, PV.a (Atom.val (Value.int IntKind.i64 v5))), (6, PV.a (Atom.val (Value.int IntKind.i64 1)))]
def L114_2 (v5 : Int) (x0 : Int) : Heap := []
def E114_4 (v6 : Int) (x0 : Int) (v5 : Int) : Env := [(0, PV.a (Atom.val (Value.int IntKind.i64 x0))), (5, PV.a (Atom.val (Value.int IntKind.i64 v5))), (6, PV.a (Atom.val (Value.int IntKind.i64 v6)))]
def L114_4 (v6 : Int) (x0 : Int) (v5 : Int) : Heap := []
mutual
def R114 : Nat → Int → List Dyn → Prop
  | 0, _, _ => False
  | n + 1, x0, ds => (R114_2 n (2000) (x0) ds)
def R114_2 : Nat → Int → Int → List Dyn → Prop
  | 0, _, _, _ => False
  | n + 1, v5, x0, ds => (if (Decidable.decide (v5 < 2099)) = true then ((InR IntKind.i64 (v5 + 1)) ∧ ((P116 (v5 + 1) 1 1) ∧ (if (Decidable.decide (g116_0 (v5 + 1) 1 1 ≤ x0)) = true then ((InR IntKind.i64 (v5 + 1)) ∧ (R114_2 n (v5 + 1) (x0) ds)) else (R114_4 n (1) (x0) (v5) ds)))) else (R114_4 n (1) (x0) (v5) ds))
def R114_4 : Nat → Int → Int → Int → List Dyn → Prop
  | 0, _, _, _, _ => False
  | n + 1, v6, x0, v5, ds => (if (Decidable.decide (v6 < 12)) = true then ((InR IntKind.i64 (v6 + 1)) ∧ ((P116 v5 (v6 + 1) 1) ∧ (if (Decidable.decide (g116_0 v5 (v6 + 1) 1 ≤ x0)) = true then ((InR IntKind.i64 (v6 + 1)) ∧ (R114_4 n (v6 + 1) (x0) (v5) ds)) else ((P116 v5 v6 1) ∧ ((InR IntKind.i64 (x0 - g116_0 v5 v6 1)) ∧ ((InR IntKind.i64 (x0 - g116_0 v5 v6 1 + 1)) ∧ (ds = [Dyn.mk (Ty.int IntKind.i64) v5, Dyn.mk (Ty.int IntKind.i64) v6, Dyn.mk (Ty.int IntKind.i64) (x0 - g116_0 v5 v6 1 + 1)]))))))) else ((P116 v5 v6 1) ∧ ((InR IntKind.i64 (x0 - g116_0 v5 v6 1)) ∧ ((InR IntKind.i64 (x0 - g116_0 v5 v6 1 + 1)) ∧ (ds = [Dyn.mk (Ty.int IntKind.i64) v5, Dyn.mk (Ty.int IntKind.i64) v6, Dyn.mk (Ty.int IntKind.i64) (x0 - g116_0 v5 v6 1 + 1)])))))
end
theorem p114_0 (x0 : Int) : Am.runN tab ext114 false 38 [] 2000 [] [] [0, 5, 6] [] [] [.code b114] (entE 0 0 sig114 (x0, ())) (entL sig114 (x0, ())) = some (cutAt b114 2, E114_2 (2000) (x0), L114_2 (2000) (x0), []) := by kernel_rfl
theorem p114_1 (v5 : Int) (x0 : Int) : Am.runN tab ext114 false 38 [] 2000 [] [] [0, 5, 6] [] [true, true] (cutAt b114 2) (E114_2 v5 x0) (L114_2 v5 x0) = some (cutAt b114 2, E114_2 (v5 + 1) (x0), L114_2 (v5 + 1) (x0), [Decidable.decide (v5 < 2099) = Bool.true, InR IntKind.i64 (v5 + 1), P116 (v5 + 1) 1 1, Decidable.decide (g116_0 (v5 + 1) 1 1 ≤ x0) = Bool.true, InR IntKind.i64 (v5 + 1)]) := by kernel_rfl
theorem p114_2 (v5 : Int) (x0 : Int) : Am.runN tab ext114 false 38 [] 2000 [] [] [0, 5, 6] [] [true, false] (cutAt b114 2) (E114_2 v5 x0) (L114_2 v5 x0) = some (cutAt b114 4, E114_4 (1) (x0) (v5), L114_4 (1) (x0) (v5), [Decidable.decide (v5 < 2099) = Bool.true, InR IntKind.i64 (v5 + 1), P116 (v5 + 1) 1 1, Decidable.decide (g116_0 (v5 + 1) 1 1 ≤ x0) = Bool.false]) := by kernel_rfl
theorem p114_3 (v5 : Int) (x0 : Int) : Am.runN tab ext114 false 38 [] 2000 [] [] [0, 5, 6] [] [false, false] (cutAt b114 2) (E114_2 v5 x0) (L114_2 v5 x0) = some (cutAt b114 4, E114_4 (1) (x0) (v5), L114_4 (1) (x0) (v5), [Decidable.decide (v5 < 2099) = Bool.false, Bool.false = Bool.false]) := by kernel_rfl
theorem p114_4 (v6 : Int) (x0 : Int) (v5 : Int) : Am.runN tab ext114 false 38 [] 2000 [] [] [0, 5, 6] [] [true, true] (cutAt b114 4) (E114_4 v6 x0 v5) (L114_4 v6 x0 v5) = some (cutAt b114 4, E114_4 (v6 + 1) (x0) (v5), L114_4 (v6 + 1) (x0) (v5), [Decidable.decide (v6 < 12) = Bool.true, InR IntKind.i64 (v6 + 1), P116 v5 (v6 + 1) 1, Decidable.decide (g116_0 v5 (v6 + 1) 1 ≤ x0) = Bool.true, InR IntKind.i64 (v6 + 1)]) := by kernel_rfl
theorem p114_5 (v6 : Int) (x0 : Int) (v5 : Int) : runF tab ext114 false 38 [] 2000 [] tys114 Tryd.f114.results [true, false] (cutAt b114 4) (E114_4 v6 x0 v5) (L114_4 v6 x0 v5) = some ([Dyn.mk (Ty.int IntKind.i64) v5, Dyn.mk (Ty.int IntKind.i64) v6, Dyn.mk (Ty.int IntKind.i64) (x0 - g116_0 v5 v6 1 + 1)], [], [Decidable.decide (v6 < 12) = Bool.true, InR IntKind.i64 (v6 + 1), P116 v5 (v6 + 1) 1, Decidable.decide (g116_0 v5 (v6 + 1) 1 ≤ x0) = Bool.false, P116 v5 v6 1, InR IntKind.i64 (x0 - g116_0 v5 v6 1), InR IntKind.i64 (x0 - g116_0 v5 v6 1 + 1)]) := by kernel_rfl
theorem p114_6 (v6 : Int) (x0 : Int) (v5 : Int) : runF tab ext114 false 38 [] 2000 [] tys114 Tryd.f114.results [false, false] (cutAt b114 4) (E114_4 v6 x0 v5) (L114_4 v6 x0 v5) = some ([Dyn.mk (Ty.int IntKind.i64) v5, Dyn.mk (Ty.int IntKind.i64) v6, Dyn.mk (Ty.int IntKind.i64) (x0 - g116_0 v5 v6 1 + 1)], [], [Decidable.decide (v6 < 12) = Bool.false, Bool.false = Bool.false, P116 v5 v6 1, InR IntKind.i64 (x0 - g116_0 v5 v6 1), InR IntKind.i64 (x0 - g116_0 v5 v6 1 + 1)]) := by kernel_rfl
theorem snd114 : ∀ n, (∀ (x0 : Int) ds, R114 n x0 ds → ∀ w0 O q, AtV Tryd.prog 114 (PostR ds [] [] q w0 O) 38 w0 O q [] [.code b114] (entE 0 0 sig114 (x0, ())) (entL sig114 (x0, ()))) ∧ (∀ (v5 : Int) (x0 : Int) ds, R114_2 n v5 x0 ds → ∀ w0 O q, AtV Tryd.prog 114 (PostR ds [] [] q w0 O) 38 w0 O q [] (cutAt b114 2) (E114_2 v5 x0) (L114_2 v5 x0)) ∧ (∀ (v6 : Int) (x0 : Int) (v5 : Int) ds, R114_4 n v6 x0 v5 ds → ∀ w0 O q, AtV Tryd.prog 114 (PostR ds [] [] q w0 O) 38 w0 O q [] (cutAt b114 4) (E114_4 v6 x0 v5) (L114_4 v6 x0 v5)) := by
  intro n
  induction n with
  | zero => exact ⟨fun _ _ h => by simp only [R114] at h, fun _ _ _ h => by simp only [R114_2] at h, fun _ _ _ _ h => by simp only [R114_4] at h⟩
  | succ n ih =>
  obtain ⟨ih, ih2, ih4⟩ := ih
  refine ⟨?_, ?_, ?_⟩
  · intro x0 ds h w0 O q
    rw [R114] at h
    exact AtV.runN tabOk ext114Ok mixed (p114_0 x0) trivial (ih2 _ _ _ h w0 O q)

  · intro v5 x0 ds h w0 O q
    rw [R114_2] at h
    by_cases b0 : (Decidable.decide (v5 < 2099)) = true
    · rw [if_pos b0] at h
      obtain ⟨s0, h⟩ := h
      obtain ⟨s1, h⟩ := h
      by_cases b1 : (Decidable.decide (g116_0 (v5 + 1) 1 1 ≤ x0)) = true
      · rw [if_pos b1] at h
        obtain ⟨s2, h⟩ := h
        exact AtV.runN tabOk ext114Ok mixed (p114_1 v5 x0) ⟨b0, s0, s1, b1, s2, trivial⟩ (ih2 _ _ _ h w0 O q)
      · rw [if_neg b1] at h
        replace b1 := Bool.eq_false_iff.2 b1
        exact AtV.runN tabOk ext114Ok mixed (p114_2 v5 x0) ⟨b0, s0, s1, b1, trivial⟩ (ih4 _ _ _ _ h w0 O q)
    · rw [if_neg b0] at h
      replace b0 := Bool.eq_false_iff.2 b0
      exact AtV.runN tabOk ext114Ok mixed (p114_3 v5 x0) ⟨b0, rfl, trivial⟩ (ih4 _ _ _ _ h w0 O q)

  · intro v6 x0 v5 ds h w0 O q
    rw [R114_4] at h
    by_cases b0 : (Decidable.decide (v6 < 12)) = true
    · rw [if_pos b0] at h
      obtain ⟨s0, h⟩ := h
      obtain ⟨s1, h⟩ := h
      by_cases b1 : (Decidable.decide (g116_0 v5 (v6 + 1) 1 ≤ x0)) = true
      · rw [if_pos b1] at h
        obtain ⟨s2, h⟩ := h
        exact AtV.runN tabOk ext114Ok mixed (p114_4 v6 x0 v5) ⟨b0, s0, s1, b1, s2, trivial⟩ (ih4 _ _ _ _ h w0 O q)
      · rw [if_neg b1] at h
        replace b1 := Bool.eq_false_iff.2 b1
        obtain ⟨s2, h⟩ := h
        obtain ⟨s3, h⟩ := h
        obtain ⟨s4, h⟩ := h
        subst h
        exact AtV.fin Tryd.func114 tabOk ext114Ok mixed (p114_5 v6 x0 v5) ⟨b0, s0, s1, b1, s2, s3, s4, trivial⟩
    · rw [if_neg b0] at h
      replace b0 := Bool.eq_false_iff.2 b0
      obtain ⟨s0, h⟩ := h
      obtain ⟨s1, h⟩ := h
      obtain ⟨s2, h⟩ := h
      subst h
      exact AtV.fin Tryd.func114 tabOk ext114Ok mixed (p114_6 v6 x0 v5) ⟨b0, rfl, s0, s1, s2, trivial⟩



def yr114 (day : Int) : Nat → Int → Int
  | 0, y => y
  | k + 1, y => if g116_0 (y + 1) 1 1 ≤ day then yr114 day k (y + 1) else y
def mo114 (day y : Int) : Nat → Int → Int
  | 0, m => m
  | k + 1, m => if g116_0 y (m + 1) 1 ≤ day then mo114 day y k (m + 1) else m
def g114_0 (x0 : Int) : Int := yr114 x0 99 2000
def g114_1 (x0 : Int) : Int := mo114 x0 (g114_0 x0) 11 1
def g114_2 (x0 : Int) : Int := x0 - g116_0 (g114_0 x0) (g114_1 x0) 1 + 1
def P114 (x0 : Int) : Prop := 0 ≤ x0 ∧ x0 ≤ 1000000

theorem day114 {y m : Int} (hy : 2000 ≤ y ∧ y ≤ 2099) (hm : 1 ≤ m ∧ m ≤ 12) : P116 y m 1 ∧ 0 ≤ g116_0 y m 1 ∧ g116_0 y m 1 ≤ 1000000 := by
  have e : Int.tdiv (y - 1997) 4 = (y - 1997) / 4 := Int.tdiv_eq_ediv_of_nonneg (by omega)
  have := msb116 hy (m - 1).toNat
  refine ⟨⟨hy, hm, by omega⟩, ?_, ?_⟩ <;> unfold g116_0 bs116 <;> rw [e] <;> omega

theorem runM114 {y day : Int} (hy : 2000 ≤ y ∧ y ≤ 2099) (hd : 0 ≤ day ∧ day ≤ 1000000) (e : Nat) : ∀ (k : Nat) (m : Int), m + k = 12 → 1 ≤ m →
    R114_4 (k + 1 + e) m day y [⟨.int .i64, y⟩, ⟨.int .i64, mo114 day y k m⟩, ⟨.int .i64, day - g116_0 y (mo114 day y k m) 1 + 1⟩] := by
  intro k
  induction k with
  | zero =>
    intro m hm h1
    obtain ⟨p, b1, b2⟩ := day114 hy (m := m) (by omega)
    rw [show 0 + 1 + e = e + 1 by omega, R114_4, if_neg (by simp; omega)]
    exact ⟨p, by rw [i64_iff]; omega, by rw [i64_iff]; omega, rfl⟩
  | succ k ih =>
    intro m hm h1
    obtain ⟨p, b1, b2⟩ := day114 hy (m := m) (by omega)
    obtain ⟨q, c1, c2⟩ := day114 hy (m := m + 1) (by omega)
    rw [show k + 1 + 1 + e = (k + 1 + e) + 1 by omega, R114_4, if_pos (by simp; omega)]
    refine ⟨by rw [i64_iff]; omega, q, ?_⟩
    unfold mo114
    by_cases hc : g116_0 y (m + 1) 1 ≤ day
    · rw [if_pos (by simpa using hc), if_pos hc]
      exact ⟨by rw [i64_iff]; omega, ih (m + 1) (by omega) (by omega)⟩
    · rw [if_neg (by simpa using hc), if_neg hc]
      exact ⟨p, by rw [i64_iff]; omega, by rw [i64_iff]; omega, rfl⟩

theorem runY114 {day : Int} (hd : 0 ≤ day ∧ day ≤ 1000000) : ∀ (k : Nat) (y : Int), y + k = 2099 → 2000 ≤ y →
    R114_2 (k + 1 + 12) y day [⟨.int .i64, yr114 day k y⟩, ⟨.int .i64, mo114 day (yr114 day k y) 11 1⟩, ⟨.int .i64, day - g116_0 (yr114 day k y) (mo114 day (yr114 day k y) 11 1) 1 + 1⟩] := by
  intro k
  induction k with
  | zero =>
    intro y hy h1
    rw [show 0 + 1 + 12 = (11 + 1 + 0) + 1 by omega, R114_2, if_neg (by simp; omega)]
    exact runM114 (by omega) hd 0 11 1 (by omega) (by omega)
  | succ k ih =>
    intro y hy h1
    obtain ⟨q, c1, c2⟩ := day114 (y := y + 1) (m := 1) (by omega) (by omega)
    rw [show k + 1 + 1 + 12 = (k + 1 + 12) + 1 by omega, R114_2, if_pos (by simp; omega)]
    refine ⟨by rw [i64_iff]; omega, q, ?_⟩
    unfold yr114
    by_cases hc : g116_0 (y + 1) 1 1 ≤ day
    · rw [if_pos (by simpa using hc), if_pos hc]
      exact ⟨by rw [i64_iff]; omega, ih (y + 1) (by omega) (by omega)⟩
    · rw [if_neg (by simpa using hc), if_neg hc, show k + 1 + 12 = 11 + 1 + (k + 1) by omega]
      exact runM114 (by omega) hd (k + 1) 11 1 (by omega) (by omega)

theorem top114 (x0 : Int) (h : P114 x0) : R114 (99 + 1 + 12 + 1) x0 [⟨.int .i64, g114_0 x0⟩, ⟨.int .i64, g114_1 x0⟩, ⟨.int .i64, g114_2 x0⟩] := by
  rw [R114]
  exact runY114 h 99 2000 (by omega) (by omega)

def S114 : Am.Spec := { sig := sig114, pre := fun ⟨x0, _⟩ => P114 x0, res := fun ⟨x0, _⟩ => [⟨.int .i64, g114_0 x0⟩, ⟨.int .i64, g114_1 x0⟩, ⟨.int .i64, g114_2 x0⟩] }
theorem con114 : Contract Tryd.prog 114 S114 := contract_of Tryd.func114 hb114 (Nat.le_of_ble_eq_true (by kernel_rfl)) (fun ⟨x0, _⟩ h hwf w0 O q =>
  (snd114 _).1 x0 _ (top114 x0 h) w0 O q)

end Go.Proofs.YtakodkjcmacofaaDoor

/- Function 141 (strconv.FormatInt): its contract, off what is known of the library. -/
set_option linter.unusedVariables false
set_option linter.unusedSimpArgs false
set_option maxRecDepth 100000
namespace Go.Proofs.YtakodkjcmacofaaDoor
open Go Go.Am Go.Proofs

def sig141 : List AT := [AT.v (Ty.int .i64), AT.v (Ty.int .i64)]
def g141_0 (x0 x1 : Int) : ByteArray := numB x0
def P141 (x0 x1 : Int) : Prop := x1 = 10
def S141 : Am.Spec := { sig := sig141, pre := fun ⟨x0, x1, _⟩ => P141 x0 x1, res := fun ⟨x0, x1, _⟩ => [⟨Ty.str, g141_0 x0 x1⟩] }
theorem con141 : Contract Tryd.prog 141 S141 := contract_flat rfl fun w ⟨x0, x1, _⟩ vs bss hg hp hw ha => by
  obtain ⟨v0, s0, _, _, rfl, _, ⟨_, rfl, hi⟩, v1, s1, _, _, rfl, _, ⟨_, rfl, _⟩, rfl, _⟩ := ha
  obtain rfl : x1 = 10 := hp
  have hi : InR .i64 x0 := hi
  rw [i64_iff] at hi
  refine ⟨fun d hd => ?_, ?_⟩
  · rw [List.mem_singleton.1 hd]
    refine ⟨rfl, ?_⟩
    show (numB x0).size ≤ maxLen
    have := numB_size x0 hi.1 hi.2
    unfold maxLen; omega
  · refine (Tryd.strconv_FormatInt_10 x0 hi.1 hi.2 w (pow10G hg)).mono ?_
    rintro e w' ⟨rfl, n, os, rfl⟩
    exact ⟨rfl, kept_grow _ _ _⟩

end Go.Proofs.YtakodkjcmacofaaDoor

/- Function 94 (impl.Decimal): its runs between cut points. Written by a program of this repo (gen). -/
set_option linter.unusedVariables false
set_option linter.unusedSimpArgs false
set_option maxRecDepth 100000
namespace Go.Proofs.YtakodkjcmacofaaDoor
open Go Go.Am Go.Proofs
def ext94 : Ext := [(141, S141)]
theorem call94_141 : Callable Tryd.prog 141 := ⟨Tryd.f141, Tryd.func141, by kernel_rfl, by kernel_rfl⟩
theorem ext94Ok : ExtOk Tryd.prog ext94 := ⟨⟨call94_141, con141⟩, trivial⟩
/-! Function 94. -/
noncomputable def b94 : Code := bodyOf Tryd.f94
theorem hb94 : Tryd.f94.body = some b94 := by kernel_rfl
def sig94 : List AT := [AT.v (Ty.int IntKind.i64)]
def tys94 : List Ty := [Ty.str]
def P94 (x0 : Int) : Prop := ((P141 x0 10) ∧ True)
def g94_0 (x0 : Int) : ByteArray := g141_0 x0 10
theorem p94_0 (x0 : Int) : runF tab ext94 false 5 [] 2000 [] tys94 Tryd.f94.results [] [.code b94] (entE 0 0 sig94 (x0, ())) (entL sig94 (x0, ())) = some ([Dyn.mk Ty.str (g141_0 x0 10)], [], [P141 x0 10]) := by kernel_rfl
theorem at94 (x0 : Int) (h : P94 x0) (w0 : World) (O : List Nat) (q : Nat → Value) : AtV Tryd.prog 94 (PostR [⟨Ty.str, g94_0 x0⟩] [] [] q w0 O) 5 w0 O q [] [.code b94] (entE 0 0 sig94 (x0, ())) (entL sig94 (x0, ())) := by
  unfold P94 at h
  unfold g94_0
  obtain ⟨s0, h⟩ := h
  exact AtV.fin Tryd.func94 tabOk ext94Ok mixed (p94_0 x0) ⟨s0, trivial⟩

def S94 : Am.Spec := { sig := sig94, pre := fun ⟨x0, _⟩ => P94 x0, res := fun ⟨x0, _⟩ => [⟨Ty.str, g94_0 x0⟩] }
theorem con94 : Contract Tryd.prog 94 S94 := contract_of Tryd.func94 hb94 (Nat.le_of_ble_eq_true (by kernel_rfl)) (fun ⟨x0, _⟩ h _ w0 O q => at94 x0 h w0 O q)


end Go.Proofs.YtakodkjcmacofaaDoor

/- Function 143 (strings.Repeat): its contract, off what is known of the library. -/
set_option linter.unusedVariables false
set_option linter.unusedSimpArgs false
set_option maxRecDepth 100000
namespace Go.Proofs.YtakodkjcmacofaaDoor
open Go Go.Am Go.Proofs

def sig143 : List AT := [AT.v Ty.str, AT.v (Ty.int .i64)]
def g143_0 (x0 : ByteArray) (x1 : Int) : ByteArray := ⟨(Lib.repeatL x0.data.toList x1.toNat).toArray⟩
def P143 (x0 : ByteArray) (x1 : Int) : Prop := 0 ≤ x1 ∧ (x0.size : Int) * x1 ≤ 140737488355328
def S143 : Am.Spec := { sig := sig143, pre := fun ⟨x0, x1, _⟩ => P143 x0 x1, res := fun ⟨x0, x1, _⟩ => [⟨Ty.str, g143_0 x0 x1⟩] }
theorem con143 : Contract Tryd.prog 143 S143 := contract_flat rfl fun w ⟨x0, x1, _⟩ vs bss hg hp hw ha => by
  obtain ⟨v0, s0, _, _, rfl, _, ⟨_, rfl, _⟩, v1, s1, _, _, rfl, _, ⟨_, rfl, _⟩, rfl, _⟩ := ha
  obtain ⟨h0, h1⟩ := hp
  obtain ⟨c, rfl⟩ : ∃ c : Nat, x1 = (c : Int) := Int.eq_ofNat_of_zero_le h0
  have hi : InR .i64 (c : Int) := hw.2.1
  rw [i64_iff] at hi
  have hm : x0.size * c ≤ 140737488355328 := by
    have : ((x0.size * c : Nat) : Int) = (x0.size : Int) * (c : Int) := Int.natCast_mul _ _
    omega
  refine ⟨fun d hd => ?_, ?_⟩
  · rw [List.mem_singleton.1 hd]
    refine ⟨rfl, ?_⟩
    show (ByteArray.mk (Lib.repeatL x0.data.toList c).toArray).size ≤ maxLen
    have : (ByteArray.mk (Lib.repeatL x0.data.toList c).toArray).size = c * x0.data.toList.length := by
      show (Lib.repeatL x0.data.toList c).toArray.size = _
      rw [List.size_toArray, Lib.repeatL_length]
    rw [this, Nat.mul_comm]
    have e : x0.data.toList.length = x0.size := rfl
    rw [e]
    unfold maxLen
    omega
  · refine (Tryd.strings_Repeat x0 c w (by omega) hm).mono ?_
    rintro e w' ⟨rfl, hb⟩
    exact ⟨rfl, Kept.of_below hb⟩

end Go.Proofs.YtakodkjcmacofaaDoor

/- Function 103 (impl.padded): its runs between cut points. Written by a program of this repo (gen). -/
set_option linter.unusedVariables false
set_option linter.unusedSimpArgs false
set_option maxRecDepth 100000
namespace Go.Proofs.YtakodkjcmacofaaDoor
open Go Go.Am Go.Proofs
def ext103 : Ext := [(94, S94), (143, S143)]
theorem call103_94 : Callable Tryd.prog 94 := ⟨Tryd.f94, Tryd.func94, by kernel_rfl, by kernel_rfl⟩
theorem call103_143 : Callable Tryd.prog 143 := ⟨Tryd.f143, Tryd.func143, by kernel_rfl, by kernel_rfl⟩
theorem ext103Ok : ExtOk Tryd.prog ext103 := ⟨⟨call103_94, con94⟩, ⟨call103_143, con143⟩, trivial⟩
/-! Function 103. -/
noncomputable def b103 : Code := bodyOf Tryd.f103
theorem hb103 : Tryd.f103.body = some b103 := by kernel_rfl
def sig103 : List AT := [AT.v (Ty.int IntKind.i64), AT.v (Ty.int IntKind.i64)]
def tys103 : List Ty := [Ty.str]
def P103 (x0 : Int) (x1 : Int) : Prop := ((P94 x0) ∧ ((InR IntKind.i64 (x1 - (↑(ByteArray.size (g94_0 x0)) : Int))) ∧ ((P143 (ByteArray.mk #[48]) (if 0 < x1 - (↑(ByteArray.size (g94_0 x0)) : Int) then x1 - (↑(ByteArray.size (g94_0 x0)) : Int) else 0)) ∧ ((ByteArray.size (g143_0 (ByteArray.mk #[48]) (if 0 < x1 - (↑(ByteArray.size (g94_0 x0)) : Int) then x1 - (↑(ByteArray.size (g94_0 x0)) : Int) else 0)) + ByteArray.size (g94_0 x0) ≤ 9223372036854775807) ∧ True))))
def g103_0 (x0 : Int) (x1 : Int) : ByteArray := g143_0 (ByteArray.mk #[48]) (if 0 < x1 - (↑(ByteArray.size (g94_0 x0)) : Int) then x1 - (↑(ByteArray.size (g94_0 x0)) : Int) else 0) ++ g94_0 x0
theorem p103_0 (x0 : Int) (x1 : Int) : runF tab ext103 false 16 [] 2000 [] tys103 Tryd.f103.results [] [.code b103] (entE 0 0 sig103 (x0, x1, ())) (entL sig103 (x0, x1, ())) = some ([Dyn.mk Ty.str (g143_0 (ByteArray.mk #[48]) (if 0 < x1 - (↑(ByteArray.size (g94_0 x0)) : Int) then x1 - (↑(ByteArray.size (g94_0 x0)) : Int) else 0) ++ g94_0 x0)], [], [P94 x0, InR IntKind.i64 (x1 - (↑(ByteArray.size (g94_0 x0)) : Int)), P143 (ByteArray.mk #[48]) (if 0 < x1 - (↑(ByteArray.size (g94_0 x0)) : Int) then x1 - (↑(ByteArray.size (g94_0 x0)) : Int) else 0), ByteArray.size (g143_0 (ByteArray.mk #[48]) (if 0 < x1 - (↑(ByteArray.size (g94_0 x0)) : Int) then x1 - (↑(ByteArray.size (g94_0 x0)) : Int) else 0)) + ByteArray.size (g94_0 x0) ≤ 9223372036854775807]) := by kernel_rfl
theorem at103 (x0 : Int) (x1 : Int) (h : P103 x0 x1) (w0 : World) (O : List Nat) (q : Nat → Value) : AtV Tryd.prog 103 (PostR [⟨Ty.str, g103_0 x0 x1⟩] [] [] q w0 O) 16 w0 O q [] [.code b103] (entE 0 0 sig103 (x0, x1, ())) (entL sig103 (x0, x1, ())) := by
  unfold P103 at h
  unfold g103_0
  obtain ⟨s0, h⟩ := h
  obtain ⟨s1, h⟩ := h
  obtain ⟨s2, h⟩ := h
  obtain ⟨s3, h⟩ := h
  exact AtV.fin Tryd.func103 tabOk ext103Ok mixed (p103_0 x0 x1) ⟨s0, s1, s2, s3, trivial⟩

def S103 : Am.Spec := { sig := sig103, pre := fun ⟨x0, x1, _⟩ => P103 x0 x1, res := fun ⟨x0, x1, _⟩ => [⟨Ty.str, g103_0 x0 x1⟩] }
theorem con103 : Contract Tryd.prog 103 S103 := contract_of Tryd.func103 hb103 (Nat.le_of_ble_eq_true (by kernel_rfl)) (fun ⟨x0, x1, _⟩ h _ w0 O q => at103 x0 x1 h w0 O q)


end Go.Proofs.YtakodkjcmacofaaDoor

/- Function 53 (impl.DateText): its runs between cut points. Written by a program of this repo (gen). -/
set_option linter.unusedVariables false
set_option linter.unusedSimpArgs false
set_option maxRecDepth 100000
namespace Go.Proofs.YtakodkjcmacofaaDoor
open Go Go.Am Go.Proofs
def ext53 : Ext := [(113, S113), (114, S114), (94, S94), (103, S103)]
theorem call53_113 : Callable Tryd.prog 113 := ⟨Tryd.f113, Tryd.func113, by kernel_rfl, by kernel_rfl⟩
theorem call53_114 : Callable Tryd.prog 114 := ⟨Tryd.f114, Tryd.func114, by kernel_rfl, by kernel_rfl⟩
theorem call53_94 : Callable Tryd.prog 94 := ⟨Tryd.f94, Tryd.func94, by kernel_rfl, by kernel_rfl⟩
theorem call53_103 : Callable Tryd.prog 103 := ⟨Tryd.f103, Tryd.func103, by kernel_rfl, by kernel_rfl⟩
theorem ext53Ok : ExtOk Tryd.prog ext53 := ⟨⟨call53_113, con113⟩, ⟨call53_114, con114⟩, ⟨call53_94, con94⟩, ⟨call53_103, con103⟩, trivial⟩
/-! Function 53. -/
noncomputable def b53 : Code := bodyOf Tryd.f53
theorem hb53 : Tryd.f53.body = some b53 := by kernel_rfl
def sig53 : List AT := [AT.v (Ty.int IntKind.i64)]
def tys53 : List Ty := [Ty.str]
def P53 (x0 : Int) : Prop := (if (!g113_0 x0) = true then True else ((P114 x0) ∧ ((P94 (g114_0 x0)) ∧ ((ByteArray.size (g94_0 (g114_0 x0)) + 1 ≤ 9223372036854775807) ∧ ((P103 (g114_1 x0) 2) ∧ ((ByteArray.size (g94_0 (g114_0 x0) ++ ByteArray.mk #[45]) + ByteArray.size (g103_0 (g114_1 x0) 2) ≤ 9223372036854775807) ∧ ((ByteArray.size (g94_0 (g114_0 x0) ++ ByteArray.mk #[45] ++ g103_0 (g114_1 x0) 2) + 1 ≤ 9223372036854775807) ∧ ((P103 (g114_2 x0) 2) ∧ ((ByteArray.size (g94_0 (g114_0 x0) ++ ByteArray.mk #[45] ++ g103_0 (g114_1 x0) 2 ++ ByteArray.mk #[45]) + ByteArray.size (g103_0 (g114_2 x0) 2) ≤ 9223372036854775807) ∧ True)))))))))
def g53_0 (x0 : Int) : ByteArray := (if (!g113_0 x0) = true then ByteArray.mk #[] else g94_0 (g114_0 x0) ++ ByteArray.mk #[45] ++ g103_0 (g114_1 x0) 2 ++ ByteArray.mk #[45] ++ g103_0 (g114_2 x0) 2)
theorem p53_0 (x0 : Int) : runF tab ext53 false 25 [] 2000 [] tys53 Tryd.f53.results [true] [.code b53] (entE 0 0 sig53 (x0, ())) (entL sig53 (x0, ())) = some ([Dyn.mk Ty.str (ByteArray.mk #[])], [], [True, (!g113_0 x0) = Bool.true]) := by kernel_rfl
theorem p53_1 (x0 : Int) : runF tab ext53 false 25 [] 2000 [] tys53 Tryd.f53.results [false] [.code b53] (entE 0 0 sig53 (x0, ())) (entL sig53 (x0, ())) = some ([Dyn.mk Ty.str (g94_0 (g114_0 x0) ++ ByteArray.mk #[45] ++ g103_0 (g114_1 x0) 2 ++ ByteArray.mk #[45] ++ g103_0 (g114_2 x0) 2)], [], [True, (!g113_0 x0) = Bool.false, P114 x0, P94 (g114_0 x0), ByteArray.size (g94_0 (g114_0 x0)) + 1 ≤ 9223372036854775807, P103 (g114_1 x0) 2, ByteArray.size (g94_0 (g114_0 x0) ++ ByteArray.mk #[45]) + ByteArray.size (g103_0 (g114_1 x0) 2) ≤ 9223372036854775807, ByteArray.size (g94_0 (g114_0 x0) ++ ByteArray.mk #[45] ++ g103_0 (g114_1 x0) 2) + 1 ≤ 9223372036854775807, P103 (g114_2 x0) 2, ByteArray.size (g94_0 (g114_0 x0) ++ ByteArray.mk #[45] ++ g103_0 (g114_1 x0) 2 ++ ByteArray.mk #[45]) + ByteArray.size (g103_0 (g114_2 x0) 2) ≤ 9223372036854775807]) := by kernel_rfl
theorem at53 (x0 : Int) (h : P53 x0) (w0 : World) (O : List Nat) (q : Nat → Value) : AtV Tryd.prog 53 (PostR [⟨Ty.str, g53_0 x0⟩] [] [] q w0 O) 25 w0 O q [] [.code b53] (entE 0 0 sig53 (x0, ())) (entL sig53 (x0, ())) := by
  unfold P53 at h
  unfold g53_0
  by_cases b0 : (!g113_0 x0) = true
  · try simp only [if_pos b0] at h ⊢
    exact AtV.fin Tryd.func53 tabOk ext53Ok mixed (p53_0 x0) ⟨trivial, b0, trivial⟩
  · try simp only [if_neg b0] at h ⊢
    replace b0 := Bool.eq_false_iff.2 b0
    obtain ⟨s0, h⟩ := h
    obtain ⟨s1, h⟩ := h
    obtain ⟨s2, h⟩ := h
    obtain ⟨s3, h⟩ := h
    obtain ⟨s4, h⟩ := h
    obtain ⟨s5, h⟩ := h
    obtain ⟨s6, h⟩ := h
    obtain ⟨s7, h⟩ := h
    exact AtV.fin Tryd.func53 tabOk ext53Ok mixed (p53_1 x0) ⟨trivial, b0, s0, s1, s2, s3, s4, s5, s6, s7, trivial⟩

def S53 : Am.Spec := { sig := sig53, pre := fun ⟨x0, _⟩ => P53 x0, res := fun ⟨x0, _⟩ => [⟨Ty.str, g53_0 x0⟩] }
theorem con53 : Contract Tryd.prog 53 S53 := contract_of Tryd.func53 hb53 (Nat.le_of_ble_eq_true (by kernel_rfl)) (fun ⟨x0, _⟩ h _ w0 O q => at53 x0 h w0 O q)


end Go.Proofs.YtakodkjcmacofaaDoor

/- Function 31 (impl.ReadDate): its runs between cut points. Written by a program of this repo (gen). -/
set_option linter.unusedVariables false
set_option linter.unusedSimpArgs false
set_option maxRecDepth 100000
namespace Go.Proofs.YtakodkjcmacofaaDoor
open Go Go.Am Go.Proofs
def ext31 : Ext := [(87, S87), (65, S65), (52, S52), (53, S53)]
theorem call31_87 : Callable Tryd.prog 87 := ⟨Tryd.f87, Tryd.func87, by kernel_rfl, by kernel_rfl⟩
theorem call31_65 : Callable Tryd.prog 65 := ⟨Tryd.f65, Tryd.func65, by kernel_rfl, by kernel_rfl⟩
theorem call31_52 : Callable Tryd.prog 52 := ⟨Tryd.f52, Tryd.func52, by kernel_rfl, by kernel_rfl⟩
theorem call31_53 : Callable Tryd.prog 53 := ⟨Tryd.f53, Tryd.func53, by kernel_rfl, by kernel_rfl⟩
theorem ext31Ok : ExtOk Tryd.prog ext31 := ⟨⟨call31_87, con87⟩, ⟨call31_65, con65⟩, ⟨call31_52, con52⟩, ⟨call31_53, con53⟩, trivial⟩
/-! Function 31. -/
noncomputable def b31 : Code := bodyOf Tryd.f31
theorem hb31 : Tryd.f31.body = some b31 := by kernel_rfl
def sig31 : List AT := [AT.v (Ty.str)]
def tys31 : List Ty := [Ty.int IntKind.i64, Ty.bool]
def P31 (x0 : ByteArray) : Prop := ((P87 x0 (ByteArray.mk #[45])) ∧ (if ((↑(List.length (g87_0 x0 (ByteArray.mk #[45]))) : Int) != 3) = true then True else ((0 < (↑(List.length (g87_0 x0 (ByteArray.mk #[45]))) : Int)) ∧ ((1 < (↑(List.length (g87_0 x0 (ByteArray.mk #[45]))) : Int)) ∧ ((2 < (↑(List.length (g87_0 x0 (ByteArray.mk #[45]))) : Int)) ∧ ((P52 (g65_0 (List.getD (g87_0 x0 (ByteArray.mk #[45])) 0 ByteArray.empty)) (g65_0 (List.getD (g87_0 x0 (ByteArray.mk #[45])) 1 ByteArray.empty)) (g65_0 (List.getD (g87_0 x0 (ByteArray.mk #[45])) 2 ByteArray.empty))) ∧ (if (g52_1 (g65_0 (List.getD (g87_0 x0 (ByteArray.mk #[45])) 0 ByteArray.empty)) (g65_0 (List.getD (g87_0 x0 (ByteArray.mk #[45])) 1 ByteArray.empty)) (g65_0 (List.getD (g87_0 x0 (ByteArray.mk #[45])) 2 ByteArray.empty)) != 0) = true then True else ((P53 (g52_0 (g65_0 (List.getD (g87_0 x0 (ByteArray.mk #[45])) 0 ByteArray.empty)) (g65_0 (List.getD (g87_0 x0 (ByteArray.mk #[45])) 1 ByteArray.empty)) (g65_0 (List.getD (g87_0 x0 (ByteArray.mk #[45])) 2 ByteArray.empty)))) ∧ True))))))))
def g31_0 (x0 : ByteArray) : Int := (if ((↑(List.length (g87_0 x0 (ByteArray.mk #[45]))) : Int) != 3) = true then 0 else (if (g52_1 (g65_0 (List.getD (g87_0 x0 (ByteArray.mk #[45])) 0 ByteArray.empty)) (g65_0 (List.getD (g87_0 x0 (ByteArray.mk #[45])) 1 ByteArray.empty)) (g65_0 (List.getD (g87_0 x0 (ByteArray.mk #[45])) 2 ByteArray.empty)) != 0) = true then 0 else (if (!ByteArray.toList (g53_0 (g52_0 (g65_0 (List.getD (g87_0 x0 (ByteArray.mk #[45])) 0 ByteArray.empty)) (g65_0 (List.getD (g87_0 x0 (ByteArray.mk #[45])) 1 ByteArray.empty)) (g65_0 (List.getD (g87_0 x0 (ByteArray.mk #[45])) 2 ByteArray.empty)))) == ByteArray.toList x0) = true then 0 else g52_0 (g65_0 (List.getD (g87_0 x0 (ByteArray.mk #[45])) 0 ByteArray.empty)) (g65_0 (List.getD (g87_0 x0 (ByteArray.mk #[45])) 1 ByteArray.empty)) (g65_0 (List.getD (g87_0 x0 (ByteArray.mk #[45])) 2 ByteArray.empty)))))
def g31_1 (x0 : ByteArray) : Bool := (if ((↑(List.length (g87_0 x0 (ByteArray.mk #[45]))) : Int) != 3) = true then Bool.false else (if (g52_1 (g65_0 (List.getD (g87_0 x0 (ByteArray.mk #[45])) 0 ByteArray.empty)) (g65_0 (List.getD (g87_0 x0 (ByteArray.mk #[45])) 1 ByteArray.empty)) (g65_0 (List.getD (g87_0 x0 (ByteArray.mk #[45])) 2 ByteArray.empty)) != 0) = true then Bool.false else (if (!ByteArray.toList (g53_0 (g52_0 (g65_0 (List.getD (g87_0 x0 (ByteArray.mk #[45])) 0 ByteArray.empty)) (g65_0 (List.getD (g87_0 x0 (ByteArray.mk #[45])) 1 ByteArray.empty)) (g65_0 (List.getD (g87_0 x0 (ByteArray.mk #[45])) 2 ByteArray.empty)))) == ByteArray.toList x0) = true then Bool.false else Bool.true)))
theorem p31_0 (x0 : ByteArray) : runF tab ext31 false 37 [] 2000 [] tys31 Tryd.f31.results [true] [.code b31] (entE 0 0 sig31 (x0, ())) (entL sig31 (x0, ())) = some ([Dyn.mk (Ty.int IntKind.i64) 0, Dyn.mk Ty.bool Bool.false], [], [P87 x0 (ByteArray.mk #[45]), ((↑(List.length (g87_0 x0 (ByteArray.mk #[45]))) : Int) != 3) = Bool.true]) := by kernel_rfl
theorem p31_1 (x0 : ByteArray) : runF tab ext31 false 37 [] 2000 [] tys31 Tryd.f31.results [false, true, true] [.code b31] (entE 0 0 sig31 (x0, ())) (entL sig31 (x0, ())) = some ([Dyn.mk (Ty.int IntKind.i64) 0, Dyn.mk Ty.bool Bool.false], [], [P87 x0 (ByteArray.mk #[45]), ((↑(List.length (g87_0 x0 (ByteArray.mk #[45]))) : Int) != 3) = Bool.false, (0 : Int) ≤ (0 : Int), 0 < (↑(List.length (g87_0 x0 (ByteArray.mk #[45]))) : Int), True, (0 : Int) ≤ (1 : Int), 1 < (↑(List.length (g87_0 x0 (ByteArray.mk #[45]))) : Int), True, (0 : Int) ≤ (2 : Int), 2 < (↑(List.length (g87_0 x0 (ByteArray.mk #[45]))) : Int), True, P52 (g65_0 (List.getD (g87_0 x0 (ByteArray.mk #[45])) 0 ByteArray.empty)) (g65_0 (List.getD (g87_0 x0 (ByteArray.mk #[45])) 1 ByteArray.empty)) (g65_0 (List.getD (g87_0 x0 (ByteArray.mk #[45])) 2 ByteArray.empty)), (g52_1 (g65_0 (List.getD (g87_0 x0 (ByteArray.mk #[45])) 0 ByteArray.empty)) (g65_0 (List.getD (g87_0 x0 (ByteArray.mk #[45])) 1 ByteArray.empty)) (g65_0 (List.getD (g87_0 x0 (ByteArray.mk #[45])) 2 ByteArray.empty)) != 0) = Bool.true, Bool.true = Bool.true]) := by kernel_rfl
theorem p31_2 (x0 : ByteArray) : runF tab ext31 false 37 [] 2000 [] tys31 Tryd.f31.results [false, false, true] [.code b31] (entE 0 0 sig31 (x0, ())) (entL sig31 (x0, ())) = some ([Dyn.mk (Ty.int IntKind.i64) 0, Dyn.mk Ty.bool Bool.false], [], [P87 x0 (ByteArray.mk #[45]), ((↑(List.length (g87_0 x0 (ByteArray.mk #[45]))) : Int) != 3) = Bool.false, (0 : Int) ≤ (0 : Int), 0 < (↑(List.length (g87_0 x0 (ByteArray.mk #[45]))) : Int), True, (0 : Int) ≤ (1 : Int), 1 < (↑(List.length (g87_0 x0 (ByteArray.mk #[45]))) : Int), True, (0 : Int) ≤ (2 : Int), 2 < (↑(List.length (g87_0 x0 (ByteArray.mk #[45]))) : Int), True, P52 (g65_0 (List.getD (g87_0 x0 (ByteArray.mk #[45])) 0 ByteArray.empty)) (g65_0 (List.getD (g87_0 x0 (ByteArray.mk #[45])) 1 ByteArray.empty)) (g65_0 (List.getD (g87_0 x0 (ByteArray.mk #[45])) 2 ByteArray.empty)), (g52_1 (g65_0 (List.getD (g87_0 x0 (ByteArray.mk #[45])) 0 ByteArray.empty)) (g65_0 (List.getD (g87_0 x0 (ByteArray.mk #[45])) 1 ByteArray.empty)) (g65_0 (List.getD (g87_0 x0 (ByteArray.mk #[45])) 2 ByteArray.empty)) != 0) = Bool.false, P53 (g52_0 (g65_0 (List.getD (g87_0 x0 (ByteArray.mk #[45])) 0 ByteArray.empty)) (g65_0 (List.getD (g87_0 x0 (ByteArray.mk #[45])) 1 ByteArray.empty)) (g65_0 (List.getD (g87_0 x0 (ByteArray.mk #[45])) 2 ByteArray.empty))), (!ByteArray.toList (g53_0 (g52_0 (g65_0 (List.getD (g87_0 x0 (ByteArray.mk #[45])) 0 ByteArray.empty)) (g65_0 (List.getD (g87_0 x0 (ByteArray.mk #[45])) 1 ByteArray.empty)) (g65_0 (List.getD (g87_0 x0 (ByteArray.mk #[45])) 2 ByteArray.empty)))) == ByteArray.toList x0) = Bool.true]) := by kernel_rfl
theorem p31_3 (x0 : ByteArray) : runF tab ext31 false 37 [] 2000 [] tys31 Tryd.f31.results [false, false, false] [.code b31] (entE 0 0 sig31 (x0, ())) (entL sig31 (x0, ())) = some ([Dyn.mk (Ty.int IntKind.i64) (g52_0 (g65_0 (List.getD (g87_0 x0 (ByteArray.mk #[45])) 0 ByteArray.empty)) (g65_0 (List.getD (g87_0 x0 (ByteArray.mk #[45])) 1 ByteArray.empty)) (g65_0 (List.getD (g87_0 x0 (ByteArray.mk #[45])) 2 ByteArray.empty))), Dyn.mk Ty.bool Bool.true], [], [P87 x0 (ByteArray.mk #[45]), ((↑(List.length (g87_0 x0 (ByteArray.mk #[45]))) : Int) != 3) = Bool.false, (0 : Int) ≤ (0 : Int), 0 < (↑(List.length (g87_0 x0 (ByteArray.mk #[45]))) : Int), True, (0 : Int) ≤ (1 : Int), 1 < (↑(List.length (g87_0 x0 (ByteArray.mk #[45]))) : Int), True, (0 : Int) ≤ (2 : Int), 2 < (↑(List.length (g87_0 x0 (ByteArray.mk #[45]))) : Int), True, P52 (g65_0 (List.getD (g87_0 x0 (ByteArray.mk #[45])) 0 ByteArray.empty)) (g65_0 (List.getD (g87_0 x0 (ByteArray.mk #[45])) 1 ByteArray.empty)) (g65_0 (List.getD (g87_0 x0 (ByteArray.mk #[45])) 2 ByteArray.empty)), (g52_1 (g65_0 (List.getD (g87_0 x0 (ByteArray.mk #[45])) 0 ByteArray.empty)) (g65_0 (List.getD (g87_0 x0 (ByteArray.mk #[45])) 1 ByteArray.empty)) (g65_0 (List.getD (g87_0 x0 (ByteArray.mk #[45])) 2 ByteArray.empty)) != 0) = Bool.false, P53 (g52_0 (g65_0 (List.getD (g87_0 x0 (ByteArray.mk #[45])) 0 ByteArray.empty)) (g65_0 (List.getD (g87_0 x0 (ByteArray.mk #[45])) 1 ByteArray.empty)) (g65_0 (List.getD (g87_0 x0 (ByteArray.mk #[45])) 2 ByteArray.empty))), (!ByteArray.toList (g53_0 (g52_0 (g65_0 (List.getD (g87_0 x0 (ByteArray.mk #[45])) 0 ByteArray.empty)) (g65_0 (List.getD (g87_0 x0 (ByteArray.mk #[45])) 1 ByteArray.empty)) (g65_0 (List.getD (g87_0 x0 (ByteArray.mk #[45])) 2 ByteArray.empty)))) == ByteArray.toList x0) = Bool.false]) := by kernel_rfl
theorem at31 (x0 : ByteArray) (h : P31 x0) (w0 : World) (O : List Nat) (q : Nat → Value) : AtV Tryd.prog 31 (PostR [⟨Ty.int IntKind.i64, g31_0 x0⟩, ⟨Ty.bool, g31_1 x0⟩] [] [] q w0 O) 37 w0 O q [] [.code b31] (entE 0 0 sig31 (x0, ())) (entL sig31 (x0, ())) := by
  unfold P31 at h
  unfold g31_0 g31_1
  obtain ⟨s0, h⟩ := h
  by_cases b0 : ((↑(List.length (g87_0 x0 (ByteArray.mk #[45]))) : Int) != 3) = true
  · try simp only [if_pos b0] at h ⊢
    exact AtV.fin Tryd.func31 tabOk ext31Ok mixed (p31_0 x0) ⟨s0, b0, trivial⟩
  · try simp only [if_neg b0] at h ⊢
    replace b0 := Bool.eq_false_iff.2 b0
    obtain ⟨s1, h⟩ := h
    obtain ⟨s2, h⟩ := h
    obtain ⟨s3, h⟩ := h
    obtain ⟨s4, h⟩ := h
    by_cases b1 : (g52_1 (g65_0 (List.getD (g87_0 x0 (ByteArray.mk #[45])) 0 ByteArray.empty)) (g65_0 (List.getD (g87_0 x0 (ByteArray.mk #[45])) 1 ByteArray.empty)) (g65_0 (List.getD (g87_0 x0 (ByteArray.mk #[45])) 2 ByteArray.empty)) != 0) = true
    · try simp only [if_pos b1] at h ⊢
      exact AtV.fin Tryd.func31 tabOk ext31Ok mixed (p31_1 x0) ⟨s0, b0, (by decide), s1, trivial, (by decide), s2, trivial, (by decide), s3, trivial, s4, b1, rfl, trivial⟩
    · try simp only [if_neg b1] at h ⊢
      replace b1 := Bool.eq_false_iff.2 b1
      obtain ⟨s5, h⟩ := h
      by_cases b2 : (!ByteArray.toList (g53_0 (g52_0 (g65_0 (List.getD (g87_0 x0 (ByteArray.mk #[45])) 0 ByteArray.empty)) (g65_0 (List.getD (g87_0 x0 (ByteArray.mk #[45])) 1 ByteArray.empty)) (g65_0 (List.getD (g87_0 x0 (ByteArray.mk #[45])) 2 ByteArray.empty)))) == ByteArray.toList x0) = true
      · try simp only [if_pos b2] at h ⊢
        exact AtV.fin Tryd.func31 tabOk ext31Ok mixed (p31_2 x0) ⟨s0, b0, (by decide), s1, trivial, (by decide), s2, trivial, (by decide), s3, trivial, s4, b1, s5, b2, trivial⟩
      · try simp only [if_neg b2] at h ⊢
        replace b2 := Bool.eq_false_iff.2 b2
        exact AtV.fin Tryd.func31 tabOk ext31Ok mixed (p31_3 x0) ⟨s0, b0, (by decide), s1, trivial, (by decide), s2, trivial, (by decide), s3, trivial, s4, b1, s5, b2, trivial⟩

def S31 : Am.Spec := { sig := sig31, pre := fun ⟨x0, _⟩ => P31 x0, res := fun ⟨x0, _⟩ => [⟨Ty.int IntKind.i64, g31_0 x0⟩, ⟨Ty.bool, g31_1 x0⟩] }
theorem con31 : Contract Tryd.prog 31 S31 := contract_of Tryd.func31 hb31 (Nat.le_of_ble_eq_true (by kernel_rfl)) (fun ⟨x0, _⟩ h _ w0 O q => at31 x0 h w0 O q)


end Go.Proofs.YtakodkjcmacofaaDoor

/- Function 8 (laws.FnExactReadDate): its runs between cut points. Written by a program of this repo (gen). -/
set_option linter.unusedVariables false
set_option linter.unusedSimpArgs false
set_option maxRecDepth 100000
namespace Go.Proofs.YtakodkjcmacofaaDoor
open Go Go.Am Go.Proofs
def ext8 : Ext := [(30, S30), (31, S31)]
theorem call8_30 : Callable Tryd.prog 30 := ⟨Tryd.f30, Tryd.func30, by kernel_rfl, by kernel_rfl⟩
theorem call8_31 : Callable Tryd.prog 31 := ⟨Tryd.f31, Tryd.func31, by kernel_rfl, by kernel_rfl⟩
theorem ext8Ok : ExtOk Tryd.prog ext8 := ⟨⟨call8_30, con30⟩, ⟨call8_31, con31⟩, trivial⟩
/-! Function 8. -/
noncomputable def b8 : Code := bodyOf Tryd.f8
theorem hb8 : Tryd.f8.body = some b8 := by kernel_rfl
def sig8 : List AT := [AT.v (Ty.str)]
def tys8 : List Ty := [Ty.bool]
def P8 (x0 : ByteArray) : Prop := (if (Decidable.decide ((↑(ByteArray.size x0) : Int) > 1048576)) = true then True else ((P30 x0) ∧ ((P31 x0) ∧ True)))
def g8_0 (x0 : ByteArray) : Bool := (if (Decidable.decide ((↑(ByteArray.size x0) : Int) > 1048576)) = true then Bool.true else (if (g31_0 x0 != g30_0 x0) = true then Bool.false else (if (!g31_1 x0 == g30_1 x0) = true then Bool.false else Bool.true)))
theorem p8_0 (x0 : ByteArray) : runF tab ext8 false 28 [] 2000 [] tys8 Tryd.f8.results [true] [.code b8] (entE 0 0 sig8 (x0, ())) (entL sig8 (x0, ())) = some ([Dyn.mk Ty.bool Bool.true], [], [Decidable.decide ((↑(ByteArray.size x0) : Int) > 1048576) = Bool.true]) := by kernel_rfl
theorem p8_1 (x0 : ByteArray) : runF tab ext8 false 28 [] 2000 [] tys8 Tryd.f8.results [false, true, true] [.code b8] (entE 0 0 sig8 (x0, ())) (entL sig8 (x0, ())) = some ([Dyn.mk Ty.bool Bool.false], [], [Decidable.decide ((↑(ByteArray.size x0) : Int) > 1048576) = Bool.false, P30 x0, P31 x0, (g31_0 x0 != g30_0 x0) = Bool.true, Bool.true = Bool.true]) := by kernel_rfl
theorem p8_2 (x0 : ByteArray) : runF tab ext8 false 28 [] 2000 [] tys8 Tryd.f8.results [false, false, true] [.code b8] (entE 0 0 sig8 (x0, ())) (entL sig8 (x0, ())) = some ([Dyn.mk Ty.bool Bool.false], [], [Decidable.decide ((↑(ByteArray.size x0) : Int) > 1048576) = Bool.false, P30 x0, P31 x0, (g31_0 x0 != g30_0 x0) = Bool.false, (!g31_1 x0 == g30_1 x0) = Bool.true]) := by kernel_rfl
theorem p8_3 (x0 : ByteArray) : runF tab ext8 false 28 [] 2000 [] tys8 Tryd.f8.results [false, false, false] [.code b8] (entE 0 0 sig8 (x0, ())) (entL sig8 (x0, ())) = some ([Dyn.mk Ty.bool Bool.true], [], [Decidable.decide ((↑(ByteArray.size x0) : Int) > 1048576) = Bool.false, P30 x0, P31 x0, (g31_0 x0 != g30_0 x0) = Bool.false, (!g31_1 x0 == g30_1 x0) = Bool.false]) := by kernel_rfl
theorem at8 (x0 : ByteArray) (h : P8 x0) (w0 : World) (O : List Nat) (q : Nat → Value) : AtV Tryd.prog 8 (PostR [⟨Ty.bool, g8_0 x0⟩] [] [] q w0 O) 28 w0 O q [] [.code b8] (entE 0 0 sig8 (x0, ())) (entL sig8 (x0, ())) := by
  unfold P8 at h
  unfold g8_0
  by_cases b0 : (Decidable.decide ((↑(ByteArray.size x0) : Int) > 1048576)) = true
  · try simp only [if_pos b0] at h ⊢
    exact AtV.fin Tryd.func8 tabOk ext8Ok mixed (p8_0 x0) ⟨b0, trivial⟩
  · try simp only [if_neg b0] at h ⊢
    replace b0 := Bool.eq_false_iff.2 b0
    obtain ⟨s0, h⟩ := h
    obtain ⟨s1, h⟩ := h
    by_cases b1 : (g31_0 x0 != g30_0 x0) = true
    · try simp only [if_pos b1] at h ⊢
      exact AtV.fin Tryd.func8 tabOk ext8Ok mixed (p8_1 x0) ⟨b0, s0, s1, b1, rfl, trivial⟩
    · try simp only [if_neg b1] at h ⊢
      replace b1 := Bool.eq_false_iff.2 b1
      by_cases b2 : (!g31_1 x0 == g30_1 x0) = true
      · try simp only [if_pos b2] at h ⊢
        exact AtV.fin Tryd.func8 tabOk ext8Ok mixed (p8_2 x0) ⟨b0, s0, s1, b1, b2, trivial⟩
      · try simp only [if_neg b2] at h ⊢
        replace b2 := Bool.eq_false_iff.2 b2
        exact AtV.fin Tryd.func8 tabOk ext8Ok mixed (p8_3 x0) ⟨b0, s0, s1, b1, b2, trivial⟩

def S8 : Am.Spec := { sig := sig8, pre := fun ⟨x0, _⟩ => P8 x0, res := fun ⟨x0, _⟩ => [⟨Ty.bool, g8_0 x0⟩] }
theorem con8 : Contract Tryd.prog 8 S8 := contract_of Tryd.func8 hb8 (Nat.le_of_ble_eq_true (by kernel_rfl)) (fun ⟨x0, _⟩ h _ w0 O q => at8 x0 h w0 O q)


end Go.Proofs.YtakodkjcmacofaaDoor

/- A law that says how functions of the program and of the specification hang together. -/
set_option linter.unusedVariables false
set_option linter.unusedSimpArgs false
set_option maxRecDepth 100000
namespace Go.Proofs.YtakodkjcmacofaaDoor
open Go Go.Am Go.Proofs

theorem len_eq {y m : Int} (hm : 1 ≤ m ∧ m ≤ 12) : g159_0 y m = g115_0 y m := by
  have hm : m = 1 ∨ m = 2 ∨ m = 3 ∨ m = 4 ∨ m = 5 ∨ m = 6 ∨ m = 7 ∨ m = 8 ∨ m = 9 ∨ m = 10 ∨ m = 11 ∨ m = 12 := by omega
  unfold g159_0 g115_0
  rcases hm with rfl | rfl | rfl | rfl | rfl | rfl | rfl | rfl | rfl | rfl | rfl | rfl <;> rfl

theorem ms_eq (y : Int) : ∀ k, k ≤ 12 → ms133 y k = ms116 y k
  | 0, _ => rfl
  | k + 1, h => by
    simp only [ms133, ms116]
    rw [ms_eq y k (by omega), len_eq (m := (k : Int) + 1) (by omega)]

theorem yd_eq : ∀ k : Nat, yd133 k = 365 * (k : Int) + ((k : Int) + 3) / 4
  | 0 => rfl
  | k + 1 => by
    have et : Int.tmod (2000 + (k : Int)) 4 = (2000 + (k : Int)) % 4 := Int.tmod_eq_emod_of_nonneg (by omega)
    simp only [yd133]
    rw [yd_eq k, et]
    by_cases hz : (2000 + (k : Int)) % 4 = 0
    · rw [if_pos (by simpa using hz)]; omega
    · rw [if_neg (by simpa using hz)]; omega

/-- A date that there is. -/
def Dat (y m d : Int) : Prop := (2000 ≤ y ∧ y ≤ 2099) ∧ (1 ≤ m ∧ m ≤ 12) ∧ (1 ≤ d ∧ d ≤ g115_0 y m)

def bas (y : Int) : Int := (y - 2000) * 365 + (y - 1997) / 4

theorem day_at {y m d : Int} (hy : 2000 ≤ y) : g116_0 y m d = bas y + ms116 y (m - 1).toNat + d - 1 := by
  have e : Int.tdiv (y - 1997) 4 = (y - 1997) / 4 := Int.tdiv_eq_ediv_of_nonneg (by omega)
  unfold g116_0 bs116 bas
  rw [e]; omega

theorem num_eq {y m d : Int} (h : Dat y m d) : g133_0 y m d = g116_0 y m d ∧ g133_1 y m d = true := by
  obtain ⟨h0, h1, h2⟩ := h
  have ok : ok133 y m d = true := by
    unfold ok133
    rw [in133.2 h0, in133.2 h1, len_eq h1, in133.2 h2]
    rfl
  refine ⟨?_, ok⟩
  unfold g133_0
  rw [if_pos ok, day_at h0.1, yd_eq, ms_eq y _ (by omega)]
  unfold bas
  omega

theorem dat_of {y m d : Int} (h : g133_1 y m d = true) : Dat y m d := by
  unfold g133_1 ok133 at h
  simp only [Bool.and_eq_true] at h
  have h1 := in133.1 h.2.1
  refine ⟨in133.1 h.1, h1, ?_⟩
  have := in133.1 h.2.2
  rwa [len_eq h1] at this

theorem win {x a b : Int} : g102_0 x a b = true ↔ a ≤ x ∧ x ≤ b := by
  unfold g102_0
  by_cases c1 : x ≥ a
  · by_cases c2 : x ≤ b
    · simp [c1, c2]
    · simp [c1, c2]
  · have : ¬ a ≤ x := c1
    simp [c1, this]

theorem inum {y m d : Int} (h : Dat y m d) : g52_0 y m d = g116_0 y m d ∧ g52_1 y m d = 0 := by
  obtain ⟨h0, h1, h2⟩ := h
  unfold g52_0 g52_1
  rw [win.2 h0, win.2 h1, win.2 h2]
  exact ⟨rfl, rfl⟩

theorem idat {y m d : Int} (h : g52_1 y m d = 0) : Dat y m d := by
  unfold g52_1 at h
  cases h0 : g102_0 y 2000 2099 with
  | false => rw [h0] at h; simp at h
  | true =>
    cases h1 : g102_0 m 1 12 with
    | false => rw [h0, h1] at h; simp at h
    | true =>
      cases h2 : g102_0 d 1 (g115_0 y m) with
      | false => rw [h0, h1, h2] at h; simp at h
      | true => exact ⟨win.1 h0, win.1 h1, win.1 h2⟩

theorem ms_mono {y : Int} (hy : 2000 ≤ y ∧ y ≤ 2099) (i : Nat) : ∀ j, ms116 y i ≤ ms116 y (i + j)
  | 0 => Int.le_refl _
  | j + 1 => by
    have := ms_mono hy i j
    have := (len116 hy (m := ((i + j : Nat) : Int) + 1)).2.1
    rw [← Nat.add_assoc]
    simp only [ms116]
    omega

theorem ms_year {y : Int} (hy : 2000 ≤ y ∧ y ≤ 2099) : bas y + ms116 y 12 = bas (y + 1) := by
  have et : Int.tmod y 4 = y % 4 := Int.tmod_eq_emod_of_nonneg (by omega)
  have e : ms116 y 12 = if y % 4 = 0 then 366 else 365 := by
    by_cases hz : y % 4 = 0 <;> simp [ms116, g115_0, et, hz]
  rw [e]
  unfold bas
  split <;> omega

theorem year_back {y day : Int} (hy : 2000 ≤ y ∧ y ≤ 2099) (h1 : bas y ≤ day) (h2 : day < bas (y + 1)) : ∀ (k : Nat) (z : Int), z + k = 2099 → 2000 ≤ z → z ≤ y → yr114 day k z = y := by
  have e1 : ∀ z : Int, 2000 ≤ z → g116_0 z 1 1 = bas z := fun z hz => by
    rw [day_at hz]
    show bas z + 0 + 1 - 1 = bas z
    omega
  intro k
  induction k with
  | zero => intro z hz _ hle; show z = y; omega
  | succ k ih =>
    intro z hz h0 hle
    unfold yr114
    rw [e1 (z + 1) (by omega)]
    by_cases hlt : z < y
    · rw [if_pos (by have : bas (z + 1) ≤ bas y := by unfold bas; omega
                     omega)]
      exact ih (z + 1) (by omega) (by omega) (by omega)
    · have : z = y := by omega
      subst this
      rw [if_neg (by omega)]

theorem month_back {y m day : Int} (hy : 2000 ≤ y ∧ y ≤ 2099) (hm : 1 ≤ m ∧ m ≤ 12) (h1 : bas y + ms116 y (m - 1).toNat ≤ day) (h2 : day < bas y + ms116 y m.toNat) : ∀ (k : Nat) (z : Int), z + k = 12 → 1 ≤ z → z ≤ m → mo114 day y k z = m := by
  intro k
  induction k with
  | zero => intro z hz _ hle; show z = m; omega
  | succ k ih =>
    intro z hz h0 hle
    unfold mo114
    rw [day_at hy.1, show z + 1 - 1 = z by omega]
    by_cases hlt : z < m
    · rw [if_pos (by
        have := ms_mono hy z.toNat ((m - 1).toNat - z.toNat)
        rw [show z.toNat + ((m - 1).toNat - z.toNat) = (m - 1).toNat by omega] at this
        omega)]
      exact ih (z + 1) (by omega) (by omega) (by omega)
    · have : z = m := by omega
      subst this
      rw [if_neg (by omega)]

theorem date_back {y m d : Int} (h : Dat y m d) : (0 ≤ g116_0 y m d ∧ g116_0 y m d ≤ 36524) ∧ g114_0 (g116_0 y m d) = y ∧ g114_1 (g116_0 y m d) = m ∧ g114_2 (g116_0 y m d) = d := by
  obtain ⟨h0, h1, h2⟩ := h
  have ed := day_at (m := m) (d := d) h0.1
  have hb := msb116 h0 (m - 1).toNat
  have hms : ms116 y m.toNat = ms116 y (m - 1).toNat + g115_0 y m := by
    obtain ⟨k, hk⟩ : ∃ k : Nat, m = (k : Int) + 1 := ⟨(m - 1).toNat, by omega⟩
    subst hk
    rw [show ((k : Int) + 1).toNat = k + 1 by omega, show ((k : Int) + 1 - 1).toNat = k by omega]
    rfl
  have hy12 := ms_year h0
  have hmono := ms_mono h0 m.toNat (12 - m.toNat)
  rw [show m.toNat + (12 - m.toNat) = 12 by omega] at hmono
  have hbas : 0 ≤ bas y ∧ bas (y + 1) ≤ 36525 := by unfold bas; omega
  have a0 : g114_0 (g116_0 y m d) = y := year_back h0 (by omega) (by omega) 99 2000 (by omega) (by omega) (by omega)
  have a1 : g114_1 (g116_0 y m d) = m := by
    unfold g114_1
    rw [a0]
    exact month_back h0 h1 (by omega) (by omega) 11 1 (by omega) (by omega) (by omega)
  refine ⟨by omega, a0, a1, ?_⟩
  unfold g114_2
  rw [a0, a1, day_at (m := m) (d := 1) h0.1]
  omega

end Go.Proofs.YtakodkjcmacofaaDoor

/- A law that says how functions of the program and of the specification hang together. -/
set_option linter.unusedVariables false
set_option linter.unusedSimpArgs false
set_option maxRecDepth 100000
namespace Go.Proofs.YtakodkjcmacofaaDoor
open Go Go.Am Go.Proofs

/-- The sign of a digit. -/
def D10 (a : Nat) : UInt8 := UInt8.ofNat (48 + a)
theorem D10_nat {a : Nat} (h : a < 10) : (D10 a).toNat = 48 + a := by unfold D10; rw [UInt8.toNat_ofNat']; omega
theorem D10_of {b : UInt8} (h : 48 ≤ b.toNat ∧ b.toNat ≤ 57) : b = D10 (b.toNat - 48) := by
  rw [← UInt8.toNat_inj, D10_nat (by omega)]; omega
theorem D10_inj {a b : Nat} (ha : a < 10) (hb : b < 10) (h : D10 a = D10 b) : a = b := by
  have := congrArg UInt8.toNat h
  rw [D10_nat ha, D10_nat hb] at this
  omega

theorem num_one {n : Nat} (h : n < 10) : numB (n : Int) = ⟨⟨[D10 n]⟩⟩ := by
  unfold numB Lib.itoa
  rw [if_neg (by omega), Int.toNat_natCast, Lib.decDigits_one h]
  rfl
theorem num_two {n : Nat} (h1 : 10 ≤ n) (h : n < 100) : numB (n : Int) = ⟨⟨[D10 (n / 10), D10 (n % 10)]⟩⟩ := by
  unfold numB Lib.itoa
  rw [if_neg (by omega), Int.toNat_natCast, Lib.decDigits_two (by omega) h]
  rfl

theorem pad_two {n : Nat} (h : n < 100) : P103 (n : Int) 2 ∧ g103_0 (n : Int) 2 = ⟨⟨[D10 (n / 10), D10 (n % 10)]⟩⟩ := by
  unfold P103 g103_0
  have e : g94_0 (n : Int) = numB (n : Int) := rfl
  rw [e]
  by_cases h1 : n < 10
  · rw [num_one h1]
    have e0 : n / 10 = 0 := by omega
    have e1 : n % 10 = n := by omega
    rw [e0, e1]
    have e2 : (ByteArray.mk (Array.mk [D10 n])).size = 1 := rfl
    rw [e2]
    exact ⟨⟨⟨rfl, trivial⟩, by rw [i64_iff]; decide, ⟨by decide, by decide⟩, by show 1 + 1 ≤ _; decide, trivial⟩, rfl⟩
  · rw [num_two (by omega) h]
    have e2 : (ByteArray.mk (Array.mk [D10 (n / 10), D10 (n % 10)])).size = 2 := rfl
    rw [e2]
    exact ⟨⟨⟨rfl, trivial⟩, by rw [i64_iff]; decide, ⟨by decide, by decide⟩, by show 0 + 2 ≤ _; decide, trivial⟩, rfl⟩

theorem num_bound : ∀ (l : List UInt8) (m i : Nat), m < 10 ^ i → i + l.length ≤ 12 → -1 ≤ num65 l (m : Int) ∧ num65 l (m : Int) < 1000000000000
  | [], m, i, h, hi => by
    have hp : 10 ^ i ≤ 10 ^ 12 := Nat.pow_le_pow_right (by decide) (by simp at hi; omega)
    have : m < 1000000000000 := Nat.lt_of_lt_of_le h hp
    show -1 ≤ (m : Int) ∧ (m : Int) < 1000000000000
    omega
  | b :: r, m, i, h, hi => by
    unfold num65
    split
    · rename_i hd
      have hd' : 48 ≤ b.toNat ∧ b.toNat ≤ 57 := by simpa using hd
      have e1 : 10 * (m : Int) + ((b.toNat : Int) - 48) = ((10 * m + (b.toNat - 48) : Nat) : Int) := by omega
      rw [e1]
      exact num_bound r _ (i + 1) (by rw [Nat.pow_succ]; omega) (by simp at hi; omega)
    · omega

theorem number_bound (x : ByteArray) : -1 ≤ g65_0 x ∧ g65_0 x < 1000000000000 := by
  unfold g65_0
  split
  · omega
  · rename_i h
    have : x.data.toList.length = x.size := rfl
    exact num_bound x.data.toList 0 0 (by decide) (by omega)

theorem number_two {a b : Nat} (ha : a < 10) (hb : b < 10) : g65_0 ⟨⟨[D10 a, D10 b]⟩⟩ = ((10 * a + b : Nat) : Int) := by
  unfold g65_0
  rw [if_neg (by show ¬ (2 < 1 ∨ 12 < 2); omega)]
  show num65 [D10 a, D10 b] 0 = _
  simp only [num65, D10_nat ha, D10_nat hb, decide_eq_true_eq, Bool.and_eq_true]
  rw [if_pos (by omega), if_pos (by omega)]
  omega


end Go.Proofs.YtakodkjcmacofaaDoor

/- A law that says how functions of the program and of the specification hang together. -/
set_option linter.unusedVariables false
set_option linter.unusedSimpArgs false
set_option maxRecDepth 100000
namespace Go.Proofs.YtakodkjcmacofaaDoor
open Go Go.Am Go.Proofs

/-- A digit. -/
def isD (b : UInt8) : Prop := 48 ≤ b.toNat ∧ b.toNat ≤ 57
/-- The value of digits. -/
def dval : List UInt8 → Nat → Nat
  | [], n => n
  | b :: r, n => dval r (10 * n + (b.toNat - 48))
theorem dval_append : ∀ (l : List UInt8) (b : UInt8) (n : Nat), dval (l ++ [b]) n = 10 * dval l n + (b.toNat - 48)
  | [], _, _ => rfl
  | c :: r, b, n => dval_append r b _
theorem dval_pos : ∀ (l : List UInt8) (n : Nat), 1 ≤ n → 1 ≤ dval l n
  | [], _, h => h
  | b :: r, n, h => dval_pos r _ (by omega)

theorem dsign_nat {a : Nat} (h : a < 10) : (UInt8.ofNat (48 + a)).toNat = 48 + a := by rw [UInt8.toNat_ofNat']; omega

theorem dec_facts (n : Nat) : (∀ b ∈ Lib.decDigits n, isD b) ∧ dval (Lib.decDigits n) 0 = n ∧ 0 < (Lib.decDigits n).length ∧ (1 ≤ n → ((Lib.decDigits n).getD 0 0).toNat ≠ 48) := by
  induction n using Nat.strongRecOn with
  | _ n ih =>
    by_cases h : n < 10
    · rw [Lib.decDigits, dif_pos h]
      have e := dsign_nat h
      refine ⟨fun b hb => ?_, ?_, by simp, fun h1 => ?_⟩
      · rw [List.mem_singleton.1 hb]; unfold isD; omega
      · show 10 * 0 + ((UInt8.ofNat (48 + n)).toNat - 48) = n; omega
      · show (UInt8.ofNat (48 + n)).toNat ≠ 48; omega
    · rw [Lib.decDigits, dif_neg h]
      obtain ⟨i1, i2, i3, i4⟩ := ih (n / 10) (by omega)
      have e := dsign_nat (a := n % 10) (by omega)
      refine ⟨fun b hb => ?_, ?_, by simp, fun h1 => ?_⟩
      · rcases List.mem_append.1 hb with hb | hb
        · exact i1 b hb
        · rw [List.mem_singleton.1 hb]; unfold isD; omega
      · rw [dval_append, i2, e]; omega
      · have i4 := i4 (by omega)
        cases hd : Lib.decDigits (n / 10) with
        | nil => rw [hd] at i3; simp at i3
        | cons c r => rw [hd] at i4; exact i4

theorem dec_canon (n : Nat) : ∀ l : List UInt8, l.length = n → (∀ b ∈ l, isD b) → 0 < l.length → ((l.getD 0 0).toNat ≠ 48 ∨ l.length = 1) → Lib.decDigits (dval l 0) = l := by
  induction n with
  | zero => intro l hl _ h0 _; omega
  | succ n ih =>
    intro l hl hd h0 hc
    rcases List.eq_nil_or_concat l with rfl | ⟨l', b, rfl⟩
    · simp at h0
    · rw [List.concat_eq_append] at *
      have hb : isD b := hd b (by simp)
      unfold isD at hb
      rw [dval_append]
      cases l' with
      | nil =>
        rw [Lib.decDigits, dif_pos (by show 10 * 0 + (b.toNat - 48) < 10; omega)]
        show [UInt8.ofNat (48 + (10 * 0 + (b.toNat - 48)))] = [b]
        congr 1
        rw [← UInt8.toNat_inj, UInt8.toNat_ofNat']; omega
      | cons c r =>
        have hc' : c.toNat ≠ 48 := by
          rcases hc with hc | hc
          · exact hc
          · simp at hc
        have hcd : isD c := hd c (by simp)
        unfold isD at hcd
        have hp : 1 ≤ dval (c :: r) 0 := dval_pos r _ (by omega)
        have hi := ih (c :: r) (by simp at hl ⊢; omega) (fun x hx => hd x (List.mem_append_left _ hx)) (by simp) (.inl hc')
        rw [Lib.decDigits, dif_neg (by omega), show (10 * dval (c :: r) 0 + (b.toNat - 48)) / 10 = dval (c :: r) 0 by omega, hi, show (10 * dval (c :: r) 0 + (b.toNat - 48)) % 10 = b.toNat - 48 by omega]
        congr 2
        rw [← UInt8.toNat_inj, UInt8.toNat_ofNat']; omega

theorem dec_len : ∀ (k n : Nat), n < 10 ^ (k + 1) → (Lib.decDigits n).length ≤ k + 1
  | 0, n, h => by rw [Lib.decDigits, dif_pos (by simpa using h)]; simp
  | k + 1, n, h => by
    rw [Lib.decDigits]
    split
    · simp
    · have := dec_len k (n / 10) (by rw [Nat.pow_succ] at h; omega)
      simp; omega


end Go.Proofs.YtakodkjcmacofaaDoor

/- A law that says how functions of the program and of the specification hang together. -/
set_option linter.unusedVariables false
set_option linter.unusedSimpArgs false
set_option maxRecDepth 100000
namespace Go.Proofs.YtakodkjcmacofaaDoor
open Go Go.Am Go.Proofs

theorem number_dec {n : Nat} (h : n < 1000000000000) : g65_0 ⟨⟨Lib.decDigits n⟩⟩ = (n : Int) := by
  have key : ∀ (l : List UInt8) (m : Nat), (∀ b ∈ l, isD b) → num65 l (m : Int) = (dval l m : Nat) := by
    intro l
    induction l with
    | nil => intro m _; rfl
    | cons b r ih =>
      intro m hd
      have hb : isD b := hd b (List.mem_cons_self ..)
      unfold isD at hb
      unfold num65
      rw [if_pos (by simpa using hb)]
      have e1 : 10 * (m : Int) + ((b.toNat : Int) - 48) = ((10 * m + (b.toNat - 48) : Nat) : Int) := by omega
      rw [e1]
      exact ih _ (fun c hc => hd c (List.mem_cons_of_mem _ hc))
  obtain ⟨d1, d2, d3, _⟩ := dec_facts n
  have hl := dec_len 11 n (by omega)
  have hs : (ByteArray.mk ⟨Lib.decDigits n⟩).size = (Lib.decDigits n).length := rfl
  unfold g65_0
  rw [if_neg (by omega)]
  have := key (Lib.decDigits n) 0 d1
  rw [d2] at this
  exact this

end Go.Proofs.YtakodkjcmacofaaDoor

/- A law that says how functions of the program and of the specification hang together. -/
set_option linter.unusedVariables false
set_option linter.unusedSimpArgs false
set_option maxRecDepth 100000
namespace Go.Proofs.YtakodkjcmacofaaDoor
open Go Go.Am Go.Proofs

/-- The text of a date. -/
def y4 (y : Nat) : List UInt8 := [50, 48, D10 (y % 100 / 10), D10 (y % 10)]
def dT (y m d : Nat) : ByteArray := ⟨⟨y4 y ++ 45 :: ([D10 (m / 10), D10 (m % 10)] ++ 45 :: [D10 (d / 10), D10 (d % 10)])⟩⟩

theorem dec_y4 {y : Nat} (h : 2000 ≤ y ∧ y ≤ 2099) : Lib.decDigits y = y4 y := by
  have e1 : y / 10 / 10 = 20 := by omega
  have e2 : y / 10 % 10 = y % 100 / 10 := by omega
  rw [Lib.decDigits, dif_neg (by omega), Lib.decDigits, dif_neg (by omega), e1, e2, Lib.decDigits, dif_neg (by decide), Lib.decDigits, dif_pos (by decide)]
  rfl

theorem dec_big {y : Nat} (h : 2000 ≤ y ∧ y ≤ 2099) : g94_0 (y : Int) = ⟨⟨y4 y⟩⟩ := by
  rw [← dec_y4 h]
  show numB _ = _
  unfold numB Lib.itoa
  rw [if_neg (by omega), Int.toNat_natCast]

theorem D10_ne {a : Nat} (h : a < 10) : D10 a ≠ 45 := fun e => by
  have := congrArg UInt8.toNat e
  have e45 : (45 : UInt8).toNat = 45 := rfl
  rw [D10_nat h] at this
  omega

theorem two_free {a b : Nat} (ha : a < 10) (hb : b < 10) : (45 : UInt8) ∉ [D10 a, D10 b] := fun hm => by
  simp only [List.mem_cons, List.mem_nil_iff, or_false] at hm
  rcases hm with e | e
  · exact D10_ne ha e.symm
  · exact D10_ne hb e.symm

theorem y4_free (y : Nat) : (45 : UInt8) ∉ y4 y := fun hm => by
  unfold y4 at hm
  simp only [List.mem_cons, List.mem_nil_iff, or_false] at hm
  rcases hm with e | e | e | e
  · cases e
  · cases e
  · exact D10_ne (by omega) e.symm
  · exact D10_ne (by omega) e.symm

theorem dt_split {y m d : Nat} (hm : m < 100) (hd : d < 100) : g87_0 (dT y m d) (ByteArray.mk #[45]) = [⟨⟨y4 y⟩⟩, ⟨⟨[D10 (m / 10), D10 (m % 10)]⟩⟩, ⟨⟨[D10 (d / 10), D10 (d % 10)]⟩⟩] := by
  have e : g87_0 (dT y m d) (ByteArray.mk #[45]) = bss (splitC 45 (dT y m d).data.toList) := splitB_one 45 (dT y m d)
  rw [e]
  show bss (splitC 45 (y4 y ++ 45 :: ([D10 (m / 10), D10 (m % 10)] ++ 45 :: [D10 (d / 10), D10 (d % 10)]))) = _
  rw [splitC_hit 45 _ (y4_free y), splitC_hit 45 _ (two_free (by omega) (by omega)), splitC_free 45 (two_free (by omega) (by omega))]
  rfl

theorem date_nat {y m d : Int} (h : Dat y m d) : ∃ a b c : Nat, y = (a : Int) ∧ m = (b : Int) ∧ d = (c : Int) ∧ (2000 ≤ a ∧ a ≤ 2099) ∧ (1 ≤ b ∧ b ≤ 12) ∧ (1 ≤ c ∧ c ≤ 31) := by
  obtain ⟨h0, h1, h2⟩ := h
  have := (len116 h0 (m := m)).2.2
  exact ⟨y.toNat, m.toNat, d.toNat, by omega, by omega, by omega, by omega, by omega, by omega⟩

theorem date_text {a b c : Nat} (h : Dat (a : Int) (b : Int) (c : Int)) (ha : 2000 ≤ a ∧ a ≤ 2099) (hb : b ≤ 12) (hc : c ≤ 31) : g53_0 (g116_0 (a : Int) (b : Int) (c : Int)) = dT a b c := by
  obtain ⟨hd, e0, e1, e2⟩ := date_back h
  have hi : g113_0 (g116_0 (a : Int) (b : Int) (c : Int)) = true := win.2 hd
  unfold g53_0
  rw [hi, e0, e1, e2, dec_big ha, (pad_two (n := b) (by omega)).2, (pad_two (n := c) (by omega)).2]
  apply ByteArray.ext
  apply Array.ext'
  simp [ByteArray.data_append, dT]

theorem date_pre (n : Int) : P53 n → True := fun _ => trivial

theorem text_pre {y m d : Int} (h : Dat y m d) : P53 (g116_0 y m d) := by
  obtain ⟨a, b, c, rfl, rfl, rfl, ha, hb, hc⟩ := date_nat h
  obtain ⟨hd, e0, e1, e2⟩ := date_back h
  unfold P53
  rw [e0, e1, e2, dec_big ha]
  obtain ⟨p1, q1⟩ := pad_two (n := b) (by omega)
  obtain ⟨p2, q2⟩ := pad_two (n := c) (by omega)
  rw [q1, q2]
  have s4 : (ByteArray.mk ⟨y4 a⟩).size = 4 := rfl
  have s1 : (ByteArray.mk #[45]).size = 1 := rfl
  have s2 : ∀ u v : UInt8, (ByteArray.mk ⟨[u, v]⟩).size = 2 := fun _ _ => rfl
  by_cases hc : (!g113_0 (g116_0 (a : Int) (b : Int) (c : Int))) = true
  · rw [if_pos hc]; trivial
  · rw [if_neg hc]
    simp only [ByteArray.size_append, s4, s1, s2]
    exact ⟨⟨by omega, by omega⟩, ⟨rfl, trivial⟩, by omega, p1, by omega, by omega, p2, by omega, trivial⟩

theorem number_y4 {y : Nat} (h : 2000 ≤ y ∧ y ≤ 2099) : g65_0 ⟨⟨y4 y⟩⟩ = (y : Int) := by
  rw [← dec_y4 h]
  exact number_dec (by omega)

theorem date_i1 {a b c : Nat} (h : Dat (a : Int) (b : Int) (c : Int)) (ha : 2000 ≤ a ∧ a ≤ 2099) (hb : b ≤ 12) (hc : c ≤ 31) : g31_0 (dT a b c) = g116_0 (a : Int) (b : Int) (c : Int) ∧ g31_1 (dT a b c) = true := by
  have n1 := number_y4 ha
  have n2 : g65_0 ⟨⟨[D10 (b / 10), D10 (b % 10)]⟩⟩ = (b : Int) := by rw [number_two (by omega) (by omega)]; omega
  have n3 : g65_0 ⟨⟨[D10 (c / 10), D10 (c % 10)]⟩⟩ = (c : Int) := by rw [number_two (by omega) (by omega)]; omega
  obtain ⟨i0, i1⟩ := inum h
  unfold g31_0 g31_1
  rw [dt_split (by omega) (by omega)]
  have g0 : List.getD [(⟨⟨y4 a⟩⟩ : ByteArray), ⟨⟨[D10 (b / 10), D10 (b % 10)]⟩⟩, ⟨⟨[D10 (c / 10), D10 (c % 10)]⟩⟩] 0 ByteArray.empty = ⟨⟨y4 a⟩⟩ := rfl
  have g1 : List.getD [(⟨⟨y4 a⟩⟩ : ByteArray), ⟨⟨[D10 (b / 10), D10 (b % 10)]⟩⟩, ⟨⟨[D10 (c / 10), D10 (c % 10)]⟩⟩] 1 ByteArray.empty = ⟨⟨[D10 (b / 10), D10 (b % 10)]⟩⟩ := rfl
  have g2 : List.getD [(⟨⟨y4 a⟩⟩ : ByteArray), ⟨⟨[D10 (b / 10), D10 (b % 10)]⟩⟩, ⟨⟨[D10 (c / 10), D10 (c % 10)]⟩⟩] 2 ByteArray.empty = ⟨⟨[D10 (c / 10), D10 (c % 10)]⟩⟩ := rfl
  have gl : (([(⟨⟨y4 a⟩⟩ : ByteArray), ⟨⟨[D10 (b / 10), D10 (b % 10)]⟩⟩, ⟨⟨[D10 (c / 10), D10 (c % 10)]⟩⟩].length : Nat) : Int) = 3 := rfl
  simp only [g0, g1, g2, gl, n1, n2, n3, i0, i1, date_text h ha hb hc, bne_self_eq_false, beq_self_eq_true, Bool.not_true, Bool.false_eq_true, if_false, and_self]

theorem date_i2 {x : ByteArray} (hx : g31_1 x = true) : ∃ a b c : Nat, Dat (a : Int) (b : Int) (c : Int) ∧ (2000 ≤ a ∧ a ≤ 2099) ∧ (1 ≤ b ∧ b ≤ 12) ∧ (1 ≤ c ∧ c ≤ 31) ∧ x = dT a b c := by
  unfold g31_1 at hx
  generalize g65_0 (List.getD (g87_0 x (ByteArray.mk #[45])) 0 ByteArray.empty) = y at hx
  generalize g65_0 (List.getD (g87_0 x (ByteArray.mk #[45])) 1 ByteArray.empty) = m at hx
  generalize g65_0 (List.getD (g87_0 x (ByteArray.mk #[45])) 2 ByteArray.empty) = d at hx
  split at hx
  · cases hx
  · split at hx
    · cases hx
    · rename_i h1
      split at hx
      · cases hx
      · rename_i h2
        have h : Dat y m d := idat (by simpa using h1)
        obtain ⟨a, b, c, rfl, rfl, rfl, ha, hb, hc⟩ := date_nat h
        have h2' : g53_0 (g52_0 (a : Int) (b : Int) (c : Int)) = x := (bytes_eq _ _).1 (by simpa using h2)
        rw [(inum h).1, date_text h ha (by omega) (by omega)] at h2'
        exact ⟨a, b, c, h, ha, hb, hc, h2'.symm⟩

theorem chI {c : Prop} [Decidable c] {B : Bool} {A : Int} (h : B = false → A = 0) (hx : (if c then false else B) = false) : (if c then 0 else A) = 0 := by
  split at hx
  · rename_i hc; rw [if_pos hc]
  · rename_i hc; rw [if_neg hc]; exact h hx

theorem date_i3 {x : ByteArray} (hx : g31_1 x = false) : g31_0 x = 0 :=
  (chI (chI (chI (fun h => by cases h)))) hx

theorem date_s3 {x : ByteArray} (hx : g30_1 x = false) : g30_0 x = 0 :=
  (chI (chI (chI (chI (chI (chI (fun h => by
    unfold g133_0
    unfold g133_1 at h
    rw [h]; rfl))))))) hx

theorem digs_v : ∀ (l : List UInt8) (m : Nat), (∀ b ∈ l, isD b) → dig63 l (m : Int) = (((dval l m : Nat) : Int), true)
  | [], _, _ => rfl
  | b :: r, m, hd => by
    have hb : isD b := hd b (List.mem_cons_self ..)
    unfold isD at hb
    unfold dig63 d63
    rw [if_pos (by simpa using hb)]
    have e1 : 10 * (m : Int) + ((b.toNat : Int) - 48) = ((10 * m + (b.toNat - 48) : Nat) : Int) := by omega
    rw [e1]
    exact digs_v r _ (fun c hc => hd c (List.mem_cons_of_mem _ hc))

theorem digs_all : ∀ (l : List UInt8) (n : Int), (dig63 l n).2 = true → ∀ b ∈ l, isD b
  | [], n, h, b, hb => by cases hb
  | c :: r, n, h, b, hb => by
    unfold dig63 at h
    split at h
    · rename_i hd
      rcases List.mem_cons.1 hb with rfl | hb
      · unfold d63 at hd; unfold isD; simpa using hd
      · exact digs_all r _ h b hb
    · cases h

theorem dig_two {a b : UInt8} (h : g63_1 ⟨⟨[a, b]⟩⟩ = true) : ∃ n : Nat, n < 100 ∧ g63_0 ⟨⟨[a, b]⟩⟩ = (n : Int) ∧ [a, b] = [D10 (n / 10), D10 (n % 10)] := by
  have hall := digs_all [a, b] 0 h
  have ha : isD a := hall a (by simp)
  have hb : isD b := hall b (by simp)
  have hv := digs_v [a, b] 0 hall
  unfold isD at ha hb
  refine ⟨10 * (a.toNat - 48) + (b.toNat - 48), by omega, ?_, ?_⟩
  · have := congrArg Prod.fst hv
    show (dig63 [a, b] 0).1 = _
    refine Eq.trans this ?_
    show ((dval [a, b] 0 : Nat) : Int) = _
    simp [dval]
  · rw [show (10 * (a.toNat - 48) + (b.toNat - 48)) / 10 = a.toNat - 48 by omega, show (10 * (a.toNat - 48) + (b.toNat - 48)) % 10 = b.toNat - 48 by omega, ← D10_of ha, ← D10_of hb]

theorem two_dig {n : Nat} (h : n < 100) : g63_0 ⟨⟨[D10 (n / 10), D10 (n % 10)]⟩⟩ = (n : Int) ∧ g63_1 ⟨⟨[D10 (n / 10), D10 (n % 10)]⟩⟩ = true := by
  have x1 := D10_nat (a := n / 10) (by omega)
  have x2 := D10_nat (a := n % 10) (by omega)
  have hall : ∀ b ∈ [D10 (n / 10), D10 (n % 10)], isD b := fun b hb => by
    simp only [List.mem_cons, List.mem_nil_iff, or_false] at hb
    unfold isD
    rcases hb with rfl | rfl <;> omega
  have hv := digs_v _ 0 hall
  refine ⟨?_, congrArg Prod.snd hv⟩
  have := congrArg Prod.fst hv
  refine Eq.trans this ?_
  simp only [dval, x1, x2]
  omega

theorem y4_dig {y : Nat} (h : 2000 ≤ y ∧ y ≤ 2099) : g63_0 ⟨⟨y4 y⟩⟩ = (y : Int) ∧ g63_1 ⟨⟨y4 y⟩⟩ = true := by
  obtain ⟨d1, d2, _, _⟩ := dec_facts y
  rw [dec_y4 h] at d1 d2
  have hv := digs_v (y4 y) 0 d1
  rw [d2] at hv
  exact ⟨congrArg Prod.fst hv, congrArg Prod.snd hv⟩

theorem dig_four {l : List UInt8} (hl : l.length = 4) (h : g63_1 ⟨⟨l⟩⟩ = true) (hy : 2000 ≤ g63_0 ⟨⟨l⟩⟩ ∧ g63_0 ⟨⟨l⟩⟩ ≤ 2099) : ∃ n : Nat, (2000 ≤ n ∧ n ≤ 2099) ∧ g63_0 ⟨⟨l⟩⟩ = (n : Int) ∧ l = y4 n := by
  have hall := digs_all l 0 h
  have hv := digs_v l 0 hall
  have e : g63_0 ⟨⟨l⟩⟩ = ((dval l 0 : Nat) : Int) := congrArg Prod.fst hv
  rw [e] at hy
  refine ⟨dval l 0, by omega, e, ?_⟩
  rw [← dec_y4 (by omega)]
  refine (dec_canon l.length l rfl hall (by omega) (.inl ?_)).symm
  match l, hl with
  | [a, b, c, f], _ =>
    intro h0
    have ha := hall a (by simp)
    have hb := hall b (by simp)
    have hc := hall c (by simp)
    have hf := hall f (by simp)
    unfold isD at ha hb hc hf
    have h0' : a.toNat = 48 := h0
    simp only [dval] at hy
    omega

theorem ext_of2 (l : List UInt8) (a b : Nat) : ByteArray.extract ⟨⟨l⟩⟩ a b = ⟨⟨(l.drop a).take (b - a)⟩⟩ := Lib.extract_mk l a b

theorem b45 {b : UInt8} : (((b.toNat : Nat) : Int) != 45) = true ↔ b ≠ 45 := by
  rw [bne_iff_ne]
  constructor
  · intro h e; apply h; rw [e]; rfl
  · intro h e; apply h
    apply UInt8.toNat_inj.1
    show b.toNat = 45
    omega

theorem date_s1 {a b c : Nat} (h : Dat (a : Int) (b : Int) (c : Int)) (ha : 2000 ≤ a ∧ a ≤ 2099) (hb : b ≤ 12) (hc : c ≤ 31) : g30_0 (dT a b c) = g116_0 (a : Int) (b : Int) (c : Int) ∧ g30_1 (dT a b c) = true := by
  obtain ⟨y1, y2⟩ := y4_dig ha
  obtain ⟨m1, m2⟩ := two_dig (n := b) (by omega)
  obtain ⟨d1, d2⟩ := two_dig (n := c) (by omega)
  obtain ⟨n1, n2⟩ := num_eq h
  have es : (((dT a b c).size : Nat) : Int) = 10 := rfl
  have g4 : (((((dT a b c).data.toList).getD 4 0).toNat : Nat) : Int) = 45 := rfl
  have g7 : (((((dT a b c).data.toList).getD 7 0).toNat : Nat) : Int) = 45 := rfl
  have x1 : ByteArray.extract (dT a b c) 0 4 = ⟨⟨y4 a⟩⟩ := ext_of2 _ 0 4
  have x2 : ByteArray.extract (dT a b c) 5 7 = ⟨⟨[D10 (b / 10), D10 (b % 10)]⟩⟩ := ext_of2 _ 5 7
  have x3 : ByteArray.extract (dT a b c) 8 (Int.toNat 10) = ⟨⟨[D10 (c / 10), D10 (c % 10)]⟩⟩ := ext_of2 _ 8 10
  unfold g30_0 g30_1 g86_0 g86_1
  simp only [es, g4, g7, x1, x2, x3, y1, y2, m1, m2, d1, d2, n1, n2, bne_self_eq_false, Bool.not_true, Bool.false_eq_true, if_false, and_self]

theorem date_s2 {x : ByteArray} (hx : g30_1 x = true) : ∃ a b c : Nat, Dat (a : Int) (b : Int) (c : Int) ∧ (2000 ≤ a ∧ a ≤ 2099) ∧ (1 ≤ b ∧ b ≤ 12) ∧ (1 ≤ c ∧ c ≤ 31) ∧ x = dT a b c := by
  unfold g30_1 g86_1 at hx
  split at hx
  · cases hx
  rename_i h0
  have hs : x.size = 10 := by
    have : ((x.size : Nat) : Int) = 10 := by simpa using h0
    omega
  obtain ⟨⟨l⟩⟩ := x
  have hl : l.length = 10 := hs
  match l, hl with
  | [p, q, r, s, t, u, v, w, z, o], _ =>
    have es : (((ByteArray.mk ⟨[p, q, r, s, t, u, v, w, z, o]⟩).size : Nat) : Int) = 10 := rfl
    have x1 : ByteArray.extract ⟨⟨[p, q, r, s, t, u, v, w, z, o]⟩⟩ 0 4 = ⟨⟨[p, q, r, s]⟩⟩ := ext_of2 _ 0 4
    have x2 : ByteArray.extract ⟨⟨[p, q, r, s, t, u, v, w, z, o]⟩⟩ 5 7 = ⟨⟨[u, v]⟩⟩ := ext_of2 _ 5 7
    have x3 : ByteArray.extract ⟨⟨[p, q, r, s, t, u, v, w, z, o]⟩⟩ 8 (Int.toNat 10) = ⟨⟨[z, o]⟩⟩ := ext_of2 _ 8 10
    have g4 : List.getD (Array.toList (ByteArray.data ⟨⟨[p, q, r, s, t, u, v, w, z, o]⟩⟩)) 4 0 = t := rfl
    have g7 : List.getD (Array.toList (ByteArray.data ⟨⟨[p, q, r, s, t, u, v, w, z, o]⟩⟩)) 7 0 = w := rfl
    rw [es, x1, x2, x3, g4, g7] at hx
    split at hx
    · cases hx
    rename_i h1
    split at hx
    · cases hx
    rename_i h2
    split at hx
    · cases hx
    rename_i h3
    split at hx
    · cases hx
    rename_i h4
    split at hx
    · cases hx
    rename_i h5
    have h1' : t = 45 := Classical.byContradiction fun e => h1 (b45.2 e)
    have h2' : w = 45 := Classical.byContradiction fun e => h2 (b45.2 e)
    have hD := dat_of hx
    obtain ⟨a, ha, ea, la⟩ := dig_four (l := [p, q, r, s]) rfl (by simpa using h3) hD.1
    obtain ⟨b, hb, eb, lb⟩ := dig_two (a := u) (b := v) (by simpa using h4)
    obtain ⟨c, hc, ec, lc⟩ := dig_two (a := z) (b := o) (by simpa using h5)
    rw [ea, eb, ec] at hD
    obtain ⟨a', b', c', e1, e2, e3, r1, r2, r3⟩ := date_nat hD
    refine ⟨a, b, c, hD, by omega, by omega, by omega, ?_⟩
    unfold dT
    rw [← la, ← lb, ← lc, h1', h2']
    rfl

theorem read_date (x : ByteArray) (h : x.size ≤ 1048576) : P30 x ∧ P31 x ∧ g31_0 x = g30_0 x ∧ g31_1 x = g30_1 x := by
  have ifT3 : ∀ {c : Prop} [Decidable c] {Q : Prop}, (¬ c → Q) → if c then True else Q := by
    intro c _ Q h
    by_cases hc : c
    · rw [if_pos hc]; trivial
    · rw [if_neg hc]; exact h hc
  refine ⟨?_, ?_, ?_⟩
  · unfold P30 P86
    refine ⟨ifT3 fun h0 => ?_, trivial⟩
    have hs : ((x.size : Nat) : Int) = 10 := by simpa using h0
    have k : ∀ a b : Nat, a ≤ b → b ≤ 10 → P63 (ByteArray.extract x a b) := fun a b _ hb => by
      show (ByteArray.extract x a b).size ≤ 18
      rw [ByteArray.size_extract]; omega
    refine ⟨by omega, ifT3 fun _ => ⟨by omega, ifT3 fun _ => ⟨by omega, k 0 4 (by omega) (by omega), by omega, k 5 7 (by omega) (by omega), by omega, k 8 _ (by omega) (by omega), trivial⟩⟩⟩
  · unfold P31
    refine ⟨⟨by omega, Nat.le_refl 1⟩, ifT3 fun h0 => ?_⟩
    have hl : (((g87_0 x (ByteArray.mk #[45])).length : Nat) : Int) = 3 := by simpa using h0
    generalize g65_0 (List.getD (g87_0 x (ByteArray.mk #[45])) 0 ByteArray.empty) = y
    generalize g65_0 (List.getD (g87_0 x (ByteArray.mk #[45])) 1 ByteArray.empty) = m
    generalize g65_0 (List.getD (g87_0 x (ByteArray.mk #[45])) 2 ByteArray.empty) = d
    refine ⟨by omega, by omega, by omega, ?_, ifT3 fun h1 => ?_⟩
    · unfold P52
      refine ifT3 fun a1 => ifT3 fun a2 => ?_
      have a1' := win.1 (show g102_0 y 2000 2099 = true by simpa using a1)
      have a2' := win.1 (show g102_0 m 1 12 = true by simpa using a2)
      obtain ⟨l0, l1, l2⟩ := len116 a1' (m := m)
      refine ⟨l0, ifT3 fun a3 => ?_⟩
      have a3' := win.1 (show g102_0 d 1 (g115_0 y m) = true by simpa using a3)
      exact ⟨⟨a1', a2', by omega⟩, trivial⟩
    · have hD : Dat y m d := idat (by simpa using h1)
      rw [(inum hD).1]
      exact ⟨text_pre hD, trivial⟩
  · cases hs : g30_1 x with
    | true =>
      obtain ⟨a, b, c, hD, ha, hb, hc, rfl⟩ := date_s2 hs
      obtain ⟨i0, i1⟩ := date_i1 hD ha (by omega) (by omega)
      obtain ⟨s0, s1⟩ := date_s1 hD ha (by omega) (by omega)
      rw [i0, s0]
      exact ⟨rfl, i1⟩
    | false =>
      cases hi : g31_1 x with
      | true =>
        obtain ⟨a, b, c, hD, ha, hb, hc, rfl⟩ := date_i2 hi
        rw [(date_s1 hD ha (by omega) (by omega)).2] at hs
        cases hs
      | false => exact ⟨(date_i3 hi).trans (date_s3 hs).symm, rfl⟩

end Go.Proofs.YtakodkjcmacofaaDoor

/- The plain law of FnExactReadDate. -/
set_option linter.unusedVariables false
set_option linter.unusedSimpArgs false
set_option maxRecDepth 100000
namespace Go.Proofs.YtakodkjcmacofaaDoor
open Go Go.Am Go.Proofs

theorem law8 (x : ByteArray) (hw : Wf .str x) : P8 x ∧ g8_0 x = true := by
  unfold P8 g8_0
  by_cases h : (x.size : Int) > 1048576
  · simp only [h, decide_true, if_true, and_self]
  · obtain ⟨p1, p2, e0, e1⟩ := read_date x (by omega)
    simp only [h, decide_false, Bool.false_eq_true, if_false, e0, e1, p1, p2, bne_self_eq_false, beq_self_eq_true, Bool.not_true, true_and, and_self]

end Go.Proofs.YtakodkjcmacofaaDoor
