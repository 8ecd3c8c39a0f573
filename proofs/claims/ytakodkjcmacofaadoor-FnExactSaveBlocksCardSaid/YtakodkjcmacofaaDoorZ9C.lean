/- Several texts in one: the functions that this law reaches, and their laws. -/
import Derived.Test.YtakodkjcmacofaaDoorZ9A
import Derived.Test.YtakodkjcmacofaaDoorZ9B
import Derived.Test.YtakodkjcmacofaaDoorRows
import Derived.KernelRfl
import Derived.Shelf.Vars
import Derived.Lib.ItoaNum
import Derived.Shelf.Strings.Builder1
import Derived.Shelf.Strings.Builder2
import Derived.Shelf.Strings.OnBuilder
import Derived.Shelf.Strings.BuilderF
import Derived.Shelf.Strings.BuilderK
import Derived.Shelf.Utf8.RuneCount
import Derived.Shelf.Strconv.Itoa0
import Derived.Shelf.Strconv.Itoa1
import Derived.Shelf.LaysM
import Derived.Shelf.Strconv.Itoa2
import Derived.Shelf.Strconv.Itoa3
import Derived.Shelf.Strconv.Itoa4
import Derived.Shelf.Strings.Search1
import Derived.Shelf.Strings.Search2
import Derived.Shelf.Strings.Search3
import Derived.Shelf.Strings.Cut
import Derived.Shelf.Strings.Count
import Derived.Shelf.Strings.Shaped
import Derived.Shelf.Strings.Prefix
import Derived.Shelf.Strings.Split
import Derived.Shelf.Strings.SplitShaped
import Derived.Shelf.Unicode.Decode
import Derived.Shelf.Strings.RuneCount
import Derived.Shelf.Strings.Explode
import Derived.Shelf.Bits.Mul64
import Derived.Shelf.Strings.Repeat
import Derived.Shelf.Unicode.DecodeSlow
import Derived.Shelf.Unicode.DecodeAny
import Derived.Lib.SliceRun
import Derived.Laws.AppendOwn
import Derived.WalkKit
import Derived.Deep.LoopGhost
import Derived.Lib.Walk
import Derived.Shelf.RegionOpenPlain

/- The types of this program, as the abstract machine reads them. -/
set_option linter.unusedVariables false
set_option linter.unusedSimpArgs false
set_option maxRecDepth 100000
namespace Go.Proofs.YtakodkjcmacofaaDoor
open Go Go.Am Go.Proofs
def tab : List TI := [TI.other,
  TI.other,
  TI.scal (Ty.int IntKind.i64),
  TI.scal (Ty.int IntKind.i64),
  TI.scal (Ty.bool),
  TI.scal (Ty.int IntKind.u8),
  TI.scal (Ty.int IntKind.u8),
  TI.struct (Ty.cons (Ty.int IntKind.i64) (Ty.cons (Ty.int IntKind.i64) (Ty.cons Ty.bool (Ty.cons (Ty.int IntKind.u8) Ty.unit)))),
  TI.struct (Ty.cons (Ty.int IntKind.i64) (Ty.cons (Ty.int IntKind.i64) (Ty.cons Ty.bool (Ty.cons (Ty.int IntKind.u8) Ty.unit)))),
  TI.scal (Ty.str),
  TI.scal (Ty.str),
  TI.scal (Ty.str),
  TI.scal (Ty.int IntKind.u64),
  TI.other,
  TI.other,
  TI.other,
  TI.other,
  TI.other,
  TI.other,
  TI.other,
  TI.other,
  TI.scal (Ty.int IntKind.i32),
  TI.other,
  TI.other,
  TI.other,
  TI.slice 73 (Ty.cons Ty.str (Ty.cons (Ty.int IntKind.i64) (Ty.cons (Ty.int IntKind.i64) (Ty.cons (Ty.int IntKind.i64) (Ty.cons (Ty.int IntKind.i64) Ty.unit))))) 48,
  TI.other,
  TI.slice 79 (Ty.cons Ty.str (Ty.cons Ty.str (Ty.cons Ty.str Ty.unit))) 48,
  TI.other,
  TI.other,
  TI.slice 75 (Ty.cons Ty.str (Ty.cons (Ty.int IntKind.i64) (Ty.cons (Ty.int IntKind.i64) (Ty.cons (Ty.int IntKind.i64) (Ty.cons (Ty.int IntKind.i64) Ty.unit))))) 48,
  TI.other,
  TI.other,
  TI.other,
  TI.other,
  TI.other,
  TI.other,
  TI.other,
  TI.other,
  TI.slice 89 (Ty.cons Ty.str (Ty.cons Ty.str (Ty.cons Ty.str Ty.unit))) 48,
  TI.other,
  TI.other,
  TI.other,
  TI.other,
  TI.other,
  TI.slice 5 (Ty.int IntKind.u8) 1,
  TI.other,
  TI.other,
  TI.other,
  TI.other,
  TI.other,
  TI.other,
  TI.other,
  TI.other,
  TI.other,
  TI.other,
  TI.other,
  TI.other,
  TI.other,
  TI.other,
  TI.slice 2 (Ty.int IntKind.i64) 8,
  TI.other,
  TI.other,
  TI.other,
  TI.other,
  TI.other,
  TI.other,
  TI.slice 9 (Ty.str) 16,
  TI.other,
  TI.other,
  TI.other,
  TI.other,
  TI.struct (Ty.cons Ty.str (Ty.cons (Ty.int IntKind.i64) (Ty.cons (Ty.int IntKind.i64) (Ty.cons (Ty.int IntKind.i64) (Ty.cons (Ty.int IntKind.i64) Ty.unit))))),
  TI.struct (Ty.cons Ty.str (Ty.cons (Ty.int IntKind.i64) (Ty.cons (Ty.int IntKind.i64) (Ty.cons (Ty.int IntKind.i64) (Ty.cons (Ty.int IntKind.i64) Ty.unit))))),
  TI.other,
  TI.struct (Ty.cons Ty.str (Ty.cons (Ty.int IntKind.i64) (Ty.cons (Ty.int IntKind.i64) (Ty.cons (Ty.int IntKind.i64) (Ty.cons (Ty.int IntKind.i64) Ty.unit))))),
  TI.other,
  TI.other,
  TI.struct (Ty.cons Ty.str (Ty.cons Ty.str (Ty.cons Ty.str Ty.unit))),
  TI.struct (Ty.cons Ty.str (Ty.cons Ty.str (Ty.cons Ty.str Ty.unit))),
  TI.other,
  TI.other,
  TI.other,
  TI.other,
  TI.other,
  TI.other,
  TI.other,
  TI.other,
  TI.other,
  TI.struct (Ty.cons Ty.str (Ty.cons Ty.str (Ty.cons Ty.str Ty.unit))),
  TI.other,
  TI.other,
  TI.other,
  TI.other,
  TI.other,
  TI.other,
  TI.other,
  TI.other,
  TI.other,
  TI.other,
  TI.other,
  TI.other,
  TI.other,
  TI.other,
  TI.other,
  TI.other,
  TI.other,
  TI.other,
  TI.other,
  TI.other,
  TI.other,
  TI.other,
  TI.other,
  TI.other,
  TI.other,
  TI.other,
  TI.other,
  TI.other,
  TI.other,
  TI.other,
  TI.other,
  TI.other,
  TI.other,
  TI.other,
  TI.other,
  TI.other,
  TI.other,
  TI.other,
  TI.other,
  TI.other,
  TI.other,
  TI.other,
  TI.other,
  TI.other,
  TI.scal (Ty.int IntKind.u64),
  TI.struct (Ty.cons (Ty.sl (Ty.int IntKind.u8)) (Ty.cons (Ty.int IntKind.i64) (Ty.cons (Ty.int IntKind.u64) Ty.unit))),
  TI.struct (Ty.cons (Ty.sl (Ty.int IntKind.u8)) (Ty.cons (Ty.int IntKind.i64) (Ty.cons (Ty.int IntKind.u64) Ty.unit))),
  TI.other,
  TI.other,
  TI.other,
  TI.other,
  TI.other,
  TI.other,
  TI.other,
  TI.other,
  TI.scal (Ty.int IntKind.u64),
  TI.other,
  TI.other,
  TI.other,
  TI.other,
  TI.other,
  TI.other,
  TI.other,
  TI.other,
  TI.other,
  TI.other,
  TI.slice 3 (Ty.int IntKind.i64) 8,
  TI.other,
  TI.other,
  TI.other,
  TI.other,
  TI.other,
  TI.scal (Ty.int IntKind.u32),
  TI.other,
  TI.other,
  TI.other,
  TI.other,
  TI.other,
  TI.other,
  TI.other,
  TI.other,
  TI.other,
  TI.other,
  TI.other,
  TI.other,
  TI.struct (Ty.cons (Ty.int IntKind.u8) (Ty.cons (Ty.int IntKind.u8) Ty.unit)),
  TI.struct (Ty.cons (Ty.int IntKind.u8) (Ty.cons (Ty.int IntKind.u8) Ty.unit)),
  TI.other,
  TI.other,
  TI.other,
  TI.other,
  TI.other,
  TI.other,
  TI.other,
  TI.other,
  TI.other,
  TI.scal (Ty.int IntKind.u8),
  TI.scal (Ty.int IntKind.u8),
  TI.other,
  TI.scal (Ty.int IntKind.i32),
  TI.scal (Ty.int IntKind.i32)]

theorem tabOk : TabOk Tryd.prog tab := tabOk_of_check (by kernel_rfl)
theorem mixed : Tryd.prog.follows .mixedOrders = true := by kernel_rfl
theorem gv0 {W : World} (h : GInv W) : GHas W 0 (.int .i64) := h.1
theorem gcell0 (W : World) (h : W.ShapedOpen Tryd.prog) : ∃ m, W.cell? ⟨0, 0, none⟩ = some (.int .i64 m) :=
  Go.Proofs.cell_of_shapedOpen_int (zero := #[.int .i64 0]) (t := 3) h (of_decide_eq_true (by kernel_rfl)) (by kernel_rfl) rfl (by kernel_rfl) (by kernel_rfl) Tryd.underlying3
theorem gv1 {W : World} (h : GInv W) : GHas W 1 (.tab .u64 Lib.pow10Tab) := h.2.1
theorem maxLenG {W : World} (h : GInv W) : ∃ m, W.cell? ⟨0, 0, none⟩ = some (.int .i64 m) := gv0 h
theorem pow10G {W : World} (h : GInv W) : Lib.TabIs Tryd.prog W "internal/strconv.uint64pow10" .u64 Lib.pow10Tab := GHas.tab (by kernel_rfl) (gv1 h)
theorem ginv (W : World) (h : W.ShapedOpen Tryd.prog) (h1 : GHas W 1 (.tab .u64 Lib.pow10Tab)) : GInv W := ⟨gcell0 W h, h1, trivial⟩
end Go.Proofs.YtakodkjcmacofaaDoor

/- Function 88 (laws.szBlock): its runs between cut points. Written by a program of this repo (gen). -/
set_option linter.unusedVariables false
set_option linter.unusedSimpArgs false
set_option maxRecDepth 100000
namespace Go.Proofs.YtakodkjcmacofaaDoor
open Go Go.Am Go.Proofs
def ext88 : Ext := []
theorem ext88Ok : ExtOk Tryd.prog ext88 := trivial
/-! Function 88. -/
noncomputable def b88 : Code := bodyOf Tryd.f88
theorem hb88 : Tryd.f88.body = some b88 := by kernel_rfl
def sig88 : List AT := [AT.v (Ty.cons Ty.str (Ty.cons Ty.str (Ty.cons Ty.str Ty.unit))), AT.v (Ty.int IntKind.i64)]
def tys88 : List Ty := [Ty.int IntKind.i64]
def P88 (x0 : ByteArray × ByteArray × ByteArray × Unit) (x1 : Int) : Prop := ((InR IntKind.i64 (x1 - (↑(ByteArray.size (Prod.fst x0)) : Int))) ∧ (if (Decidable.decide (x1 - (↑(ByteArray.size (Prod.fst x0)) : Int) < 0)) = true then True else ((InR IntKind.i64 (x1 - (↑(ByteArray.size (Prod.fst x0)) : Int) - (↑(ByteArray.size (Prod.fst (Prod.snd x0))) : Int))) ∧ (if (Decidable.decide (x1 - (↑(ByteArray.size (Prod.fst x0)) : Int) - (↑(ByteArray.size (Prod.fst (Prod.snd x0))) : Int) < 0)) = true then True else ((InR IntKind.i64 (x1 - (↑(ByteArray.size (Prod.fst x0)) : Int) - (↑(ByteArray.size (Prod.fst (Prod.snd x0))) : Int) - (↑(ByteArray.size (Prod.fst (Prod.snd (Prod.snd x0)))) : Int))) ∧ True)))))
def g88_0 (x0 : ByteArray × ByteArray × ByteArray × Unit) (x1 : Int) : Int := (if (Decidable.decide (x1 - (↑(ByteArray.size (Prod.fst x0)) : Int) < 0)) = true then -1 else (if (Decidable.decide (x1 - (↑(ByteArray.size (Prod.fst x0)) : Int) - (↑(ByteArray.size (Prod.fst (Prod.snd x0))) : Int) < 0)) = true then -1 else (if (Decidable.decide (x1 - (↑(ByteArray.size (Prod.fst x0)) : Int) - (↑(ByteArray.size (Prod.fst (Prod.snd x0))) : Int) - (↑(ByteArray.size (Prod.fst (Prod.snd (Prod.snd x0)))) : Int) < 0)) = true then -1 else x1 - (↑(ByteArray.size (Prod.fst x0)) : Int) - (↑(ByteArray.size (Prod.fst (Prod.snd x0))) : Int) - (↑(ByteArray.size (Prod.fst (Prod.snd (Prod.snd x0)))) : Int))))
theorem p88_0 (x0 : ByteArray × ByteArray × ByteArray × Unit) (x1 : Int) : runF tab ext88 false 27 [] 2000 [] tys88 Tryd.f88.results [true] [.code b88] (entE 0 0 sig88 (x0, x1, ())) (entL sig88 (x0, x1, ())) = some ([Dyn.mk (Ty.int IntKind.i64) (-1)], [], [InR IntKind.i64 (x1 - (↑(ByteArray.size (Prod.fst x0)) : Int)), Decidable.decide (x1 - (↑(ByteArray.size (Prod.fst x0)) : Int) < 0) = Bool.true]) := by kernel_rfl
theorem p88_1 (x0 : ByteArray × ByteArray × ByteArray × Unit) (x1 : Int) : runF tab ext88 false 27 [] 2000 [] tys88 Tryd.f88.results [false, true] [.code b88] (entE 0 0 sig88 (x0, x1, ())) (entL sig88 (x0, x1, ())) = some ([Dyn.mk (Ty.int IntKind.i64) (-1)], [], [InR IntKind.i64 (x1 - (↑(ByteArray.size (Prod.fst x0)) : Int)), Decidable.decide (x1 - (↑(ByteArray.size (Prod.fst x0)) : Int) < 0) = Bool.false, InR IntKind.i64 (x1 - (↑(ByteArray.size (Prod.fst x0)) : Int) - (↑(ByteArray.size (Prod.fst (Prod.snd x0))) : Int)), Decidable.decide (x1 - (↑(ByteArray.size (Prod.fst x0)) : Int) - (↑(ByteArray.size (Prod.fst (Prod.snd x0))) : Int) < 0) = Bool.true]) := by kernel_rfl
theorem p88_2 (x0 : ByteArray × ByteArray × ByteArray × Unit) (x1 : Int) : runF tab ext88 false 27 [] 2000 [] tys88 Tryd.f88.results [false, false, true] [.code b88] (entE 0 0 sig88 (x0, x1, ())) (entL sig88 (x0, x1, ())) = some ([Dyn.mk (Ty.int IntKind.i64) (-1)], [], [InR IntKind.i64 (x1 - (↑(ByteArray.size (Prod.fst x0)) : Int)), Decidable.decide (x1 - (↑(ByteArray.size (Prod.fst x0)) : Int) < 0) = Bool.false, InR IntKind.i64 (x1 - (↑(ByteArray.size (Prod.fst x0)) : Int) - (↑(ByteArray.size (Prod.fst (Prod.snd x0))) : Int)), Decidable.decide (x1 - (↑(ByteArray.size (Prod.fst x0)) : Int) - (↑(ByteArray.size (Prod.fst (Prod.snd x0))) : Int) < 0) = Bool.false, InR IntKind.i64 (x1 - (↑(ByteArray.size (Prod.fst x0)) : Int) - (↑(ByteArray.size (Prod.fst (Prod.snd x0))) : Int) - (↑(ByteArray.size (Prod.fst (Prod.snd (Prod.snd x0)))) : Int)), Decidable.decide (x1 - (↑(ByteArray.size (Prod.fst x0)) : Int) - (↑(ByteArray.size (Prod.fst (Prod.snd x0))) : Int) - (↑(ByteArray.size (Prod.fst (Prod.snd (Prod.snd x0)))) : Int) < 0) = Bool.true]) := by kernel_rfl
theorem p88_3 (x0 : ByteArray × ByteArray × ByteArray × Unit) (x1 : Int) : runF tab ext88 false 27 [] 2000 [] tys88 Tryd.f88.results [false, false, false] [.code b88] (entE 0 0 sig88 (x0, x1, ())) (entL sig88 (x0, x1, ())) = some ([Dyn.mk (Ty.int IntKind.i64) (x1 - (↑(ByteArray.size (Prod.fst x0)) : Int) - (↑(ByteArray.size (Prod.fst (Prod.snd x0))) : Int) - (↑(ByteArray.size (Prod.fst (Prod.snd (Prod.snd x0)))) : Int))], [], [InR IntKind.i64 (x1 - (↑(ByteArray.size (Prod.fst x0)) : Int)), Decidable.decide (x1 - (↑(ByteArray.size (Prod.fst x0)) : Int) < 0) = Bool.false, InR IntKind.i64 (x1 - (↑(ByteArray.size (Prod.fst x0)) : Int) - (↑(ByteArray.size (Prod.fst (Prod.snd x0))) : Int)), Decidable.decide (x1 - (↑(ByteArray.size (Prod.fst x0)) : Int) - (↑(ByteArray.size (Prod.fst (Prod.snd x0))) : Int) < 0) = Bool.false, InR IntKind.i64 (x1 - (↑(ByteArray.size (Prod.fst x0)) : Int) - (↑(ByteArray.size (Prod.fst (Prod.snd x0))) : Int) - (↑(ByteArray.size (Prod.fst (Prod.snd (Prod.snd x0)))) : Int)), Decidable.decide (x1 - (↑(ByteArray.size (Prod.fst x0)) : Int) - (↑(ByteArray.size (Prod.fst (Prod.snd x0))) : Int) - (↑(ByteArray.size (Prod.fst (Prod.snd (Prod.snd x0)))) : Int) < 0) = Bool.false]) := by kernel_rfl
theorem at88 (x0 : ByteArray × ByteArray × ByteArray × Unit) (x1 : Int) (h : P88 x0 x1) (w0 : World) (O : List Nat) (q : Nat → Value) : AtV Tryd.prog 88 (PostR [⟨Ty.int IntKind.i64, g88_0 x0 x1⟩] [] [] q w0 O) 27 w0 O q [] [.code b88] (entE 0 0 sig88 (x0, x1, ())) (entL sig88 (x0, x1, ())) := by
  unfold P88 at h
  unfold g88_0
  obtain ⟨s0, h⟩ := h
  by_cases b0 : (Decidable.decide (x1 - (↑(ByteArray.size (Prod.fst x0)) : Int) < 0)) = true
  · try simp only [if_pos b0] at h ⊢
    exact AtV.fin Tryd.func88 tabOk ext88Ok mixed (p88_0 x0 x1) ⟨s0, b0, trivial⟩
  · try simp only [if_neg b0] at h ⊢
    replace b0 := Bool.eq_false_iff.2 b0
    obtain ⟨s1, h⟩ := h
    by_cases b1 : (Decidable.decide (x1 - (↑(ByteArray.size (Prod.fst x0)) : Int) - (↑(ByteArray.size (Prod.fst (Prod.snd x0))) : Int) < 0)) = true
    · try simp only [if_pos b1] at h ⊢
      exact AtV.fin Tryd.func88 tabOk ext88Ok mixed (p88_1 x0 x1) ⟨s0, b0, s1, b1, trivial⟩
    · try simp only [if_neg b1] at h ⊢
      replace b1 := Bool.eq_false_iff.2 b1
      obtain ⟨s2, h⟩ := h
      by_cases b2 : (Decidable.decide (x1 - (↑(ByteArray.size (Prod.fst x0)) : Int) - (↑(ByteArray.size (Prod.fst (Prod.snd x0))) : Int) - (↑(ByteArray.size (Prod.fst (Prod.snd (Prod.snd x0)))) : Int) < 0)) = true
      · try simp only [if_pos b2] at h ⊢
        exact AtV.fin Tryd.func88 tabOk ext88Ok mixed (p88_2 x0 x1) ⟨s0, b0, s1, b1, s2, b2, trivial⟩
      · try simp only [if_neg b2] at h ⊢
        replace b2 := Bool.eq_false_iff.2 b2
        exact AtV.fin Tryd.func88 tabOk ext88Ok mixed (p88_3 x0 x1) ⟨s0, b0, s1, b1, s2, b2, trivial⟩

def S88 : Am.Spec := { sig := sig88, pre := fun ⟨x0, x1, _⟩ => P88 x0 x1, res := fun ⟨x0, x1, _⟩ => [⟨Ty.int IntKind.i64, g88_0 x0 x1⟩] }
theorem con88 : Contract Tryd.prog 88 S88 := contract_of Tryd.func88 hb88 (Nat.le_of_ble_eq_true (by kernel_rfl)) (fun ⟨x0, x1, _⟩ h _ w0 O q => at88 x0 x1 h w0 O q)


theorem sz88 (x0 : ByteArray × ByteArray × ByteArray × Unit) (x1 : Int) (h : 0 ≤ x1) (hi : InR .i64 x1) (hw : Wf (.cons .str (.cons .str (.cons .str .unit))) x0) :
    P88 x0 x1 ∧ -1 ≤ g88_0 x0 x1 ∧ g88_0 x0 x1 ≤ x1 := by
  have h1 : x0.1.size ≤ 9223372036854775807 := hw.1
  have h2 : x0.2.1.size ≤ 9223372036854775807 := hw.2.1
  have h3 : x0.2.2.1.size ≤ 9223372036854775807 := hw.2.2.1
  rw [i64_iff] at hi
  unfold P88 g88_0
  simp only [decide_eq_true_eq, i64_iff]
  repeat' (first | apply And.intro | split)
  all_goals first | trivial | omega

end Go.Proofs.YtakodkjcmacofaaDoor

/- Function 32 (laws.szBlockS): its runs between cut points. Written by a program of this repo (gen). -/
set_option linter.unusedVariables false
set_option linter.unusedSimpArgs false
set_option maxRecDepth 100000
namespace Go.Proofs.YtakodkjcmacofaaDoor
open Go Go.Am Go.Proofs
def ext32 : Ext := [(88, S88)]
theorem call32_88 : Callable Tryd.prog 88 := ⟨Tryd.f88, Tryd.func88, by kernel_rfl, by kernel_rfl⟩
theorem ext32Ok : ExtOk Tryd.prog ext32 := ⟨⟨call32_88, con88⟩, trivial⟩
/-! Function 32. -/
noncomputable def b32 : Code := bodyOf Tryd.f32
theorem hb32 : Tryd.f32.body = some b32 := by kernel_rfl
def sig32 : List AT := [AT.v (Ty.sl (Ty.cons Ty.str (Ty.cons Ty.str (Ty.cons Ty.str Ty.unit)))), AT.v (Ty.int IntKind.i64)]
def tys32 : List Ty := [Ty.int IntKind.i64]
def E32_5 (v1 : Int) (v5 : Int) (x0 : List (ByteArray × ByteArray × ByteArray × Unit)) : Env := [(0, PV.a (Atom.sl (Ty.cons Ty.str (Ty.cons Ty.str (Ty.cons Ty.str Ty.unit))) x0)), (1, PV.a (Atom.val (Value.int IntKind.i64 v1))), (5, PV.a (Atom.val (Value.int IntKind.i64 v5)))]
def L32_5 (v1 : Int) (v5 : Int) (x0 : List (ByteArray × ByteArray × ByteArray × Unit)) : Heap := []
mutual
def R32 : Nat → List (ByteArray × ByteArray × ByteArray × Unit) → Int → List Dyn → Prop
  | 0, _, _, _ => False
  | n + 1, x0, x1, ds => ((InR IntKind.i64 (x1 - (↑(List.length x0) : Int))) ∧ (if (Decidable.decide (x1 - (↑(List.length x0) : Int) < 0)) = true then (ds = [Dyn.mk (Ty.int IntKind.i64) (-1)]) else (R32_5 n (x1 - (↑(List.length x0) : Int)) (0) (x0) ds)))
def R32_5 : Nat → Int → Int → List (ByteArray × ByteArray × ByteArray × Unit) → List Dyn → Prop
  | 0, _, _, _, _ => False
  | n + 1, v1, v5, x0, ds => (if (Decidable.decide (v5 < (↑(List.length x0) : Int))) = true then ((0 ≤ v5) ∧ (v5 < (↑(List.length x0) : Int)) ∧ ((P88 (List.getD x0 (Int.toNat v5) (ByteArray.empty, ByteArray.empty, ByteArray.empty, ())) v1) ∧ (if (Decidable.decide (g88_0 (List.getD x0 (Int.toNat v5) (ByteArray.empty, ByteArray.empty, ByteArray.empty, ())) v1 < 0)) = true then (ds = [Dyn.mk (Ty.int IntKind.i64) (-1)]) else ((InR IntKind.i64 (v5 + 1)) ∧ (R32_5 n (g88_0 (List.getD x0 (Int.toNat v5) (ByteArray.empty, ByteArray.empty, ByteArray.empty, ())) v1) (v5 + 1) (x0) ds))))) else (ds = [Dyn.mk (Ty.int IntKind.i64) v1]))
end
theorem p32_0 (x0 : List (ByteArray × ByteArray × ByteArray × Unit)) (x1 : Int) : runF tab ext32 false 27 [] 2000 [] tys32 Tryd.f32.results [true] [.code b32] (entE 0 0 sig32 (x0, x1, ())) (entL sig32 (x0, x1, ())) = some ([Dyn.mk (Ty.int IntKind.i64) (-1)], [], [InR IntKind.i64 (x1 - (↑(List.length x0) : Int)), Decidable.decide (x1 - (↑(List.length x0) : Int) < 0) = Bool.true]) := by kernel_rfl
theorem p32_1 (x0 : List (ByteArray × ByteArray × ByteArray × Unit)) (x1 : Int) : Am.runN tab ext32 false 27 [] 2000 [] [] [0, 1, 5] [] [false] [.code b32] (entE 0 0 sig32 (x0, x1, ())) (entL sig32 (x0, x1, ())) = some (cutAt b32 5, E32_5 (x1 - (↑(List.length x0) : Int)) (0) (x0), L32_5 (x1 - (↑(List.length x0) : Int)) (0) (x0), [InR IntKind.i64 (x1 - (↑(List.length x0) : Int)), Decidable.decide (x1 - (↑(List.length x0) : Int) < 0) = Bool.false]) := by kernel_rfl
theorem p32_2 (v1 : Int) (v5 : Int) (x0 : List (ByteArray × ByteArray × ByteArray × Unit)) : runF tab ext32 false 27 [] 2000 [] tys32 Tryd.f32.results [true, true] (cutAt b32 5) (E32_5 v1 v5 x0) (L32_5 v1 v5 x0) = some ([Dyn.mk (Ty.int IntKind.i64) (-1)], [], [Decidable.decide (v5 < (↑(List.length x0) : Int)) = Bool.true, 0 ≤ v5, v5 < (↑(List.length x0) : Int), P88 (List.getD x0 (Int.toNat v5) (ByteArray.empty, ByteArray.empty, ByteArray.empty, ())) v1, Decidable.decide (g88_0 (List.getD x0 (Int.toNat v5) (ByteArray.empty, ByteArray.empty, ByteArray.empty, ())) v1 < 0) = Bool.true]) := by kernel_rfl
theorem p32_3 (v1 : Int) (v5 : Int) (x0 : List (ByteArray × ByteArray × ByteArray × Unit)) : Am.runN tab ext32 false 27 [] 2000 [] [] [0, 1, 5] [] [true, false] (cutAt b32 5) (E32_5 v1 v5 x0) (L32_5 v1 v5 x0) = some (cutAt b32 5, E32_5 (g88_0 (List.getD x0 (Int.toNat v5) (ByteArray.empty, ByteArray.empty, ByteArray.empty, ())) v1) (v5 + 1) (x0), L32_5 (g88_0 (List.getD x0 (Int.toNat v5) (ByteArray.empty, ByteArray.empty, ByteArray.empty, ())) v1) (v5 + 1) (x0), [Decidable.decide (v5 < (↑(List.length x0) : Int)) = Bool.true, 0 ≤ v5, v5 < (↑(List.length x0) : Int), P88 (List.getD x0 (Int.toNat v5) (ByteArray.empty, ByteArray.empty, ByteArray.empty, ())) v1, Decidable.decide (g88_0 (List.getD x0 (Int.toNat v5) (ByteArray.empty, ByteArray.empty, ByteArray.empty, ())) v1 < 0) = Bool.false, InR IntKind.i64 (v5 + 1)]) := by kernel_rfl
theorem p32_4 (v1 : Int) (v5 : Int) (x0 : List (ByteArray × ByteArray × ByteArray × Unit)) : runF tab ext32 false 27 [] 2000 [] tys32 Tryd.f32.results [false] (cutAt b32 5) (E32_5 v1 v5 x0) (L32_5 v1 v5 x0) = some ([Dyn.mk (Ty.int IntKind.i64) v1], [], [Decidable.decide (v5 < (↑(List.length x0) : Int)) = Bool.false]) := by kernel_rfl
theorem snd32 : ∀ n, (∀ (x0 : List (ByteArray × ByteArray × ByteArray × Unit)) (x1 : Int) ds, R32 n x0 x1 ds → ∀ w0 O q, AtV Tryd.prog 32 (PostR ds [] [] q w0 O) 27 w0 O q [] [.code b32] (entE 0 0 sig32 (x0, x1, ())) (entL sig32 (x0, x1, ()))) ∧ (∀ (v1 : Int) (v5 : Int) (x0 : List (ByteArray × ByteArray × ByteArray × Unit)) ds, R32_5 n v1 v5 x0 ds → ∀ w0 O q, AtV Tryd.prog 32 (PostR ds [] [] q w0 O) 27 w0 O q [] (cutAt b32 5) (E32_5 v1 v5 x0) (L32_5 v1 v5 x0)) := by
  intro n
  induction n with
  | zero => exact ⟨fun _ _ _ h => by simp only [R32] at h, fun _ _ _ _ h => by simp only [R32_5] at h⟩
  | succ n ih =>
  obtain ⟨ih, ih5⟩ := ih
  refine ⟨?_, ?_⟩
  · intro x0 x1 ds h w0 O q
    rw [R32] at h
    obtain ⟨s0, h⟩ := h
    by_cases b0 : (Decidable.decide (x1 - (↑(List.length x0) : Int) < 0)) = true
    · rw [if_pos b0] at h
      subst h
      exact AtV.fin Tryd.func32 tabOk ext32Ok mixed (p32_0 x0 x1) ⟨s0, b0, trivial⟩
    · rw [if_neg b0] at h
      replace b0 := Bool.eq_false_iff.2 b0
      exact AtV.runN tabOk ext32Ok mixed (p32_1 x0 x1) ⟨s0, b0, trivial⟩ (ih5 _ _ _ _ h w0 O q)

  · intro v1 v5 x0 ds h w0 O q
    rw [R32_5] at h
    by_cases b0 : (Decidable.decide (v5 < (↑(List.length x0) : Int))) = true
    · rw [if_pos b0] at h
      obtain ⟨s0, s1, h⟩ := h
      obtain ⟨s2, h⟩ := h
      by_cases b1 : (Decidable.decide (g88_0 (List.getD x0 (Int.toNat v5) (ByteArray.empty, ByteArray.empty, ByteArray.empty, ())) v1 < 0)) = true
      · rw [if_pos b1] at h
        subst h
        exact AtV.fin Tryd.func32 tabOk ext32Ok mixed (p32_2 v1 v5 x0) ⟨b0, s0, s1, s2, b1, trivial⟩
      · rw [if_neg b1] at h
        replace b1 := Bool.eq_false_iff.2 b1
        obtain ⟨s3, h⟩ := h
        exact AtV.runN tabOk ext32Ok mixed (p32_3 v1 v5 x0) ⟨b0, s0, s1, s2, b1, s3, trivial⟩ (ih5 _ _ _ _ h w0 O q)
    · rw [if_neg b0] at h
      replace b0 := Bool.eq_false_iff.2 b0
      subst h
      exact AtV.fin Tryd.func32 tabOk ext32Ok mixed (p32_4 v1 v5 x0) ⟨b0, trivial⟩



def szL32 : List (ByteArray × ByteArray × ByteArray × Unit) → Int → Int
  | [], l => l
  | x :: r, l => if g88_0 x l < 0 then -1 else szL32 r (g88_0 x l)

theorem szL32_ok : ∀ (x0 : List (ByteArray × ByteArray × ByteArray × Unit)) (l : Int), 0 ≤ l → InR .i64 l → (∀ x ∈ x0, Wf (.cons .str (.cons .str (.cons .str .unit))) x) → szL32 x0 l ≤ l
  | [], l, _, _, _ => Int.le_refl _
  | x :: r, l, h, hi, hw => by
    obtain ⟨_, h2, h3⟩ := sz88 x l h hi (hw x (List.mem_cons_self ..))
    simp only [szL32]
    rw [i64_iff] at hi
    split
    · omega
    · have := szL32_ok r (g88_0 x l) (by omega) (by rw [i64_iff]; omega) (fun y hy => hw y (List.mem_cons_of_mem _ hy))
      omega

theorem run32 (x0 : List (ByteArray × ByteArray × ByteArray × Unit)) (hm : x0.length ≤ maxLen) (hw : ∀ x ∈ x0, Wf (.cons .str (.cons .str (.cons .str .unit))) x) : ∀ (k i : Nat) (l : Int), i + k = x0.length → 0 ≤ l → InR .i64 l →
    R32_5 (k + 1) l (i : Int) x0 [⟨.int .i64, szL32 (x0.drop i) l⟩] := by
  intro k
  induction k with
  | zero =>
    intro i l hi _ _
    rw [R32_5, if_neg (by simp; omega), drop_end x0 i (by omega)]
    rfl
  | succ k ih =>
    intro i l hi h0 hl
    rw [R32_5, if_pos (by simp; omega)]
    simp only [Int.toNat_natCast]
    have hmem : x0.getD i (ByteArray.empty, ByteArray.empty, ByteArray.empty, ()) ∈ x0 := by rw [getD_lt _ _ _ (by omega)]; exact List.getElem_mem _
    obtain ⟨h1, h2, h3⟩ := sz88 _ l h0 hl (hw _ hmem)
    refine ⟨by omega, by omega, h1, ?_⟩
    rw [drop_get x0 i (ByteArray.empty, ByteArray.empty, ByteArray.empty, ()) (by omega)]
    simp only [szL32]
    have hl' := hl
    rw [i64_iff] at hl'
    by_cases hn : g88_0 (x0.getD i (ByteArray.empty, ByteArray.empty, ByteArray.empty, ())) l < 0
    · rw [if_pos (by simpa using hn), if_pos hn]
    · rw [if_neg (by simpa using hn), if_neg hn]
      exact ⟨inR_up hm (by omega), ih (i + 1) _ (by omega) (by omega) (by rw [i64_iff]; omega)⟩

def g32_0 (x0 : List (ByteArray × ByteArray × ByteArray × Unit)) (x1 : Int) : Int := if x1 - x0.length < 0 then -1 else szL32 x0 (x1 - x0.length)
def P32 (x0 : List (ByteArray × ByteArray × ByteArray × Unit)) (x1 : Int) : Prop := 0 ≤ x1

theorem g32_le (x0 : List (ByteArray × ByteArray × ByteArray × Unit)) (x1 : Int) (h : 0 ≤ x1) (hi : InR .i64 x1) (hw : Wf (.sl (.cons .str (.cons .str (.cons .str .unit)))) x0) (hg : ¬ g32_0 x0 x1 < 0) : g32_0 x0 x1 ≤ x1 - x0.length := by
  unfold g32_0 at hg ⊢
  rw [i64_iff] at hi
  split
  · rename_i h1
    rw [if_pos h1] at hg
    omega
  · exact szL32_ok x0 _ (by omega) (by rw [i64_iff]; omega) hw.2

theorem top32 (x0 : List (ByteArray × ByteArray × ByteArray × Unit)) (x1 : Int) (hw : Wf (.sl (.cons .str (.cons .str (.cons .str .unit)))) x0) (hi : InR .i64 x1) (h : 0 ≤ x1) : R32 (x0.length + 1 + 1) x0 x1 [⟨Ty.int .i64, g32_0 x0 x1⟩] := by
  have hm : x0.length ≤ maxLen := hw.1
  have hm' : x0.length ≤ 9223372036854775807 := hm
  rw [i64_iff] at hi
  rw [R32]
  refine ⟨by rw [i64_iff]; omega, ?_⟩
  unfold g32_0
  by_cases hn : x1 - (x0.length : Int) < 0
  · rw [if_pos (by simpa using hn), if_pos hn]
  · rw [if_neg (by simpa using hn), if_neg hn]
    have := run32 x0 hm hw.2 x0.length 0 (x1 - x0.length) (by omega) (by omega) (by rw [i64_iff]; omega)
    simpa using this

def S32 : Am.Spec := { sig := sig32, pre := fun ⟨x0, x1, _⟩ => P32 x0 x1, res := fun ⟨x0, x1, _⟩ => [⟨Ty.int .i64, g32_0 x0 x1⟩] }
theorem con32 : Contract Tryd.prog 32 S32 := contract_of Tryd.func32 hb32 (Nat.le_of_ble_eq_true (by kernel_rfl)) (fun ⟨x0, x1, _⟩ h hwf w0 O q =>
  (snd32 _).1 x0 x1 _ (top32 x0 x1 hwf.1 hwf.2.1 h) w0 O q)

end Go.Proofs.YtakodkjcmacofaaDoor

/- Function 91 (laws.toBlock): its runs between cut points. Written by a program of this repo (gen). -/
set_option linter.unusedVariables false
set_option linter.unusedSimpArgs false
set_option maxRecDepth 100000
namespace Go.Proofs.YtakodkjcmacofaaDoor
open Go Go.Am Go.Proofs
def ext91 : Ext := []
theorem ext91Ok : ExtOk Tryd.prog ext91 := trivial
/-! Function 91. -/
noncomputable def b91 : Code := bodyOf Tryd.f91
theorem hb91 : Tryd.f91.body = some b91 := by kernel_rfl
def sig91 : List AT := [AT.v (Ty.cons Ty.str (Ty.cons Ty.str (Ty.cons Ty.str Ty.unit)))]
def tys91 : List Ty := [Ty.cons Ty.str (Ty.cons Ty.str (Ty.cons Ty.str Ty.unit))]
def P91 (x0 : ByteArray × ByteArray × ByteArray × Unit) : Prop := True
def g91_0 (x0 : ByteArray × ByteArray × ByteArray × Unit) : ByteArray × ByteArray × ByteArray × Unit := (Prod.fst x0, Prod.fst (Prod.snd x0), Prod.fst (Prod.snd (Prod.snd x0)), ())
theorem p91_0 (x0 : ByteArray × ByteArray × ByteArray × Unit) : runF tab ext91 false 14 [] 2000 [] tys91 Tryd.f91.results [] [.code b91] (entE 0 0 sig91 (x0, ())) (entL sig91 (x0, ())) = some ([Dyn.mk (Ty.cons Ty.str (Ty.cons Ty.str (Ty.cons Ty.str Ty.unit))) (Prod.fst x0, Prod.fst (Prod.snd x0), Prod.fst (Prod.snd (Prod.snd x0)), ())], [], []) := by kernel_rfl
theorem at91 (x0 : ByteArray × ByteArray × ByteArray × Unit) (h : P91 x0) (w0 : World) (O : List Nat) (q : Nat → Value) : AtV Tryd.prog 91 (PostR [⟨Ty.cons Ty.str (Ty.cons Ty.str (Ty.cons Ty.str Ty.unit)), g91_0 x0⟩] [] [] q w0 O) 14 w0 O q [] [.code b91] (entE 0 0 sig91 (x0, ())) (entL sig91 (x0, ())) := by
  unfold P91 at h
  unfold g91_0
  exact AtV.fin Tryd.func91 tabOk ext91Ok mixed (p91_0 x0) trivial

def S91 : Am.Spec := { sig := sig91, pre := fun ⟨x0, _⟩ => P91 x0, res := fun ⟨x0, _⟩ => [⟨Ty.cons Ty.str (Ty.cons Ty.str (Ty.cons Ty.str Ty.unit)), g91_0 x0⟩] }
theorem con91 : Contract Tryd.prog 91 S91 := contract_of Tryd.func91 hb91 (Nat.le_of_ble_eq_true (by kernel_rfl)) (fun ⟨x0, _⟩ h _ w0 O q => at91 x0 h w0 O q)


end Go.Proofs.YtakodkjcmacofaaDoor

/- Function 34 (laws.toBlockS): its runs between cut points. Written by a program of this repo (gen). -/
set_option linter.unusedVariables false
set_option linter.unusedSimpArgs false
set_option maxRecDepth 100000
namespace Go.Proofs.YtakodkjcmacofaaDoor
open Go Go.Am Go.Proofs
def ext34 : Ext := [(91, S91)]
theorem call34_91 : Callable Tryd.prog 91 := ⟨Tryd.f91, Tryd.func91, by kernel_rfl, by kernel_rfl⟩
theorem ext34Ok : ExtOk Tryd.prog ext34 := ⟨⟨call34_91, con91⟩, trivial⟩
/-! Function 34. -/
noncomputable def b34 : Code := bodyOf Tryd.f34
theorem hb34 : Tryd.f34.body = some b34 := by kernel_rfl
def sig34 : List AT := [AT.v (Ty.sl (Ty.cons Ty.str (Ty.cons Ty.str (Ty.cons Ty.str Ty.unit))))]
def tys34 : List Ty := [Ty.sl (Ty.cons Ty.str (Ty.cons Ty.str (Ty.cons Ty.str Ty.unit)))]
def E34_3 (v4 : Int) (h0 : List (ByteArray × ByteArray × ByteArray × Unit)) (x0 : List (ByteArray × ByteArray × ByteArray × Unit)) : Env := [(0, PV.a (Atom.sl (Ty.cons Ty.str (Ty.cons Ty.str (Ty.cons Ty.str Ty.unit))) x0)), (3, PV.a (Atom.osl 0 Option.none)), (4, PV.a (Atom.val (Value.int IntKind.i64 v4)))]
def L34_3 (v4 : Int) (h0 : List (ByteArray × ByteArray × ByteArray × Unit)) (x0 : List (ByteArray × ByteArray × ByteArray × Unit)) : Heap := [Option.some (Arr.mk (Ty.cons Ty.str (Ty.cons Ty.str (Ty.cons Ty.str Ty.unit))) h0 Bool.false)]
mutual
def R34 : Nat → List (ByteArray × ByteArray × ByteArray × Unit) → List Dyn → Prop
  | 0, _, _ => False
  | n + 1, x0, ds => ((0 ≤ (↑(List.length x0) : Int)) ∧ ((↑(List.length x0) : Int) ≤ (↑(List.length x0) : Int)) ∧ (48 * (↑(List.length x0) : Int) ≤ 281474976710656) ∧ (R34_3 n (0) (List.replicate (Int.toNat (↑(List.length x0) : Int)) (ByteArray.empty, ByteArray.empty, ByteArray.empty, ())) (x0) ds))
def R34_3 : Nat → Int → List (ByteArray × ByteArray × ByteArray × Unit) → List (ByteArray × ByteArray × ByteArray × Unit) → List Dyn → Prop
  | 0, _, _, _, _ => False
  | n + 1, v4, h0, x0, ds => (if (Decidable.decide (v4 < (↑(List.length x0) : Int))) = true then ((0 ≤ v4) ∧ (v4 < (↑(List.length x0) : Int)) ∧ ((0 ≤ v4) ∧ (v4 < (↑(List.length h0) : Int)) ∧ ((InR IntKind.i64 (v4 + 1)) ∧ (R34_3 n (v4 + 1) (List.set h0 (Int.toNat v4) (Prod.fst (List.getD x0 (Int.toNat v4) (ByteArray.empty, ByteArray.empty, ByteArray.empty, ())), Prod.fst (Prod.snd (List.getD x0 (Int.toNat v4) (ByteArray.empty, ByteArray.empty, ByteArray.empty, ()))), Prod.fst (Prod.snd (Prod.snd (List.getD x0 (Int.toNat v4) (ByteArray.empty, ByteArray.empty, ByteArray.empty, ())))), ())) (x0) ds)))) else (ds = [Dyn.mk (Ty.sl (Ty.cons Ty.str (Ty.cons Ty.str (Ty.cons Ty.str Ty.unit)))) h0]))
end
theorem p34_0 (x0 : List (ByteArray × ByteArray × ByteArray × Unit)) : Am.runN tab ext34 false 23 [] 2000 [] [] [0, 3, 4] [0] [] [.code b34] (entE 0 0 sig34 (x0, ())) (entL sig34 (x0, ())) = some (cutAt b34 3, E34_3 (0) (List.replicate (Int.toNat (↑(List.length x0) : Int)) (ByteArray.empty, ByteArray.empty, ByteArray.empty, ())) (x0), L34_3 (0) (List.replicate (Int.toNat (↑(List.length x0) : Int)) (ByteArray.empty, ByteArray.empty, ByteArray.empty, ())) (x0), [0 ≤ (↑(List.length x0) : Int), (↑(List.length x0) : Int) ≤ (↑(List.length x0) : Int), 48 * (↑(List.length x0) : Int) ≤ 281474976710656]) := by kernel_rfl
theorem p34_1 (v4 : Int) (h0 : List (ByteArray × ByteArray × ByteArray × Unit)) (x0 : List (ByteArray × ByteArray × ByteArray × Unit)) : Am.runN tab ext34 false 23 [] 2000 [] [] [0, 3, 4] [0] [true] (cutAt b34 3) (E34_3 v4 h0 x0) (L34_3 v4 h0 x0) = some (cutAt b34 3, E34_3 (v4 + 1) (List.set h0 (Int.toNat v4) (Prod.fst (List.getD x0 (Int.toNat v4) (ByteArray.empty, ByteArray.empty, ByteArray.empty, ())), Prod.fst (Prod.snd (List.getD x0 (Int.toNat v4) (ByteArray.empty, ByteArray.empty, ByteArray.empty, ()))), Prod.fst (Prod.snd (Prod.snd (List.getD x0 (Int.toNat v4) (ByteArray.empty, ByteArray.empty, ByteArray.empty, ())))), ())) (x0), L34_3 (v4 + 1) (List.set h0 (Int.toNat v4) (Prod.fst (List.getD x0 (Int.toNat v4) (ByteArray.empty, ByteArray.empty, ByteArray.empty, ())), Prod.fst (Prod.snd (List.getD x0 (Int.toNat v4) (ByteArray.empty, ByteArray.empty, ByteArray.empty, ()))), Prod.fst (Prod.snd (Prod.snd (List.getD x0 (Int.toNat v4) (ByteArray.empty, ByteArray.empty, ByteArray.empty, ())))), ())) (x0), [Decidable.decide (v4 < (↑(List.length x0) : Int)) = Bool.true, 0 ≤ v4, v4 < (↑(List.length x0) : Int), True, 0 ≤ v4, v4 < (↑(List.length h0) : Int), InR IntKind.i64 (v4 + 1)]) := by kernel_rfl
theorem p34_2 (v4 : Int) (h0 : List (ByteArray × ByteArray × ByteArray × Unit)) (x0 : List (ByteArray × ByteArray × ByteArray × Unit)) : runF tab ext34 false 23 [] 2000 [] tys34 Tryd.f34.results [false] (cutAt b34 3) (E34_3 v4 h0 x0) (L34_3 v4 h0 x0) = some ([Dyn.mk (Ty.sl (Ty.cons Ty.str (Ty.cons Ty.str (Ty.cons Ty.str Ty.unit)))) h0], [], [Decidable.decide (v4 < (↑(List.length x0) : Int)) = Bool.false]) := by kernel_rfl
theorem snd34 : ∀ n, (∀ (x0 : List (ByteArray × ByteArray × ByteArray × Unit)) ds, R34 n x0 ds → ∀ w0 O q, AtV Tryd.prog 34 (PostR ds [] [] q w0 O) 23 w0 O q [] [.code b34] (entE 0 0 sig34 (x0, ())) (entL sig34 (x0, ()))) ∧ (∀ (v4 : Int) (h0 : List (ByteArray × ByteArray × ByteArray × Unit)) (x0 : List (ByteArray × ByteArray × ByteArray × Unit)) ds, R34_3 n v4 h0 x0 ds → ∀ w0 O q, AtV Tryd.prog 34 (PostR ds [] [] q w0 O) 23 w0 O q [] (cutAt b34 3) (E34_3 v4 h0 x0) (L34_3 v4 h0 x0)) := by
  intro n
  induction n with
  | zero => exact ⟨fun _ _ h => by simp only [R34] at h, fun _ _ _ _ h => by simp only [R34_3] at h⟩
  | succ n ih =>
  obtain ⟨ih, ih3⟩ := ih
  refine ⟨?_, ?_⟩
  · intro x0 ds h w0 O q
    rw [R34] at h
    obtain ⟨s0, s1, s2, h⟩ := h
    exact AtV.runN tabOk ext34Ok mixed (p34_0 x0) ⟨s0, s1, s2, trivial⟩ (ih3 _ _ _ _ h w0 O q)

  · intro v4 h0 x0 ds h w0 O q
    rw [R34_3] at h
    by_cases b0 : (Decidable.decide (v4 < (↑(List.length x0) : Int))) = true
    · rw [if_pos b0] at h
      obtain ⟨s0, s1, h⟩ := h
      obtain ⟨s2, s3, h⟩ := h
      obtain ⟨s4, h⟩ := h
      exact AtV.runN tabOk ext34Ok mixed (p34_1 v4 h0 x0) ⟨b0, s0, s1, trivial, s2, s3, s4, trivial⟩ (ih3 _ _ _ _ h w0 O q)
    · rw [if_neg b0] at h
      replace b0 := Bool.eq_false_iff.2 b0
      subst h
      exact AtV.fin Tryd.func34 tabOk ext34Ok mixed (p34_2 v4 h0 x0) ⟨b0, trivial⟩



theorem run34 (x0 : List (ByteArray × ByteArray × ByteArray × Unit)) (hm : x0.length ≤ maxLen) : ∀ (k i : Nat), i + k = x0.length →
    R34_3 (k + 1) (i : Int) (x0.take i ++ List.replicate k (ByteArray.empty, ByteArray.empty, ByteArray.empty, ())) x0 [⟨.sl (.cons .str (.cons .str (.cons .str .unit))), x0⟩] := by
  intro k
  induction k with
  | zero =>
    intro i hi
    rw [R34_3, if_neg (by simp; omega), List.take_of_length_le (by omega)]
    simp
  | succ k ih =>
    intro i hi
    rw [R34_3, if_pos (by simp; omega)]
    simp only [Int.toNat_natCast]
    refine ⟨by omega, by omega, by omega, by simp; omega, inR_up hm (by omega), ?_⟩
    have hs := set_step x0 (ByteArray.empty, ByteArray.empty, ByteArray.empty, ()) i (by omega) (k + 1) (by omega)
    have he : ∀ y : ByteArray × ByteArray × ByteArray × Unit, (y.1, y.2.1, y.2.2.1, ()) = y := fun _ => rfl
    rw [he, hs]
    exact ih (i + 1) (by omega)

def g34_0 (x0 : List (ByteArray × ByteArray × ByteArray × Unit)) : List (ByteArray × ByteArray × ByteArray × Unit) := x0
def P34 (x0 : List (ByteArray × ByteArray × ByteArray × Unit)) : Prop := 48 * (x0.length : Int) ≤ 281474976710656
def S34 : Am.Spec := { sig := sig34, pre := fun ⟨x0, _⟩ => P34 x0, res := fun ⟨x0, _⟩ => [⟨.sl (.cons .str (.cons .str (.cons .str .unit))), g34_0 x0⟩] }
theorem con34 : Contract Tryd.prog 34 S34 := contract_of Tryd.func34 hb34 (Nat.le_of_ble_eq_true (by kernel_rfl)) (fun ⟨x0, _⟩ h hwf w0 O q => by
  refine (snd34 (x0.length + 2)).1 x0 _ ?_ w0 O q
  show R34 (x0.length + 1 + 1) x0 [⟨.sl (.cons .str (.cons .str (.cons .str .unit))), x0⟩]
  rw [R34]
  refine ⟨by omega, by omega, h, ?_⟩
  have := run34 x0 hwf.1.1 x0.length 0 (by omega)
  simpa using this)

end Go.Proofs.YtakodkjcmacofaaDoor

/- Function 175 (spec.l01Small): its runs between cut points. Written by a program of this repo (gen). -/
set_option linter.unusedVariables false
set_option linter.unusedSimpArgs false
set_option maxRecDepth 100000
namespace Go.Proofs.YtakodkjcmacofaaDoor
open Go Go.Am Go.Proofs
def ext175 : Ext := []
theorem ext175Ok : ExtOk Tryd.prog ext175 := trivial
/-! Function 175. -/
noncomputable def b175 : Code := bodyOf Tryd.f175
theorem hb175 : Tryd.f175.body = some b175 := by kernel_rfl
def sig175 : List AT := [AT.v (Ty.int IntKind.u8)]
def tys175 : List Ty := [Ty.bool]
def P175 (x0 : Int) : Prop := True
def g175_0 (x0 : Int) : Bool := (if (Decidable.decide (x0 ≥ 97)) = true then Decidable.decide (x0 ≤ 122) else Bool.false)
theorem p175_0 (x0 : Int) : runF tab ext175 false 9 [] 2000 [] tys175 Tryd.f175.results [true] [.code b175] (entE 0 0 sig175 (x0, ())) (entL sig175 (x0, ())) = some ([Dyn.mk Ty.bool (Decidable.decide (x0 ≤ 122))], [], [Decidable.decide (x0 ≥ 97) = Bool.true]) := by kernel_rfl
theorem p175_1 (x0 : Int) : runF tab ext175 false 9 [] 2000 [] tys175 Tryd.f175.results [false] [.code b175] (entE 0 0 sig175 (x0, ())) (entL sig175 (x0, ())) = some ([Dyn.mk Ty.bool Bool.false], [], [Decidable.decide (x0 ≥ 97) = Bool.false]) := by kernel_rfl
theorem at175 (x0 : Int) (h : P175 x0) (w0 : World) (O : List Nat) (q : Nat → Value) : AtV Tryd.prog 175 (PostR [⟨Ty.bool, g175_0 x0⟩] [] [] q w0 O) 9 w0 O q [] [.code b175] (entE 0 0 sig175 (x0, ())) (entL sig175 (x0, ())) := by
  unfold P175 at h
  unfold g175_0
  by_cases b0 : (Decidable.decide (x0 ≥ 97)) = true
  · try simp only [if_pos b0] at h ⊢
    exact AtV.fin Tryd.func175 tabOk ext175Ok mixed (p175_0 x0) ⟨b0, trivial⟩
  · try simp only [if_neg b0] at h ⊢
    replace b0 := Bool.eq_false_iff.2 b0
    exact AtV.fin Tryd.func175 tabOk ext175Ok mixed (p175_1 x0) ⟨b0, trivial⟩

def S175 : Am.Spec := { sig := sig175, pre := fun ⟨x0, _⟩ => P175 x0, res := fun ⟨x0, _⟩ => [⟨Ty.bool, g175_0 x0⟩] }
theorem con175 : Contract Tryd.prog 175 S175 := contract_of Tryd.func175 hb175 (Nat.le_of_ble_eq_true (by kernel_rfl)) (fun ⟨x0, _⟩ h _ w0 O q => at175 x0 h w0 O q)


end Go.Proofs.YtakodkjcmacofaaDoor

/- Function 67 (spec.l01Digit): its runs between cut points. Written by a program of this repo (gen). -/
set_option linter.unusedVariables false
set_option linter.unusedSimpArgs false
set_option maxRecDepth 100000
namespace Go.Proofs.YtakodkjcmacofaaDoor
open Go Go.Am Go.Proofs
def ext67 : Ext := []
theorem ext67Ok : ExtOk Tryd.prog ext67 := trivial
/-! Function 67. -/
noncomputable def b67 : Code := bodyOf Tryd.f67
theorem hb67 : Tryd.f67.body = some b67 := by kernel_rfl
def sig67 : List AT := [AT.v (Ty.int IntKind.u8)]
def tys67 : List Ty := [Ty.bool]
def P67 (x0 : Int) : Prop := True
def g67_0 (x0 : Int) : Bool := (if (Decidable.decide (x0 ≥ 48)) = true then Decidable.decide (x0 ≤ 57) else Bool.false)
theorem p67_0 (x0 : Int) : runF tab ext67 false 9 [] 2000 [] tys67 Tryd.f67.results [true] [.code b67] (entE 0 0 sig67 (x0, ())) (entL sig67 (x0, ())) = some ([Dyn.mk Ty.bool (Decidable.decide (x0 ≤ 57))], [], [Decidable.decide (x0 ≥ 48) = Bool.true]) := by kernel_rfl
theorem p67_1 (x0 : Int) : runF tab ext67 false 9 [] 2000 [] tys67 Tryd.f67.results [false] [.code b67] (entE 0 0 sig67 (x0, ())) (entL sig67 (x0, ())) = some ([Dyn.mk Ty.bool Bool.false], [], [Decidable.decide (x0 ≥ 48) = Bool.false]) := by kernel_rfl
theorem at67 (x0 : Int) (h : P67 x0) (w0 : World) (O : List Nat) (q : Nat → Value) : AtV Tryd.prog 67 (PostR [⟨Ty.bool, g67_0 x0⟩] [] [] q w0 O) 9 w0 O q [] [.code b67] (entE 0 0 sig67 (x0, ())) (entL sig67 (x0, ())) := by
  unfold P67 at h
  unfold g67_0
  by_cases b0 : (Decidable.decide (x0 ≥ 48)) = true
  · try simp only [if_pos b0] at h ⊢
    exact AtV.fin Tryd.func67 tabOk ext67Ok mixed (p67_0 x0) ⟨b0, trivial⟩
  · try simp only [if_neg b0] at h ⊢
    replace b0 := Bool.eq_false_iff.2 b0
    exact AtV.fin Tryd.func67 tabOk ext67Ok mixed (p67_1 x0) ⟨b0, trivial⟩

def S67 : Am.Spec := { sig := sig67, pre := fun ⟨x0, _⟩ => P67 x0, res := fun ⟨x0, _⟩ => [⟨Ty.bool, g67_0 x0⟩] }
theorem con67 : Contract Tryd.prog 67 S67 := contract_of Tryd.func67 hb67 (Nat.le_of_ble_eq_true (by kernel_rfl)) (fun ⟨x0, _⟩ h _ w0 O q => at67 x0 h w0 O q)


end Go.Proofs.YtakodkjcmacofaaDoor

/- Function 148 (spec.l01Name): its runs between cut points. Written by a program of this repo (gen). -/
set_option linter.unusedVariables false
set_option linter.unusedSimpArgs false
set_option maxRecDepth 100000
namespace Go.Proofs.YtakodkjcmacofaaDoor
open Go Go.Am Go.Proofs
def ext148 : Ext := [(175, S175), (67, S67)]
theorem call148_175 : Callable Tryd.prog 175 := ⟨Tryd.f175, Tryd.func175, by kernel_rfl, by kernel_rfl⟩
theorem call148_67 : Callable Tryd.prog 67 := ⟨Tryd.f67, Tryd.func67, by kernel_rfl, by kernel_rfl⟩
theorem ext148Ok : ExtOk Tryd.prog ext148 := ⟨⟨call148_175, con175⟩, ⟨call148_67, con67⟩, trivial⟩
/-! Function 148. -/
noncomputable def b148 : Code := bodyOf Tryd.f148
theorem hb148 : Tryd.f148.body = some b148 := by kernel_rfl
def sig148 : List AT := [AT.v (Ty.str)]
def tys148 : List Ty := [Ty.bool]
def E148_4 (v3 : Int) (x0 : ByteArray) : Env := [(0, PV.a (Atom.val (Value.string x0))), (3, PV.a (Atom.val (Value.int IntKind.i64 v3)))]
def L148_4 (v3 : Int) (x0 : ByteArray) : Heap := []
mutual
def R148 : Nat → ByteArray → List Dyn → Prop
  | 0, _, _ => False
  | n + 1, x0, ds => (if (ByteArray.toList x0 == ByteArray.toList (ByteArray.mk #[])) = true then (ds = [Dyn.mk Ty.bool Bool.false]) else (if (Decidable.decide ((↑(ByteArray.size x0) : Int) > 10)) = true then (ds = [Dyn.mk Ty.bool Bool.false]) else ((0 < (↑(ByteArray.size x0) : Int)) ∧ (if (!g175_0 (↑(UInt8.toNat (List.getD (Array.toList (ByteArray.data x0)) 0 0)) : Int)) = true then (ds = [Dyn.mk Ty.bool Bool.false]) else (R148_4 n (0) (x0) ds)))))
def R148_4 : Nat → Int → ByteArray → List Dyn → Prop
  | 0, _, _, _ => False
  | n + 1, v3, x0, ds => (if (Decidable.decide (v3 < (↑(ByteArray.size x0) : Int))) = true then ((0 ≤ v3) ∧ (v3 < (↑(ByteArray.size x0) : Int)) ∧ (if (!g175_0 (↑(UInt8.toNat (List.getD (Array.toList (ByteArray.data x0)) (Int.toNat v3) 0)) : Int)) = true then ((0 ≤ v3) ∧ (v3 < (↑(ByteArray.size x0) : Int)) ∧ (if (!g67_0 (↑(UInt8.toNat (List.getD (Array.toList (ByteArray.data x0)) (Int.toNat v3) 0)) : Int)) = true then (ds = [Dyn.mk Ty.bool Bool.false]) else ((InR IntKind.i64 (v3 + 1)) ∧ (R148_4 n (v3 + 1) (x0) ds)))) else ((InR IntKind.i64 (v3 + 1)) ∧ (R148_4 n (v3 + 1) (x0) ds)))) else (ds = [Dyn.mk Ty.bool Bool.true]))
end
theorem p148_0 (x0 : ByteArray) : runF tab ext148 false 35 [] 2000 [] tys148 Tryd.f148.results [true, true, true] [.code b148] (entE 0 0 sig148 (x0, ())) (entL sig148 (x0, ())) = some ([Dyn.mk Ty.bool Bool.false], [], [(ByteArray.toList x0 == ByteArray.toList (ByteArray.mk #[])) = Bool.true, Bool.true = Bool.true, Bool.true = Bool.true]) := by kernel_rfl
theorem p148_1 (x0 : ByteArray) : runF tab ext148 false 35 [] 2000 [] tys148 Tryd.f148.results [false, true, true] [.code b148] (entE 0 0 sig148 (x0, ())) (entL sig148 (x0, ())) = some ([Dyn.mk Ty.bool Bool.false], [], [(ByteArray.toList x0 == ByteArray.toList (ByteArray.mk #[])) = Bool.false, Decidable.decide ((↑(ByteArray.size x0) : Int) > 10) = Bool.true, Bool.true = Bool.true]) := by kernel_rfl
theorem p148_2 (x0 : ByteArray) : runF tab ext148 false 35 [] 2000 [] tys148 Tryd.f148.results [false, false, true] [.code b148] (entE 0 0 sig148 (x0, ())) (entL sig148 (x0, ())) = some ([Dyn.mk Ty.bool Bool.false], [], [(ByteArray.toList x0 == ByteArray.toList (ByteArray.mk #[])) = Bool.false, Decidable.decide ((↑(ByteArray.size x0) : Int) > 10) = Bool.false, (0 : Int) ≤ (0 : Int), 0 < (↑(ByteArray.size x0) : Int), True, (!g175_0 (↑(UInt8.toNat (List.getD (Array.toList (ByteArray.data x0)) 0 0)) : Int)) = Bool.true]) := by kernel_rfl
theorem p148_3 (x0 : ByteArray) : Am.runN tab ext148 false 35 [] 2000 [] [] [0, 3] [] [false, false, false] [.code b148] (entE 0 0 sig148 (x0, ())) (entL sig148 (x0, ())) = some (cutAt b148 4, E148_4 (0) (x0), L148_4 (0) (x0), [(ByteArray.toList x0 == ByteArray.toList (ByteArray.mk #[])) = Bool.false, Decidable.decide ((↑(ByteArray.size x0) : Int) > 10) = Bool.false, (0 : Int) ≤ (0 : Int), 0 < (↑(ByteArray.size x0) : Int), True, (!g175_0 (↑(UInt8.toNat (List.getD (Array.toList (ByteArray.data x0)) 0 0)) : Int)) = Bool.false]) := by kernel_rfl
theorem p148_4 (v3 : Int) (x0 : ByteArray) : runF tab ext148 false 35 [] 2000 [] tys148 Tryd.f148.results [true, true, true] (cutAt b148 4) (E148_4 v3 x0) (L148_4 v3 x0) = some ([Dyn.mk Ty.bool Bool.false], [], [Decidable.decide (v3 < (↑(ByteArray.size x0) : Int)) = Bool.true, 0 ≤ v3, v3 < (↑(ByteArray.size x0) : Int), True, (!g175_0 (↑(UInt8.toNat (List.getD (Array.toList (ByteArray.data x0)) (Int.toNat v3) 0)) : Int)) = Bool.true, 0 ≤ v3, v3 < (↑(ByteArray.size x0) : Int), True, (!g67_0 (↑(UInt8.toNat (List.getD (Array.toList (ByteArray.data x0)) (Int.toNat v3) 0)) : Int)) = Bool.true]) := by kernel_rfl
theorem p148_5 (v3 : Int) (x0 : ByteArray) : Am.runN tab ext148 false 35 [] 2000 [] [] [0, 3] [] [true, true, false] (cutAt b148 4) (E148_4 v3 x0) (L148_4 v3 x0) = some (cutAt b148 4, E148_4 (v3 + 1) (x0), L148_4 (v3 + 1) (x0), [Decidable.decide (v3 < (↑(ByteArray.size x0) : Int)) = Bool.true, 0 ≤ v3, v3 < (↑(ByteArray.size x0) : Int), True, (!g175_0 (↑(UInt8.toNat (List.getD (Array.toList (ByteArray.data x0)) (Int.toNat v3) 0)) : Int)) = Bool.true, 0 ≤ v3, v3 < (↑(ByteArray.size x0) : Int), True, (!g67_0 (↑(UInt8.toNat (List.getD (Array.toList (ByteArray.data x0)) (Int.toNat v3) 0)) : Int)) = Bool.false, InR IntKind.i64 (v3 + 1)]) := by kernel_rfl
theorem p148_6 (v3 : Int) (x0 : ByteArray) : Am.runN tab ext148 false 35 [] 2000 [] [] [0, 3] [] [true, false, false] (cutAt b148 4) (E148_4 v3 x0) (L148_4 v3 x0) = some (cutAt b148 4, E148_4 (v3 + 1) (x0), L148_4 (v3 + 1) (x0), [Decidable.decide (v3 < (↑(ByteArray.size x0) : Int)) = Bool.true, 0 ≤ v3, v3 < (↑(ByteArray.size x0) : Int), True, (!g175_0 (↑(UInt8.toNat (List.getD (Array.toList (ByteArray.data x0)) (Int.toNat v3) 0)) : Int)) = Bool.false, Bool.false = Bool.false, InR IntKind.i64 (v3 + 1)]) := by kernel_rfl
theorem p148_7 (v3 : Int) (x0 : ByteArray) : runF tab ext148 false 35 [] 2000 [] tys148 Tryd.f148.results [false] (cutAt b148 4) (E148_4 v3 x0) (L148_4 v3 x0) = some ([Dyn.mk Ty.bool Bool.true], [], [Decidable.decide (v3 < (↑(ByteArray.size x0) : Int)) = Bool.false]) := by kernel_rfl
theorem snd148 : ∀ n, (∀ (x0 : ByteArray) ds, R148 n x0 ds → ∀ w0 O q, AtV Tryd.prog 148 (PostR ds [] [] q w0 O) 35 w0 O q [] [.code b148] (entE 0 0 sig148 (x0, ())) (entL sig148 (x0, ()))) ∧ (∀ (v3 : Int) (x0 : ByteArray) ds, R148_4 n v3 x0 ds → ∀ w0 O q, AtV Tryd.prog 148 (PostR ds [] [] q w0 O) 35 w0 O q [] (cutAt b148 4) (E148_4 v3 x0) (L148_4 v3 x0)) := by
  intro n
  induction n with
  | zero => exact ⟨fun _ _ h => by simp only [R148] at h, fun _ _ _ h => by simp only [R148_4] at h⟩
  | succ n ih =>
  obtain ⟨ih, ih4⟩ := ih
  refine ⟨?_, ?_⟩
  · intro x0 ds h w0 O q
    rw [R148] at h
    by_cases b0 : (ByteArray.toList x0 == ByteArray.toList (ByteArray.mk #[])) = true
    · rw [if_pos b0] at h
      subst h
      exact AtV.fin Tryd.func148 tabOk ext148Ok mixed (p148_0 x0) ⟨b0, rfl, rfl, trivial⟩
    · rw [if_neg b0] at h
      replace b0 := Bool.eq_false_iff.2 b0
      by_cases b1 : (Decidable.decide ((↑(ByteArray.size x0) : Int) > 10)) = true
      · rw [if_pos b1] at h
        subst h
        exact AtV.fin Tryd.func148 tabOk ext148Ok mixed (p148_1 x0) ⟨b0, b1, rfl, trivial⟩
      · rw [if_neg b1] at h
        replace b1 := Bool.eq_false_iff.2 b1
        obtain ⟨s0, h⟩ := h
        by_cases b2 : (!g175_0 (↑(UInt8.toNat (List.getD (Array.toList (ByteArray.data x0)) 0 0)) : Int)) = true
        · rw [if_pos b2] at h
          subst h
          exact AtV.fin Tryd.func148 tabOk ext148Ok mixed (p148_2 x0) ⟨b0, b1, (by decide), s0, trivial, b2, trivial⟩
        · rw [if_neg b2] at h
          replace b2 := Bool.eq_false_iff.2 b2
          exact AtV.runN tabOk ext148Ok mixed (p148_3 x0) ⟨b0, b1, (by decide), s0, trivial, b2, trivial⟩ (ih4 _ _ _ h w0 O q)

  · intro v3 x0 ds h w0 O q
    rw [R148_4] at h
    by_cases b0 : (Decidable.decide (v3 < (↑(ByteArray.size x0) : Int))) = true
    · rw [if_pos b0] at h
      obtain ⟨s0, s1, h⟩ := h
      by_cases b1 : (!g175_0 (↑(UInt8.toNat (List.getD (Array.toList (ByteArray.data x0)) (Int.toNat v3) 0)) : Int)) = true
      · rw [if_pos b1] at h
        obtain ⟨s2, s3, h⟩ := h
        by_cases b2 : (!g67_0 (↑(UInt8.toNat (List.getD (Array.toList (ByteArray.data x0)) (Int.toNat v3) 0)) : Int)) = true
        · rw [if_pos b2] at h
          subst h
          exact AtV.fin Tryd.func148 tabOk ext148Ok mixed (p148_4 v3 x0) ⟨b0, s0, s1, trivial, b1, s2, s3, trivial, b2, trivial⟩
        · rw [if_neg b2] at h
          replace b2 := Bool.eq_false_iff.2 b2
          obtain ⟨s4, h⟩ := h
          exact AtV.runN tabOk ext148Ok mixed (p148_5 v3 x0) ⟨b0, s0, s1, trivial, b1, s2, s3, trivial, b2, s4, trivial⟩ (ih4 _ _ _ h w0 O q)
      · rw [if_neg b1] at h
        replace b1 := Bool.eq_false_iff.2 b1
        obtain ⟨s2, h⟩ := h
        exact AtV.runN tabOk ext148Ok mixed (p148_6 v3 x0) ⟨b0, s0, s1, trivial, b1, rfl, s2, trivial⟩ (ih4 _ _ _ h w0 O q)
    · rw [if_neg b0] at h
      replace b0 := Bool.eq_false_iff.2 b0
      subst h
      exact AtV.fin Tryd.func148 tabOk ext148Ok mixed (p148_7 v3 x0) ⟨b0, trivial⟩



def g148_0 (x0 : ByteArray) : Bool := decide (1 ≤ x0.size) && decide (x0.size ≤ 10) && g175_0 ((bytesOf x0).getD 0 0) && (bytesOf x0).all fun b => g175_0 b || g67_0 b
def P148 (x0 : ByteArray) : Prop := True

theorem top148 (x0 : ByteArray) (hw : Wf .str x0) : R148 (x0.size + 1 + 1) x0 [⟨.bool, g148_0 x0⟩] := by
  have hl := bytesOf_length x0
  rw [R148]
  by_cases h0 : x0 = ByteArray.mk #[]
  · rw [if_pos ((bytes_eq _ _).2 h0)]
    subst h0
    rfl
  · rw [if_neg (fun h => h0 ((bytes_eq _ _).1 h))]
    have hs : 1 ≤ x0.size := by
      rcases Nat.lt_or_ge 0 x0.size with h | h
      · exact h
      · exact absurd (bytesOf_inj (s := x0) (t := ByteArray.mk #[]) (List.eq_nil_of_length_eq_zero (by rw [hl]; omega))) h0
    by_cases h1 : (x0.size : Int) > 10
    · rw [if_pos (by simpa using h1)]
      have : ¬ x0.size ≤ 10 := by omega
      simp [g148_0, this]
    · rw [if_neg (by simpa using h1)]
      refine ⟨by omega, ?_⟩
      rw [byte_get]
      cases h2 : g175_0 ((bytesOf x0).getD 0 0) with
      | false =>
        rw [if_pos (by simp)]
        simp [g148_0, h2, -List.getD_eq_getElem?_getD]
      | true =>
        rw [if_neg (by simp)]
        have key := loop_test (bytesOf x0) 0 (fun b => g175_0 b || g67_0 b) [(⟨.bool, false⟩ : Dyn)] [⟨.bool, true⟩] (fun n i ds => R148_4 n i x0 ds) (fun n => ?_) (fun n i hi hok ds hr => ?_) (fun n i hi hok => ?_)
        · rw [hl] at key
          have e : g148_0 x0 = (bytesOf x0).all fun b => g175_0 b || g67_0 b := by
            have : x0.size ≤ 10 := by omega
            unfold g148_0
            simp only [hs, this, decide_true, Bool.true_and, h2]
          rw [e]
          cases h : (bytesOf x0).all fun b => g175_0 b || g67_0 b with
          | true => rw [if_pos h] at key; exact key
          | false => rw [if_neg (by rw [h]; simp)] at key; exact key
        · show R148_4 (n + 1) ((bytesOf x0).length : Int) x0 _
          rw [R148_4, hl, if_neg (by simp)]
        · rw [R148_4, if_pos (by simp; omega)]
          simp only [Int.toNat_natCast, byte_get]
          generalize (bytesOf x0).getD i 0 = c at *
          refine ⟨by omega, by omega, ?_⟩
          have hu := inR_up (xs := bytesOf x0) (by rw [hl]; exact hw) hi
          cases h3 : g175_0 c with
          | true => rw [if_neg (by simp)]; exact ⟨hu, hr⟩
          | false =>
            rw [if_pos (by simp)]
            rw [h3, Bool.false_or] at hok
            refine ⟨by omega, by omega, ?_⟩
            rw [if_neg (by rw [hok]; simp)]
            exact ⟨hu, hr⟩
        · simp only [Bool.or_eq_false_iff] at hok
          rw [R148_4, if_pos (by simp; omega)]
          simp only [Int.toNat_natCast, byte_get]
          refine ⟨by omega, by omega, ?_⟩
          rw [if_pos (by rw [hok.1]; rfl)]
          refine ⟨by omega, by omega, ?_⟩
          rw [if_pos (by rw [hok.2]; rfl)] <;> trivial

def S148 : Am.Spec := { sig := sig148, pre := fun ⟨x0, _⟩ => P148 x0, res := fun ⟨x0, _⟩ => [⟨Ty.bool, g148_0 x0⟩] }
theorem con148 : Contract Tryd.prog 148 S148 := contract_of Tryd.func148 hb148 (Nat.le_of_ble_eq_true (by kernel_rfl)) (fun ⟨x0, _⟩ h hwf w0 O q =>
  (snd148 _).1 x0 _ (top148 x0 hwf.1) w0 O q)

end Go.Proofs.YtakodkjcmacofaaDoor

/- Function 135 (spec.l29One): its runs between cut points. Written by a program of this repo (gen). -/
set_option linter.unusedVariables false
set_option linter.unusedSimpArgs false
set_option maxRecDepth 100000
namespace Go.Proofs.YtakodkjcmacofaaDoor
open Go Go.Am Go.Proofs
def ext135 : Ext := [(148, S148)]
theorem call135_148 : Callable Tryd.prog 148 := ⟨Tryd.f148, Tryd.func148, by kernel_rfl, by kernel_rfl⟩
theorem ext135Ok : ExtOk Tryd.prog ext135 := ⟨⟨call135_148, con148⟩, trivial⟩
/-! Function 135. -/
noncomputable def b135 : Code := bodyOf Tryd.f135
theorem hb135 : Tryd.f135.body = some b135 := by kernel_rfl
def sig135 : List AT := [AT.p (Ty.cons Ty.str (Ty.cons Ty.str (Ty.cons Ty.str Ty.unit)))]
def tys135 : List Ty := [Ty.bool]
def E135_2 (v3 : Int) (x0 : ByteArray × ByteArray × ByteArray × Unit) : Env := [(0, PV.a (Atom.ptr (Ty.cons Ty.str (Ty.cons Ty.str (Ty.cons Ty.str Ty.unit))) x0)), (3, PV.a (Atom.val (Value.int IntKind.i64 v3)))]
def L135_2 (v3 : Int) (x0 : ByteArray × ByteArray × ByteArray × Unit) : Heap := []
mutual
def R135 : Nat → ByteArray × ByteArray × ByteArray × Unit → List Dyn → Prop
  | 0, _, _ => False
  | n + 1, x0, ds => (R135_2 n (0) (x0) ds)
def R135_2 : Nat → Int → ByteArray × ByteArray × ByteArray × Unit → List Dyn → Prop
  | 0, _, _, _ => False
  | n + 1, v3, x0, ds => (if (Decidable.decide (v3 < (↑(ByteArray.size (Prod.fst (Prod.snd (Prod.snd x0)))) : Int))) = true then ((0 ≤ v3) ∧ (v3 < (↑(ByteArray.size (Prod.fst (Prod.snd (Prod.snd x0)))) : Int)) ∧ (if ((↑(UInt8.toNat (List.getD (Array.toList (ByteArray.data (Prod.fst (Prod.snd (Prod.snd x0))))) (Int.toNat v3) 0)) : Int) == 10) = true then (ds = [Dyn.mk Ty.bool Bool.false]) else ((InR IntKind.i64 (v3 + 1)) ∧ (R135_2 n (v3 + 1) (x0) ds)))) else (if (g148_0 (Prod.fst x0)) = true then (if (g148_0 (Prod.fst (Prod.snd x0))) = true then (ds = [Dyn.mk Ty.bool (Decidable.decide ((↑(ByteArray.size (Prod.fst (Prod.snd (Prod.snd x0)))) : Int) ≤ 400))]) else (ds = [Dyn.mk Ty.bool Bool.false])) else (ds = [Dyn.mk Ty.bool Bool.false])))
end
theorem p135_0 (x0 : ByteArray × ByteArray × ByteArray × Unit) : Am.runN tab ext135 false 40 [] 2000 [] [] [0, 3] [] [] [.code b135] (entE 0 0 sig135 (x0, ())) (entL sig135 (x0, ())) = some (cutAt b135 2, E135_2 (0) (x0), L135_2 (0) (x0), []) := by kernel_rfl
theorem p135_1 (v3 : Int) (x0 : ByteArray × ByteArray × ByteArray × Unit) : runF tab ext135 false 40 [] 2000 [] tys135 Tryd.f135.results [true, true] (cutAt b135 2) (E135_2 v3 x0) (L135_2 v3 x0) = some ([Dyn.mk Ty.bool Bool.false], [], [Decidable.decide (v3 < (↑(ByteArray.size (Prod.fst (Prod.snd (Prod.snd x0)))) : Int)) = Bool.true, 0 ≤ v3, v3 < (↑(ByteArray.size (Prod.fst (Prod.snd (Prod.snd x0)))) : Int), ((↑(UInt8.toNat (List.getD (Array.toList (ByteArray.data (Prod.fst (Prod.snd (Prod.snd x0))))) (Int.toNat v3) 0)) : Int) == 10) = Bool.true]) := by kernel_rfl
theorem p135_2 (v3 : Int) (x0 : ByteArray × ByteArray × ByteArray × Unit) : Am.runN tab ext135 false 40 [] 2000 [] [] [0, 3] [] [true, false] (cutAt b135 2) (E135_2 v3 x0) (L135_2 v3 x0) = some (cutAt b135 2, E135_2 (v3 + 1) (x0), L135_2 (v3 + 1) (x0), [Decidable.decide (v3 < (↑(ByteArray.size (Prod.fst (Prod.snd (Prod.snd x0)))) : Int)) = Bool.true, 0 ≤ v3, v3 < (↑(ByteArray.size (Prod.fst (Prod.snd (Prod.snd x0)))) : Int), ((↑(UInt8.toNat (List.getD (Array.toList (ByteArray.data (Prod.fst (Prod.snd (Prod.snd x0))))) (Int.toNat v3) 0)) : Int) == 10) = Bool.false, InR IntKind.i64 (v3 + 1)]) := by kernel_rfl
theorem p135_3 (v3 : Int) (x0 : ByteArray × ByteArray × ByteArray × Unit) : runF tab ext135 false 40 [] 2000 [] tys135 Tryd.f135.results [false, true, true] (cutAt b135 2) (E135_2 v3 x0) (L135_2 v3 x0) = some ([Dyn.mk Ty.bool (Decidable.decide ((↑(ByteArray.size (Prod.fst (Prod.snd (Prod.snd x0)))) : Int) ≤ 400))], [], [Decidable.decide (v3 < (↑(ByteArray.size (Prod.fst (Prod.snd (Prod.snd x0)))) : Int)) = Bool.false, True, g148_0 (Prod.fst x0) = Bool.true, True, g148_0 (Prod.fst (Prod.snd x0)) = Bool.true]) := by kernel_rfl
theorem p135_4 (v3 : Int) (x0 : ByteArray × ByteArray × ByteArray × Unit) : runF tab ext135 false 40 [] 2000 [] tys135 Tryd.f135.results [false, true, false] (cutAt b135 2) (E135_2 v3 x0) (L135_2 v3 x0) = some ([Dyn.mk Ty.bool Bool.false], [], [Decidable.decide (v3 < (↑(ByteArray.size (Prod.fst (Prod.snd (Prod.snd x0)))) : Int)) = Bool.false, True, g148_0 (Prod.fst x0) = Bool.true, True, g148_0 (Prod.fst (Prod.snd x0)) = Bool.false]) := by kernel_rfl
theorem p135_5 (v3 : Int) (x0 : ByteArray × ByteArray × ByteArray × Unit) : runF tab ext135 false 40 [] 2000 [] tys135 Tryd.f135.results [false, false, false] (cutAt b135 2) (E135_2 v3 x0) (L135_2 v3 x0) = some ([Dyn.mk Ty.bool Bool.false], [], [Decidable.decide (v3 < (↑(ByteArray.size (Prod.fst (Prod.snd (Prod.snd x0)))) : Int)) = Bool.false, True, g148_0 (Prod.fst x0) = Bool.false, Bool.false = Bool.false]) := by kernel_rfl
theorem snd135 : ∀ n, (∀ (x0 : ByteArray × ByteArray × ByteArray × Unit) ds, R135 n x0 ds → ∀ w0 O q, AtV Tryd.prog 135 (PostR ds [] [] q w0 O) 40 w0 O q [] [.code b135] (entE 0 0 sig135 (x0, ())) (entL sig135 (x0, ()))) ∧ (∀ (v3 : Int) (x0 : ByteArray × ByteArray × ByteArray × Unit) ds, R135_2 n v3 x0 ds → ∀ w0 O q, AtV Tryd.prog 135 (PostR ds [] [] q w0 O) 40 w0 O q [] (cutAt b135 2) (E135_2 v3 x0) (L135_2 v3 x0)) := by
  intro n
  induction n with
  | zero => exact ⟨fun _ _ h => by simp only [R135] at h, fun _ _ _ h => by simp only [R135_2] at h⟩
  | succ n ih =>
  obtain ⟨ih, ih2⟩ := ih
  refine ⟨?_, ?_⟩
  · intro x0 ds h w0 O q
    rw [R135] at h
    exact AtV.runN tabOk ext135Ok mixed (p135_0 x0) trivial (ih2 _ _ _ h w0 O q)

  · intro v3 x0 ds h w0 O q
    rw [R135_2] at h
    by_cases b0 : (Decidable.decide (v3 < (↑(ByteArray.size (Prod.fst (Prod.snd (Prod.snd x0)))) : Int))) = true
    · rw [if_pos b0] at h
      obtain ⟨s0, s1, h⟩ := h
      by_cases b1 : ((↑(UInt8.toNat (List.getD (Array.toList (ByteArray.data (Prod.fst (Prod.snd (Prod.snd x0))))) (Int.toNat v3) 0)) : Int) == 10) = true
      · rw [if_pos b1] at h
        subst h
        exact AtV.fin Tryd.func135 tabOk ext135Ok mixed (p135_1 v3 x0) ⟨b0, s0, s1, b1, trivial⟩
      · rw [if_neg b1] at h
        replace b1 := Bool.eq_false_iff.2 b1
        obtain ⟨s2, h⟩ := h
        exact AtV.runN tabOk ext135Ok mixed (p135_2 v3 x0) ⟨b0, s0, s1, b1, s2, trivial⟩ (ih2 _ _ _ h w0 O q)
    · rw [if_neg b0] at h
      replace b0 := Bool.eq_false_iff.2 b0
      by_cases b1 : (g148_0 (Prod.fst x0)) = true
      · rw [if_pos b1] at h
        by_cases b2 : (g148_0 (Prod.fst (Prod.snd x0))) = true
        · rw [if_pos b2] at h
          subst h
          exact AtV.fin Tryd.func135 tabOk ext135Ok mixed (p135_3 v3 x0) ⟨b0, trivial, b1, trivial, b2, trivial⟩
        · rw [if_neg b2] at h
          replace b2 := Bool.eq_false_iff.2 b2
          subst h
          exact AtV.fin Tryd.func135 tabOk ext135Ok mixed (p135_4 v3 x0) ⟨b0, trivial, b1, trivial, b2, trivial⟩
      · rw [if_neg b1] at h
        replace b1 := Bool.eq_false_iff.2 b1
        subst h
        exact AtV.fin Tryd.func135 tabOk ext135Ok mixed (p135_5 v3 x0) ⟨b0, trivial, b1, rfl, trivial⟩



def g135_0 (x0 : ByteArray × ByteArray × ByteArray × Unit) : Bool := (bytesOf x0.2.2.1).all (fun b => !(b == 10)) && g148_0 x0.1 && g148_0 x0.2.1 && decide (x0.2.2.1.size ≤ 400)
def P135 (x0 : ByteArray × ByteArray × ByteArray × Unit) : Prop := True

theorem top135 (x0 : ByteArray × ByteArray × ByteArray × Unit) (hw : Wf (.cons .str (.cons .str (.cons .str .unit))) x0) : R135 (x0.2.2.1.size + 1 + 1) x0 [⟨.bool, g135_0 x0⟩] := by
  have hl := bytesOf_length x0.2.2.1
  have hw3 : Wf .str x0.2.2.1 := hw.2.2.1
  rw [R135]
  have key := loop_test (bytesOf x0.2.2.1) 0 (fun b => !(b == 10)) [(⟨.bool, false⟩ : Dyn)] [⟨.bool, g148_0 x0.1 && g148_0 x0.2.1 && decide (x0.2.2.1.size ≤ 400)⟩] (fun n i ds => R135_2 n i x0 ds) (fun n => ?_) (fun n i hi hok ds hr => ?_) (fun n i hi hok => ?_)
  · rw [hl] at key
    unfold g135_0
    cases h : (bytesOf x0.2.2.1).all fun b => !(b == 10) with
    | true => rw [if_pos h] at key; simpa using key
    | false => rw [if_neg (by rw [h]; simp)] at key; simpa using key
  · show R135_2 (n + 1) ((bytesOf x0.2.2.1).length : Int) x0 _
    rw [R135_2, hl, if_neg (by simp)]
    have hc : decide ((x0.2.2.1.size : Int) ≤ 400) = decide (x0.2.2.1.size ≤ 400) := by
      congr 1; exact propext ⟨fun h => by omega, fun h => by omega⟩
    rw [hc]
    cases g148_0 x0.1 <;> cases g148_0 x0.2.1 <;> simp
  · rw [R135_2, if_pos (by simp; omega)]
    simp only [Int.toNat_natCast, byte_get]
    refine ⟨by omega, by omega, ?_⟩
    rw [if_neg (by intro h; rw [h] at hok; cases hok)]
    exact ⟨inR_up (xs := bytesOf x0.2.2.1) (by rw [hl]; exact hw3) hi, hr⟩
  · rw [R135_2, if_pos (by simp; omega)]
    simp only [Int.toNat_natCast, byte_get]
    refine ⟨by omega, by omega, ?_⟩
    rw [if_pos (by rw [Bool.not_eq_false'] at hok; exact hok)] <;> trivial

def S135 : Am.Spec := { sig := sig135, pre := fun ⟨x0, _⟩ => P135 x0, res := fun ⟨x0, _⟩ => [⟨Ty.bool, g135_0 x0⟩] }
theorem con135 : Contract Tryd.prog 135 S135 := contract_of Tryd.func135 hb135 (Nat.le_of_ble_eq_true (by kernel_rfl)) (fun ⟨x0, _⟩ h hwf w0 O q =>
  (snd135 _).1 x0 _ (top135 x0 hwf.1) w0 O q)

end Go.Proofs.YtakodkjcmacofaaDoor

/- Function 136 (spec.l29Before): its runs between cut points. Written by a program of this repo (gen). -/
set_option linter.unusedVariables false
set_option linter.unusedSimpArgs false
set_option maxRecDepth 100000
namespace Go.Proofs.YtakodkjcmacofaaDoor
open Go Go.Am Go.Proofs
def ext136 : Ext := []
theorem ext136Ok : ExtOk Tryd.prog ext136 := trivial
/-! Function 136. -/
noncomputable def b136 : Code := bodyOf Tryd.f136
theorem hb136 : Tryd.f136.body = some b136 := by kernel_rfl
def sig136 : List AT := [AT.p (Ty.cons Ty.str (Ty.cons Ty.str (Ty.cons Ty.str Ty.unit))), AT.p (Ty.cons Ty.str (Ty.cons Ty.str (Ty.cons Ty.str Ty.unit)))]
def tys136 : List Ty := [Ty.bool]
def P136 (x0 : ByteArray × ByteArray × ByteArray × Unit) (x1 : ByteArray × ByteArray × ByteArray × Unit) : Prop := True
def g136_0 (x0 : ByteArray × ByteArray × ByteArray × Unit) (x1 : ByteArray × ByteArray × ByteArray × Unit) : Bool := (if (Op.bytesLess (ByteArray.toList (Prod.fst x0)) (ByteArray.toList (Prod.fst x1))) = true then Bool.true else (if (ByteArray.toList (Prod.fst x0) == ByteArray.toList (Prod.fst x1)) = true then Op.bytesLess (ByteArray.toList (Prod.fst (Prod.snd x0))) (ByteArray.toList (Prod.fst (Prod.snd x1))) else Bool.false))
theorem p136_0 (x0 : ByteArray × ByteArray × ByteArray × Unit) (x1 : ByteArray × ByteArray × ByteArray × Unit) : runF tab ext136 false 36 [] 2000 [] tys136 Tryd.f136.results [true] [.code b136] (entE 0 0 sig136 (x0, x1, ())) (entL sig136 (x0, x1, ())) = some ([Dyn.mk Ty.bool Bool.true], [], [Op.bytesLess (ByteArray.toList (Prod.fst x0)) (ByteArray.toList (Prod.fst x1)) = Bool.true]) := by kernel_rfl
theorem p136_1 (x0 : ByteArray × ByteArray × ByteArray × Unit) (x1 : ByteArray × ByteArray × ByteArray × Unit) : runF tab ext136 false 36 [] 2000 [] tys136 Tryd.f136.results [false, true] [.code b136] (entE 0 0 sig136 (x0, x1, ())) (entL sig136 (x0, x1, ())) = some ([Dyn.mk Ty.bool (Op.bytesLess (ByteArray.toList (Prod.fst (Prod.snd x0))) (ByteArray.toList (Prod.fst (Prod.snd x1))))], [], [Op.bytesLess (ByteArray.toList (Prod.fst x0)) (ByteArray.toList (Prod.fst x1)) = Bool.false, (ByteArray.toList (Prod.fst x0) == ByteArray.toList (Prod.fst x1)) = Bool.true]) := by kernel_rfl
theorem p136_2 (x0 : ByteArray × ByteArray × ByteArray × Unit) (x1 : ByteArray × ByteArray × ByteArray × Unit) : runF tab ext136 false 36 [] 2000 [] tys136 Tryd.f136.results [false, false] [.code b136] (entE 0 0 sig136 (x0, x1, ())) (entL sig136 (x0, x1, ())) = some ([Dyn.mk Ty.bool Bool.false], [], [Op.bytesLess (ByteArray.toList (Prod.fst x0)) (ByteArray.toList (Prod.fst x1)) = Bool.false, (ByteArray.toList (Prod.fst x0) == ByteArray.toList (Prod.fst x1)) = Bool.false]) := by kernel_rfl
theorem at136 (x0 : ByteArray × ByteArray × ByteArray × Unit) (x1 : ByteArray × ByteArray × ByteArray × Unit) (h : P136 x0 x1) (w0 : World) (O : List Nat) (q : Nat → Value) : AtV Tryd.prog 136 (PostR [⟨Ty.bool, g136_0 x0 x1⟩] [] [] q w0 O) 36 w0 O q [] [.code b136] (entE 0 0 sig136 (x0, x1, ())) (entL sig136 (x0, x1, ())) := by
  unfold P136 at h
  unfold g136_0
  by_cases b0 : (Op.bytesLess (ByteArray.toList (Prod.fst x0)) (ByteArray.toList (Prod.fst x1))) = true
  · try simp only [if_pos b0] at h ⊢
    exact AtV.fin Tryd.func136 tabOk ext136Ok mixed (p136_0 x0 x1) ⟨b0, trivial⟩
  · try simp only [if_neg b0] at h ⊢
    replace b0 := Bool.eq_false_iff.2 b0
    by_cases b1 : (ByteArray.toList (Prod.fst x0) == ByteArray.toList (Prod.fst x1)) = true
    · try simp only [if_pos b1] at h ⊢
      exact AtV.fin Tryd.func136 tabOk ext136Ok mixed (p136_1 x0 x1) ⟨b0, b1, trivial⟩
    · try simp only [if_neg b1] at h ⊢
      replace b1 := Bool.eq_false_iff.2 b1
      exact AtV.fin Tryd.func136 tabOk ext136Ok mixed (p136_2 x0 x1) ⟨b0, b1, trivial⟩

def S136 : Am.Spec := { sig := sig136, pre := fun ⟨x0, x1, _⟩ => P136 x0 x1, res := fun ⟨x0, x1, _⟩ => [⟨Ty.bool, g136_0 x0 x1⟩] }
theorem con136 : Contract Tryd.prog 136 S136 := contract_of Tryd.func136 hb136 (Nat.le_of_ble_eq_true (by kernel_rfl)) (fun ⟨x0, x1, _⟩ h _ w0 O q => at136 x0 x1 h w0 O q)


end Go.Proofs.YtakodkjcmacofaaDoor

/- Function 89 (spec.l29Ok): its runs between cut points. Written by a program of this repo (gen). -/
set_option linter.unusedVariables false
set_option linter.unusedSimpArgs false
set_option maxRecDepth 100000
namespace Go.Proofs.YtakodkjcmacofaaDoor
open Go Go.Am Go.Proofs
def ext89 : Ext := [(135, S135), (136, S136)]
theorem call89_135 : Callable Tryd.prog 135 := ⟨Tryd.f135, Tryd.func135, by kernel_rfl, by kernel_rfl⟩
theorem call89_136 : Callable Tryd.prog 136 := ⟨Tryd.f136, Tryd.func136, by kernel_rfl, by kernel_rfl⟩
theorem ext89Ok : ExtOk Tryd.prog ext89 := ⟨⟨call89_135, con135⟩, ⟨call89_136, con136⟩, trivial⟩
/-! Function 89. -/
noncomputable def b89 : Code := bodyOf Tryd.f89
theorem hb89 : Tryd.f89.body = some b89 := by kernel_rfl
def sig89 : List AT := [AT.v (Ty.sl (Ty.cons Ty.str (Ty.cons Ty.str (Ty.cons Ty.str Ty.unit))))]
def tys89 : List Ty := [Ty.bool]
def E89_2 (v3 : Int) (x0 : List (ByteArray × ByteArray × ByteArray × Unit)) : Env := [(0, PV.a (Atom.sl (Ty.cons Ty.str (Ty.cons Ty.str (Ty.cons Ty.str Ty.unit))) x0)), (3, PV.a (Atom.val (Value.int IntKind.i64 v3)))]
def L89_2 (v3 : Int) (x0 : List (ByteArray × ByteArray × ByteArray × Unit)) : Heap := []
mutual
def R89 : Nat → List (ByteArray × ByteArray × ByteArray × Unit) → List Dyn → Prop
  | 0, _, _ => False
  | n + 1, x0, ds => (R89_2 n (0) (x0) ds)
def R89_2 : Nat → Int → List (ByteArray × ByteArray × ByteArray × Unit) → List Dyn → Prop
  | 0, _, _, _ => False
  | n + 1, v3, x0, ds => (if (Decidable.decide (v3 < (↑(List.length x0) : Int))) = true then ((0 ≤ v3) ∧ (v3 < (↑(List.length x0) : Int)) ∧ (if (!g135_0 (List.getD x0 (Int.toNat v3) (ByteArray.empty, ByteArray.empty, ByteArray.empty, ()))) = true then (ds = [Dyn.mk Ty.bool Bool.false]) else (if (Decidable.decide (v3 > 0)) = true then ((InR IntKind.i64 (v3 - 1)) ∧ ((0 ≤ v3 - 1) ∧ (v3 - 1 < (↑(List.length x0) : Int)) ∧ ((0 ≤ v3) ∧ (v3 < (↑(List.length x0) : Int)) ∧ (if (!g136_0 (List.getD x0 (Int.toNat (v3 - 1)) (ByteArray.empty, ByteArray.empty, ByteArray.empty, ())) (List.getD x0 (Int.toNat v3) (ByteArray.empty, ByteArray.empty, ByteArray.empty, ()))) = true then (ds = [Dyn.mk Ty.bool Bool.false]) else ((InR IntKind.i64 (v3 + 1)) ∧ (R89_2 n (v3 + 1) (x0) ds)))))) else ((InR IntKind.i64 (v3 + 1)) ∧ (R89_2 n (v3 + 1) (x0) ds))))) else (ds = [Dyn.mk Ty.bool (Decidable.decide ((↑(List.length x0) : Int) ≤ 32))]))
end
theorem p89_0 (x0 : List (ByteArray × ByteArray × ByteArray × Unit)) : Am.runN tab ext89 false 33 [] 2000 [] [] [0, 3] [] [] [.code b89] (entE 0 0 sig89 (x0, ())) (entL sig89 (x0, ())) = some (cutAt b89 2, E89_2 (0) (x0), L89_2 (0) (x0), []) := by kernel_rfl
theorem p89_1 (v3 : Int) (x0 : List (ByteArray × ByteArray × ByteArray × Unit)) : runF tab ext89 false 33 [] 2000 [] tys89 Tryd.f89.results [true, true, true] (cutAt b89 2) (E89_2 v3 x0) (L89_2 v3 x0) = some ([Dyn.mk Ty.bool Bool.false], [], [Decidable.decide (v3 < (↑(List.length x0) : Int)) = Bool.true, 0 ≤ v3, v3 < (↑(List.length x0) : Int), True, (!g135_0 (List.getD x0 (Int.toNat v3) (ByteArray.empty, ByteArray.empty, ByteArray.empty, ()))) = Bool.true, Bool.true = Bool.true]) := by kernel_rfl
theorem p89_2 (v3 : Int) (x0 : List (ByteArray × ByteArray × ByteArray × Unit)) : runF tab ext89 false 33 [] 2000 [] tys89 Tryd.f89.results [true, false, true, true] (cutAt b89 2) (E89_2 v3 x0) (L89_2 v3 x0) = some ([Dyn.mk Ty.bool Bool.false], [], [Decidable.decide (v3 < (↑(List.length x0) : Int)) = Bool.true, 0 ≤ v3, v3 < (↑(List.length x0) : Int), True, (!g135_0 (List.getD x0 (Int.toNat v3) (ByteArray.empty, ByteArray.empty, ByteArray.empty, ()))) = Bool.false, Decidable.decide (v3 > 0) = Bool.true, InR IntKind.i64 (v3 - 1), 0 ≤ v3 - 1, v3 - 1 < (↑(List.length x0) : Int), 0 ≤ v3, v3 < (↑(List.length x0) : Int), True, (!g136_0 (List.getD x0 (Int.toNat (v3 - 1)) (ByteArray.empty, ByteArray.empty, ByteArray.empty, ())) (List.getD x0 (Int.toNat v3) (ByteArray.empty, ByteArray.empty, ByteArray.empty, ()))) = Bool.true]) := by kernel_rfl
theorem p89_3 (v3 : Int) (x0 : List (ByteArray × ByteArray × ByteArray × Unit)) : Am.runN tab ext89 false 33 [] 2000 [] [] [0, 3] [] [true, false, true, false] (cutAt b89 2) (E89_2 v3 x0) (L89_2 v3 x0) = some (cutAt b89 2, E89_2 (v3 + 1) (x0), L89_2 (v3 + 1) (x0), [Decidable.decide (v3 < (↑(List.length x0) : Int)) = Bool.true, 0 ≤ v3, v3 < (↑(List.length x0) : Int), True, (!g135_0 (List.getD x0 (Int.toNat v3) (ByteArray.empty, ByteArray.empty, ByteArray.empty, ()))) = Bool.false, Decidable.decide (v3 > 0) = Bool.true, InR IntKind.i64 (v3 - 1), 0 ≤ v3 - 1, v3 - 1 < (↑(List.length x0) : Int), 0 ≤ v3, v3 < (↑(List.length x0) : Int), True, (!g136_0 (List.getD x0 (Int.toNat (v3 - 1)) (ByteArray.empty, ByteArray.empty, ByteArray.empty, ())) (List.getD x0 (Int.toNat v3) (ByteArray.empty, ByteArray.empty, ByteArray.empty, ()))) = Bool.false, InR IntKind.i64 (v3 + 1)]) := by kernel_rfl
theorem p89_4 (v3 : Int) (x0 : List (ByteArray × ByteArray × ByteArray × Unit)) : Am.runN tab ext89 false 33 [] 2000 [] [] [0, 3] [] [true, false, false, false] (cutAt b89 2) (E89_2 v3 x0) (L89_2 v3 x0) = some (cutAt b89 2, E89_2 (v3 + 1) (x0), L89_2 (v3 + 1) (x0), [Decidable.decide (v3 < (↑(List.length x0) : Int)) = Bool.true, 0 ≤ v3, v3 < (↑(List.length x0) : Int), True, (!g135_0 (List.getD x0 (Int.toNat v3) (ByteArray.empty, ByteArray.empty, ByteArray.empty, ()))) = Bool.false, Decidable.decide (v3 > 0) = Bool.false, Bool.false = Bool.false, InR IntKind.i64 (v3 + 1)]) := by kernel_rfl
theorem p89_5 (v3 : Int) (x0 : List (ByteArray × ByteArray × ByteArray × Unit)) : runF tab ext89 false 33 [] 2000 [] tys89 Tryd.f89.results [false] (cutAt b89 2) (E89_2 v3 x0) (L89_2 v3 x0) = some ([Dyn.mk Ty.bool (Decidable.decide ((↑(List.length x0) : Int) ≤ 32))], [], [Decidable.decide (v3 < (↑(List.length x0) : Int)) = Bool.false]) := by kernel_rfl
theorem snd89 : ∀ n, (∀ (x0 : List (ByteArray × ByteArray × ByteArray × Unit)) ds, R89 n x0 ds → ∀ w0 O q, AtV Tryd.prog 89 (PostR ds [] [] q w0 O) 33 w0 O q [] [.code b89] (entE 0 0 sig89 (x0, ())) (entL sig89 (x0, ()))) ∧ (∀ (v3 : Int) (x0 : List (ByteArray × ByteArray × ByteArray × Unit)) ds, R89_2 n v3 x0 ds → ∀ w0 O q, AtV Tryd.prog 89 (PostR ds [] [] q w0 O) 33 w0 O q [] (cutAt b89 2) (E89_2 v3 x0) (L89_2 v3 x0)) := by
  intro n
  induction n with
  | zero => exact ⟨fun _ _ h => by simp only [R89] at h, fun _ _ _ h => by simp only [R89_2] at h⟩
  | succ n ih =>
  obtain ⟨ih, ih2⟩ := ih
  refine ⟨?_, ?_⟩
  · intro x0 ds h w0 O q
    rw [R89] at h
    exact AtV.runN tabOk ext89Ok mixed (p89_0 x0) trivial (ih2 _ _ _ h w0 O q)

  · intro v3 x0 ds h w0 O q
    rw [R89_2] at h
    by_cases b0 : (Decidable.decide (v3 < (↑(List.length x0) : Int))) = true
    · rw [if_pos b0] at h
      obtain ⟨s0, s1, h⟩ := h
      by_cases b1 : (!g135_0 (List.getD x0 (Int.toNat v3) (ByteArray.empty, ByteArray.empty, ByteArray.empty, ()))) = true
      · rw [if_pos b1] at h
        subst h
        exact AtV.fin Tryd.func89 tabOk ext89Ok mixed (p89_1 v3 x0) ⟨b0, s0, s1, trivial, b1, rfl, trivial⟩
      · rw [if_neg b1] at h
        replace b1 := Bool.eq_false_iff.2 b1
        by_cases b2 : (Decidable.decide (v3 > 0)) = true
        · rw [if_pos b2] at h
          obtain ⟨s2, h⟩ := h
          obtain ⟨s3, s4, h⟩ := h
          obtain ⟨s5, s6, h⟩ := h
          by_cases b3 : (!g136_0 (List.getD x0 (Int.toNat (v3 - 1)) (ByteArray.empty, ByteArray.empty, ByteArray.empty, ())) (List.getD x0 (Int.toNat v3) (ByteArray.empty, ByteArray.empty, ByteArray.empty, ()))) = true
          · rw [if_pos b3] at h
            subst h
            exact AtV.fin Tryd.func89 tabOk ext89Ok mixed (p89_2 v3 x0) ⟨b0, s0, s1, trivial, b1, b2, s2, s3, s4, s5, s6, trivial, b3, trivial⟩
          · rw [if_neg b3] at h
            replace b3 := Bool.eq_false_iff.2 b3
            obtain ⟨s7, h⟩ := h
            exact AtV.runN tabOk ext89Ok mixed (p89_3 v3 x0) ⟨b0, s0, s1, trivial, b1, b2, s2, s3, s4, s5, s6, trivial, b3, s7, trivial⟩ (ih2 _ _ _ h w0 O q)
        · rw [if_neg b2] at h
          replace b2 := Bool.eq_false_iff.2 b2
          obtain ⟨s2, h⟩ := h
          exact AtV.runN tabOk ext89Ok mixed (p89_4 v3 x0) ⟨b0, s0, s1, trivial, b1, b2, rfl, s2, trivial⟩ (ih2 _ _ _ h w0 O q)
    · rw [if_neg b0] at h
      replace b0 := Bool.eq_false_iff.2 b0
      subst h
      exact AtV.fin Tryd.func89 tabOk ext89Ok mixed (p89_5 v3 x0) ⟨b0, trivial⟩



/-- A block at its place. -/
def ok89 (x0 : List (ByteArray × ByteArray × ByteArray × Unit)) (i : Nat) (x : ByteArray × ByteArray × ByteArray × Unit) : Bool :=
  g135_0 x && (i == 0 || g136_0 (x0.getD (i - 1) (ByteArray.empty, ByteArray.empty, ByteArray.empty, ())) x)
def g89_0 (x0 : List (ByteArray × ByteArray × ByteArray × Unit)) : Bool := allI (ok89 x0) 0 x0 && decide (x0.length ≤ 32)
def P89 (x0 : List (ByteArray × ByteArray × ByteArray × Unit)) : Prop := True

theorem step89 (n i : Nat) (x0 : List (ByteArray × ByteArray × ByteArray × Unit)) (hm : x0.length ≤ maxLen) (hi : i < x0.length) (ds : List Dyn) :
    (if ok89 x0 i (x0.getD i (ByteArray.empty, ByteArray.empty, ByteArray.empty, ())) = true then R89_2 n ((i : Int) + 1) x0 ds else ds = [⟨.bool, false⟩]) → R89_2 (n + 1) (i : Int) x0 ds := by
  intro h
  have hu := inR_up hm hi
  rw [R89_2, if_pos (by simp; omega)]
  refine ⟨by omega, by omega, ?_⟩
  simp only [Int.toNat_natCast]
  unfold ok89 at h
  cases h1 : g135_0 (x0.getD i (ByteArray.empty, ByteArray.empty, ByteArray.empty, ())) with
  | false =>
    rw [h1] at h
    rw [if_pos (by rfl)]
    simpa using h
  | true =>
    rw [h1] at h
    rw [if_neg (by simp)]
    by_cases h0 : (i : Int) > 0
    · rw [if_pos (by simpa using h0)]
      have hi0 : (i == 0) = false := by simp; omega
      have e : ((i : Int) - 1).toNat = i - 1 := by omega
      refine ⟨by rw [i64_iff]; have : maxLen ≤ 9223372036854775807 := by decide
                 omega, by omega, by omega, by omega, by omega, ?_⟩
      rw [e]
      by_cases h2 : g136_0 (x0.getD (i - 1) (ByteArray.empty, ByteArray.empty, ByteArray.empty, ())) (x0.getD i (ByteArray.empty, ByteArray.empty, ByteArray.empty, ())) = true
      · rw [h2, hi0] at h
        rw [if_neg (by rw [h2]; simp)]
        exact ⟨hu, by simpa using h⟩
      · have h2 := Bool.eq_false_iff.2 h2
        rw [h2, hi0] at h
        rw [if_pos (by rw [h2]; rfl)]
        simpa using h
    · rw [if_neg (by simpa using h0)]
      have hi0 : (i == 0) = true := by simp; omega
      rw [hi0] at h
      exact ⟨hu, by simpa using h⟩

theorem top89 (x0 : List (ByteArray × ByteArray × ByteArray × Unit)) (hw : x0.length ≤ maxLen) : R89 (x0.length + 1 + 1) x0 [⟨.bool, g89_0 x0⟩] := by
  rw [R89]
  have key := loop_testI x0 (ByteArray.empty, ByteArray.empty, ByteArray.empty, ()) (ok89 x0) [(⟨.bool, false⟩ : Dyn)] [⟨.bool, decide (x0.length ≤ 32)⟩] (fun n i ds => R89_2 n i x0 ds) (fun n => ?_) (fun n i hi hok ds hr => ?_) (fun n i hi hok => ?_)
  · unfold g89_0
    cases h : allI (ok89 x0) 0 x0 with
    | true => rw [if_pos h] at key; simpa using key
    | false => rw [if_neg (by rw [h]; simp)] at key; simpa using key
  · rw [R89_2, if_neg (by simp)]
    have hc : decide ((x0.length : Int) ≤ 32) = decide (x0.length ≤ 32) := by
      congr 1; exact propext ⟨fun h => by omega, fun h => by omega⟩
    rw [hc]
  · exact step89 n i x0 hw hi ds (by rw [if_pos hok]; exact hr)
  · exact step89 n i x0 hw hi _ (by rw [if_neg (by rw [hok]; simp)])

def S89 : Am.Spec := { sig := sig89, pre := fun ⟨x0, _⟩ => P89 x0, res := fun ⟨x0, _⟩ => [⟨Ty.bool, g89_0 x0⟩] }
theorem con89 : Contract Tryd.prog 89 S89 := contract_of Tryd.func89 hb89 (Nat.le_of_ble_eq_true (by kernel_rfl)) (fun ⟨x0, _⟩ h hwf w0 O q =>
  (snd89 _).1 x0 _ (top89 x0 hwf.1.1) w0 O q)

end Go.Proofs.YtakodkjcmacofaaDoor

/- Function 129 (spec.l01Dec): its runs between cut points. Written by a program of this repo (gen). -/
set_option linter.unusedVariables false
set_option linter.unusedSimpArgs false
set_option maxRecDepth 100000
namespace Go.Proofs.YtakodkjcmacofaaDoor
open Go Go.Am Go.Proofs
def ext129 : Ext := []
theorem ext129Ok : ExtOk Tryd.prog ext129 := trivial
/-! Function 129. -/
noncomputable def b129 : Code := bodyOf Tryd.f129
theorem hb129 : Tryd.f129.body = some b129 := by kernel_rfl
def sig129 : List AT := [AT.v (Ty.int IntKind.i64)]
def tys129 : List Ty := [Ty.str]
def E129_5 (v4 : Int) (h0 : List Int) (x0 : Int) : Env := [(0, PV.a (Atom.val (Value.int IntKind.i64 x0))), (3, PV.a (Atom.osl 0 Option.none)), (4, PV.a (Atom.val (Value.int IntKind.i64 v4)))]
def L129_5 (v4 : Int) (h0 : List Int) (x0 : Int) : Heap := [Option.some (Arr.mk (Ty.int IntKind.u8) h0 Bool.false)]
def E129_15 (v7 : Int) (h0 : List Int) (h1 : List Int) : Env := [(3, PV.a (Atom.osl 0 Option.none)), (6, PV.a (Atom.osl 1 Option.none)), (7, PV.a (Atom.val (Value.int IntKind.i64 v7)))]
def L129_15 (v7 : Int) (h0 : List Int) (h1 : List Int) : Heap := [Option.some (Arr.mk (Ty.int IntKind.u8) h0 Bool.false), Option.some (Arr.mk (Ty.int IntKind.u8) h1 Bool.false)]
mutual
def R129 : Nat → Int → List Dyn → Prop
  | 0, _, _ => False
  | n + 1, x0, ds => (if (x0 == 0) = true then (ds = [Dyn.mk Ty.str (ByteArray.mk #[48])]) else (R129_5 n (x0) ([]) (x0) ds))
def R129_5 : Nat → Int → List Int → Int → List Dyn → Prop
  | 0, _, _, _, _ => False
  | n + 1, v4, h0, x0, ds => (if (v4 != 0) = true then ((InR IntKind.i64 (Int.tmod v4 10)) ∧ (if (Decidable.decide (Int.tmod v4 10 < 0)) = true then ((InR IntKind.i64 (0 - Int.tmod v4 10)) ∧ ((InR IntKind.i64 (48 + (0 - Int.tmod v4 10))) ∧ ((InR IntKind.u8 (48 + (0 - Int.tmod v4 10))) ∧ (((List.length h0 + 1) * 1 ≤ 140737488355328) ∧ ((InR IntKind.i64 (Int.tdiv v4 10)) ∧ (R129_5 n (Int.tdiv v4 10) (h0 ++ [48 + (0 - Int.tmod v4 10)]) (x0) ds)))))) else ((InR IntKind.i64 (48 + Int.tmod v4 10)) ∧ ((InR IntKind.u8 (48 + Int.tmod v4 10)) ∧ (((List.length h0 + 1) * 1 ≤ 140737488355328) ∧ ((InR IntKind.i64 (Int.tdiv v4 10)) ∧ (R129_5 n (Int.tdiv v4 10) (h0 ++ [48 + Int.tmod v4 10]) (x0) ds))))))) else (if (Decidable.decide (x0 < 0)) = true then (((List.length h0 + 1) * 1 ≤ 140737488355328) ∧ ((InR IntKind.i64 ((↑(List.length (h0 ++ [45])) : Int) - 1)) ∧ (R129_15 n ((↑(List.length (h0 ++ [45])) : Int) - 1) (h0 ++ [45]) ([]) ds))) else ((InR IntKind.i64 ((↑(List.length h0) : Int) - 1)) ∧ (R129_15 n ((↑(List.length h0) : Int) - 1) (h0) ([]) ds))))
def R129_15 : Nat → Int → List Int → List Int → List Dyn → Prop
  | 0, _, _, _, _ => False
  | n + 1, v7, h0, h1, ds => (if (Decidable.decide (v7 ≥ 0)) = true then ((0 ≤ v7) ∧ (v7 < (↑(List.length h0) : Int)) ∧ (((List.length h1 + 1) * 1 ≤ 140737488355328) ∧ ((InR IntKind.i64 (v7 - 1)) ∧ (R129_15 n (v7 - 1) (h0) (h1 ++ [List.getD h0 (Int.toNat v7) 0]) ds)))) else (ds = [Dyn.mk Ty.str (bytesStr h1)]))
end
theorem p129_0 (x0 : Int) : runF tab ext129 false 50 [] 2000 [] tys129 Tryd.f129.results [true] [.code b129] (entE 0 0 sig129 (x0, ())) (entL sig129 (x0, ())) = some ([Dyn.mk Ty.str (ByteArray.mk #[48])], [], [(x0 == 0) = Bool.true]) := by kernel_rfl
theorem p129_1 (x0 : Int) : Am.runN tab ext129 false 50 [] 2000 [] [] [0, 3, 4] [0] [false] [.code b129] (entE 0 0 sig129 (x0, ())) (entL sig129 (x0, ())) = some (cutAt b129 5, E129_5 (x0) ([]) (x0), L129_5 (x0) ([]) (x0), [(x0 == 0) = Bool.false]) := by kernel_rfl
theorem p129_2 (v4 : Int) (h0 : List Int) (x0 : Int) : Am.runN tab ext129 false 50 [] 2000 [] [] [0, 3, 4] [0] [true, true] (cutAt b129 5) (E129_5 v4 h0 x0) (L129_5 v4 h0 x0) = some (cutAt b129 5, E129_5 (Int.tdiv v4 10) (h0 ++ [48 + (0 - Int.tmod v4 10)]) (x0), L129_5 (Int.tdiv v4 10) (h0 ++ [48 + (0 - Int.tmod v4 10)]) (x0), [(v4 != 0) = Bool.true, (10 : Int) ≠ (0 : Int), InR IntKind.i64 (Int.tmod v4 10), Decidable.decide (Int.tmod v4 10 < 0) = Bool.true, InR IntKind.i64 (0 - Int.tmod v4 10), InR IntKind.i64 (48 + (0 - Int.tmod v4 10)), InR IntKind.u8 (48 + (0 - Int.tmod v4 10)), (List.length h0 + 1) * 1 ≤ 140737488355328, (10 : Int) ≠ (0 : Int), InR IntKind.i64 (Int.tdiv v4 10)]) := by kernel_rfl
theorem p129_3 (v4 : Int) (h0 : List Int) (x0 : Int) : Am.runN tab ext129 false 50 [] 2000 [] [] [0, 3, 4] [0] [true, false] (cutAt b129 5) (E129_5 v4 h0 x0) (L129_5 v4 h0 x0) = some (cutAt b129 5, E129_5 (Int.tdiv v4 10) (h0 ++ [48 + Int.tmod v4 10]) (x0), L129_5 (Int.tdiv v4 10) (h0 ++ [48 + Int.tmod v4 10]) (x0), [(v4 != 0) = Bool.true, (10 : Int) ≠ (0 : Int), InR IntKind.i64 (Int.tmod v4 10), Decidable.decide (Int.tmod v4 10 < 0) = Bool.false, InR IntKind.i64 (48 + Int.tmod v4 10), InR IntKind.u8 (48 + Int.tmod v4 10), (List.length h0 + 1) * 1 ≤ 140737488355328, (10 : Int) ≠ (0 : Int), InR IntKind.i64 (Int.tdiv v4 10)]) := by kernel_rfl
theorem p129_4 (v4 : Int) (h0 : List Int) (x0 : Int) : Am.runN tab ext129 false 50 [] 2000 [] [] [3, 6, 7] [0, 2] [false, true] (cutAt b129 5) (E129_5 v4 h0 x0) (L129_5 v4 h0 x0) = some (cutAt b129 15, E129_15 ((↑(List.length (h0 ++ [45])) : Int) - 1) (h0 ++ [45]) ([]), L129_15 ((↑(List.length (h0 ++ [45])) : Int) - 1) (h0 ++ [45]) ([]), [(v4 != 0) = Bool.false, Decidable.decide (x0 < 0) = Bool.true, (List.length h0 + 1) * 1 ≤ 140737488355328, InR IntKind.i64 ((↑(List.length (h0 ++ [45])) : Int) - 1)]) := by kernel_rfl
theorem p129_5 (v4 : Int) (h0 : List Int) (x0 : Int) : Am.runN tab ext129 false 50 [] 2000 [] [] [3, 6, 7] [0, 1] [false, false] (cutAt b129 5) (E129_5 v4 h0 x0) (L129_5 v4 h0 x0) = some (cutAt b129 15, E129_15 ((↑(List.length h0) : Int) - 1) (h0) ([]), L129_15 ((↑(List.length h0) : Int) - 1) (h0) ([]), [(v4 != 0) = Bool.false, Decidable.decide (x0 < 0) = Bool.false, InR IntKind.i64 ((↑(List.length h0) : Int) - 1)]) := by kernel_rfl
theorem p129_6 (v7 : Int) (h0 : List Int) (h1 : List Int) : Am.runN tab ext129 false 50 [] 2000 [] [] [3, 6, 7] [0, 1] [true] (cutAt b129 15) (E129_15 v7 h0 h1) (L129_15 v7 h0 h1) = some (cutAt b129 15, E129_15 (v7 - 1) (h0) (h1 ++ [List.getD h0 (Int.toNat v7) 0]), L129_15 (v7 - 1) (h0) (h1 ++ [List.getD h0 (Int.toNat v7) 0]), [Decidable.decide (v7 ≥ 0) = Bool.true, 0 ≤ v7, v7 < (↑(List.length h0) : Int), (List.length h1 + 1) * 1 ≤ 140737488355328, InR IntKind.i64 (v7 - 1)]) := by kernel_rfl
theorem p129_7 (v7 : Int) (h0 : List Int) (h1 : List Int) : runF tab ext129 false 50 [] 2000 [] tys129 Tryd.f129.results [false] (cutAt b129 15) (E129_15 v7 h0 h1) (L129_15 v7 h0 h1) = some ([Dyn.mk Ty.str (bytesStr h1)], [], [Decidable.decide (v7 ≥ 0) = Bool.false]) := by kernel_rfl
theorem snd129 : ∀ n, (∀ (x0 : Int) ds, R129 n x0 ds → ∀ w0 O q, AtV Tryd.prog 129 (PostR ds [] [] q w0 O) 50 w0 O q [] [.code b129] (entE 0 0 sig129 (x0, ())) (entL sig129 (x0, ()))) ∧ (∀ (v4 : Int) (h0 : List Int) (x0 : Int) ds, R129_5 n v4 h0 x0 ds → ∀ w0 O q, AtV Tryd.prog 129 (PostR ds [] [] q w0 O) 50 w0 O q [] (cutAt b129 5) (E129_5 v4 h0 x0) (L129_5 v4 h0 x0)) ∧ (∀ (v7 : Int) (h0 : List Int) (h1 : List Int) ds, R129_15 n v7 h0 h1 ds → ∀ w0 O q, AtV Tryd.prog 129 (PostR ds [] [] q w0 O) 50 w0 O q [] (cutAt b129 15) (E129_15 v7 h0 h1) (L129_15 v7 h0 h1)) := by
  intro n
  induction n with
  | zero => exact ⟨fun _ _ h => by simp only [R129] at h, fun _ _ _ _ h => by simp only [R129_5] at h, fun _ _ _ _ h => by simp only [R129_15] at h⟩
  | succ n ih =>
  obtain ⟨ih, ih5, ih15⟩ := ih
  refine ⟨?_, ?_, ?_⟩
  · intro x0 ds h w0 O q
    rw [R129] at h
    by_cases b0 : (x0 == 0) = true
    · rw [if_pos b0] at h
      subst h
      exact AtV.fin Tryd.func129 tabOk ext129Ok mixed (p129_0 x0) ⟨b0, trivial⟩
    · rw [if_neg b0] at h
      replace b0 := Bool.eq_false_iff.2 b0
      exact AtV.runN tabOk ext129Ok mixed (p129_1 x0) ⟨b0, trivial⟩ (ih5 _ _ _ _ h w0 O q)

  · intro v4 h0 x0 ds h w0 O q
    rw [R129_5] at h
    by_cases b0 : (v4 != 0) = true
    · rw [if_pos b0] at h
      obtain ⟨s0, h⟩ := h
      by_cases b1 : (Decidable.decide (Int.tmod v4 10 < 0)) = true
      · rw [if_pos b1] at h
        obtain ⟨s1, h⟩ := h
        obtain ⟨s2, h⟩ := h
        obtain ⟨s3, h⟩ := h
        obtain ⟨s4, h⟩ := h
        obtain ⟨s5, h⟩ := h
        exact AtV.runN tabOk ext129Ok mixed (p129_2 v4 h0 x0) ⟨b0, (by decide), s0, b1, s1, s2, s3, s4, (by decide), s5, trivial⟩ (ih5 _ _ _ _ h w0 O q)
      · rw [if_neg b1] at h
        replace b1 := Bool.eq_false_iff.2 b1
        obtain ⟨s1, h⟩ := h
        obtain ⟨s2, h⟩ := h
        obtain ⟨s3, h⟩ := h
        obtain ⟨s4, h⟩ := h
        exact AtV.runN tabOk ext129Ok mixed (p129_3 v4 h0 x0) ⟨b0, (by decide), s0, b1, s1, s2, s3, (by decide), s4, trivial⟩ (ih5 _ _ _ _ h w0 O q)
    · rw [if_neg b0] at h
      replace b0 := Bool.eq_false_iff.2 b0
      by_cases b1 : (Decidable.decide (x0 < 0)) = true
      · rw [if_pos b1] at h
        obtain ⟨s0, h⟩ := h
        obtain ⟨s1, h⟩ := h
        exact AtV.runN tabOk ext129Ok mixed (p129_4 v4 h0 x0) ⟨b0, b1, s0, s1, trivial⟩ (ih15 _ _ _ _ h w0 O q)
      · rw [if_neg b1] at h
        replace b1 := Bool.eq_false_iff.2 b1
        obtain ⟨s0, h⟩ := h
        exact AtV.runN tabOk ext129Ok mixed (p129_5 v4 h0 x0) ⟨b0, b1, s0, trivial⟩ (ih15 _ _ _ _ h w0 O q)

  · intro v7 h0 h1 ds h w0 O q
    rw [R129_15] at h
    by_cases b0 : (Decidable.decide (v7 ≥ 0)) = true
    · rw [if_pos b0] at h
      obtain ⟨s0, s1, h⟩ := h
      obtain ⟨s2, h⟩ := h
      obtain ⟨s3, h⟩ := h
      exact AtV.runN tabOk ext129Ok mixed (p129_6 v7 h0 h1) ⟨b0, s0, s1, s2, s3, trivial⟩ (ih15 _ _ _ _ h w0 O q)
    · rw [if_neg b0] at h
      replace b0 := Bool.eq_false_iff.2 b0
      subst h
      exact AtV.fin Tryd.func129 tabOk ext129Ok mixed (p129_7 v7 h0 h1) ⟨b0, trivial⟩



def g129_0 (x0 : Int) : ByteArray := numB x0
def P129 (x0 : Int) : Prop := True

theorem bstr129 (xs : List Int) : bytesStr xs = ⟨⟨xs.map fun n => UInt8.ofNat n.toNat⟩⟩ := by
  have key : ∀ (xs : List Int) (s : ByteArray), (xs.foldl (fun r n => r.push (UInt8.ofNat n.toNat)) s).data.toList = s.data.toList ++ xs.map fun n => UInt8.ofNat n.toNat := by
    intro xs
    induction xs with
    | nil => intro s; simp
    | cons a r ih =>
      intro s
      rw [List.foldl_cons, ih]
      show (s.data.push _).toList ++ _ = _
      rw [Array.toList_push]
      simp
  apply ByteArray.ext
  apply Array.ext'
  have := key xs ByteArray.empty
  unfold bytesStr
  rw [this]
  rfl
theorem bstrB129 (l : List UInt8) : bytesStr (l.map fun b => (b.toNat : Int)) = ⟨⟨l⟩⟩ := by
  rw [bstr129, List.map_map]
  congr 2
  conv => rhs; rw [← List.map_id l]
  refine List.map_congr_left fun b _ => ?_
  show UInt8.ofNat ((b.toNat : Int)).toNat = b
  rw [Int.toNat_natCast, UInt8.ofNat_toNat]

/-- The digits, the last ahead. -/
def rd129 (m : Nat) : List Int := if h : m = 0 then [] else ((48 + m % 10 : Nat) : Int) :: rd129 (m / 10)
termination_by m
decreasing_by omega
theorem rd0129 : rd129 0 = [] := by rw [rd129, dif_pos rfl]
theorem rds129 {m : Nat} (h : m ≠ 0) : rd129 m = ((48 + m % 10 : Nat) : Int) :: rd129 (m / 10) := by rw [rd129, dif_neg h]
theorem rdl129 : ∀ (k m : Nat), m < 10 ^ k → (rd129 m).length ≤ k
  | 0, m, h => by obtain rfl : m = 0 := by simpa using h
                  rw [rd0129]; exact Nat.le_refl _
  | k + 1, m, h => by
    by_cases h0 : m = 0
    · rw [h0, rd0129]; exact Nat.zero_le _
    · rw [rds129 h0, List.length_cons]
      have := rdl129 k (m / 10) (by rw [Nat.pow_succ] at h; omega)
      omega
theorem rdd129 (m : Nat) (h : m ≠ 0) : bytesStr (rd129 m).reverse = ⟨⟨Lib.decDigits m⟩⟩ := by
  have key : ∀ m : Nat, m ≠ 0 → (rd129 m).reverse = (Lib.decDigits m).map fun b => (b.toNat : Int) := by
    intro m
    induction m using Nat.strongRecOn with
    | _ m ih =>
      intro h
      rw [rds129 h, List.reverse_cons, Lib.decDigits]
      have e : (UInt8.ofNat (48 + m % 10)).toNat = 48 + m % 10 := by rw [UInt8.toNat_ofNat']; omega
      split
      · rename_i hs
        rw [show m / 10 = 0 by omega, rd0129]
        have e' : (UInt8.ofNat (48 + m)).toNat = 48 + m % 10 := by rw [UInt8.toNat_ofNat']; omega
        rw [List.map_singleton, e']
        rfl
      · rw [ih (m / 10) (by omega) (by omega), List.map_append, List.map_singleton, e]
  rw [key m h]
  exact bstrB129 _

theorem back129 (h0 : List Int) : ∀ (j : Nat) (h1 : List Int), j ≤ h0.length → h1.length + j ≤ 64 → R129_15 (j + 1) ((j : Int) - 1) h0 h1 [⟨.str, bytesStr (h1 ++ (h0.take j).reverse)⟩]
  | 0, h1, _, _ => by
    rw [R129_15, if_neg (by decide)]
    simp
  | j + 1, h1, hj, hl => by
    have ih := back129 h0 j (h1 ++ [h0.getD j 0]) (by omega) (by rw [List.length_append, List.length_singleton]; omega)
    have e : ((j + 1 : Nat) : Int) - 1 = (j : Int) := by omega
    rw [R129_15, e, if_pos (by simp only [decide_eq_true_eq]; omega), Int.toNat_natCast]
    refine ⟨by omega, by omega, by omega, by rw [i64_iff]; omega, ?_⟩
    have et : (h0.take (j + 1)).reverse = h0.getD j 0 :: (h0.take j).reverse := by
      have hlt : j < h0.length := by omega
      rw [List.take_add_one, List.getElem?_eq_getElem hlt, List.reverse_append, List.getD_eq_getElem?_getD, List.getElem?_eq_getElem hlt]
      rfl
    rw [et]
    rw [List.append_assoc] at ih
    exact ih

/-- The last part, from the digits on. -/
theorem last129 (x0 : Int) (h0 : List Int) (hl : h0.length ≤ 20) : R129_5 ((if x0 < 0 then h0.length + 1 else h0.length) + 1 + 1) 0 h0 x0 [⟨.str, bytesStr ((if x0 < 0 then h0 ++ [45] else h0)).reverse⟩] := by
  rw [R129_5, if_neg (by decide)]
  by_cases hx : x0 < 0
  · have b := back129 (h0 ++ [45]) (h0.length + 1) [] (by rw [List.length_append, List.length_singleton]; omega) (by simp; omega)
    have e : (h0 ++ [(45 : Int)]).length = h0.length + 1 := by rw [List.length_append, List.length_singleton]
    rw [List.take_of_length_le (by omega)] at b
    simp only [hx, decide_true, if_true]
    rw [e]
    exact ⟨by omega, by rw [i64_iff]; omega, b⟩
  · have b := back129 h0 h0.length [] (Nat.le_refl _) (by simp; omega)
    rw [List.take_of_length_le (Nat.le_refl _)] at b
    simp only [hx, decide_false, Bool.false_eq_true, if_false]
    exact ⟨by rw [i64_iff]; omega, b⟩

theorem run129 (x0 : Int) (ds : List Dyn) (F : List Int) (K : Nat) (hF : R129_5 K 0 F x0 ds) : ∀ (m : Nat) (v : Int) (h0 : List Int), (v = (m : Int) ∨ v = -(m : Int)) → m ≤ 9223372036854775808 → InR .i64 v → h0.length + (rd129 m).length ≤ 20 → h0 ++ rd129 m = F → R129_5 ((rd129 m).length + K) v h0 x0 ds := by
  intro m
  induction m using Nat.strongRecOn with
  | _ m ih =>
    intro v h0 hv hm hi hl he
    by_cases h : m = 0
    · subst h
      obtain rfl : v = 0 := by omega
      rw [rd0129] at he ⊢
      rw [List.append_nil] at he
      rw [he, List.length_nil, Nat.zero_add]
      exact hF
    · have hr := rds129 h
      rw [hr] at he hl ⊢
      rw [List.length_cons] at hl ⊢
      have hne : (v != 0) = true := by
        have : v ≠ 0 := by omega
        simpa using this
      rw [i64_iff] at hi
      have e1 : (rd129 (m / 10)).length + 1 + K = ((rd129 (m / 10)).length + K) + 1 := by omega
      have next : ∀ v', (v' = ((m / 10 : Nat) : Int) ∨ v' = -((m / 10 : Nat) : Int)) → R129_5 ((rd129 (m / 10)).length + K) v' (h0 ++ [((48 + m % 10 : Nat) : Int)]) x0 ds := fun v' hv' =>
        ih (m / 10) (by omega) v' _ hv' (by omega) (by rw [i64_iff]; omega) (by rw [List.length_append, List.length_singleton]; omega) (by rw [List.append_assoc]; exact he)
      rw [e1, R129_5, if_pos hne]
      rcases hv with rfl | rfl
      · have t1 : Int.tmod (m : Int) 10 = ((m % 10 : Nat) : Int) := rfl
        have t2 : Int.tdiv (m : Int) 10 = ((m / 10 : Nat) : Int) := rfl
        rw [t1, t2]
        refine ⟨by rw [i64_iff]; omega, ?_⟩
        rw [if_neg (by simp only [decide_eq_true_eq]; omega)]
        have e2 : 48 + ((m % 10 : Nat) : Int) = ((48 + m % 10 : Nat) : Int) := by omega
        rw [e2]
        exact ⟨by rw [i64_iff]; omega, by rw [u8_iff]; omega, by omega, by rw [i64_iff]; omega, next _ (.inl rfl)⟩
      · have t1 : Int.tmod (-(m : Int)) 10 = -((m % 10 : Nat) : Int) := by rw [Int.neg_tmod]; rfl
        have t2 : Int.tdiv (-(m : Int)) 10 = -((m / 10 : Nat) : Int) := by rw [Int.neg_tdiv]; rfl
        rw [t1, t2]
        refine ⟨by rw [i64_iff]; omega, ?_⟩
        by_cases hz : m % 10 = 0
        · rw [if_neg (by simp only [decide_eq_true_eq]; omega)]
          have e2 : 48 + -((m % 10 : Nat) : Int) = ((48 + m % 10 : Nat) : Int) := by omega
          rw [e2]
          exact ⟨by rw [i64_iff]; omega, by rw [u8_iff]; omega, by omega, by rw [i64_iff]; omega, next _ (.inr rfl)⟩
        · rw [if_pos (by simp only [decide_eq_true_eq]; omega)]
          have e2 : 48 + (0 - -((m % 10 : Nat) : Int)) = ((48 + m % 10 : Nat) : Int) := by omega
          rw [e2]
          exact ⟨by rw [i64_iff]; omega, by rw [i64_iff]; omega, by rw [u8_iff]; omega, by omega, by rw [i64_iff]; omega, next _ (.inr rfl)⟩

theorem top129 (x0 : Int) (hi : InR .i64 x0) : ∃ n, R129 n x0 [⟨.str, g129_0 x0⟩] := by
  unfold g129_0 numB Lib.itoa
  by_cases h : x0 = 0
  · subst h
    refine ⟨1, ?_⟩
    rw [R129, if_pos (by rfl), if_neg (by decide)]
    have e : Lib.decDigits (Int.toNat 0) = [48] := by rw [Lib.decDigits, dif_pos (by decide)]; rfl
    rw [e]
  · have hi' := hi
    rw [i64_iff] at hi'
    have hn : x0.natAbs ≠ 0 := by omega
    have hl := rdl129 19 x0.natAbs (by omega)
    refine ⟨(rd129 x0.natAbs).length + ((if x0 < 0 then (rd129 x0.natAbs).length + 1 else (rd129 x0.natAbs).length) + 1 + 1) + 1, ?_⟩
    rw [R129, if_neg (by simpa using h)]
    have hlast := last129 x0 (rd129 x0.natAbs) (by omega)
    have hrun := run129 x0 _ (rd129 x0.natAbs) _ hlast x0.natAbs x0 [] (by omega) (by omega) hi (by simp; omega) rfl
    have e : bytesStr (if x0 < 0 then rd129 x0.natAbs ++ [45] else rd129 x0.natAbs).reverse = ⟨(if x0 < 0 then 45 :: Lib.decDigits x0.natAbs else Lib.decDigits x0.toNat).toArray⟩ := by
      by_cases hx : x0 < 0
      · rw [if_pos hx, if_pos hx, List.reverse_append]
        show bytesStr ((45 : Int) :: (rd129 x0.natAbs).reverse) = _
        have := rdd129 x0.natAbs hn
        have e0 : bytesStr ((45 : Int) :: (rd129 x0.natAbs).reverse) = ⟨⟨45 :: (bytesStr (rd129 x0.natAbs).reverse).data.toList⟩⟩ := by rw [bstr129, bstr129]; rfl
        rw [e0, this]
      · rw [if_neg hx, if_neg hx, rdd129 x0.natAbs hn, show x0.natAbs = x0.toNat by omega]
    rw [e] at hrun
    exact hrun

def S129 : Am.Spec := { sig := sig129, pre := fun ⟨x0, _⟩ => P129 x0, res := fun ⟨x0, _⟩ => [⟨.str, g129_0 x0⟩] }
theorem con129 : Contract Tryd.prog 129 S129 := contract_of Tryd.func129 hb129 (Nat.le_of_ble_eq_true (by kernel_rfl)) (fun ⟨x0, _⟩ h hwf w0 O q => by
  obtain ⟨n, hn⟩ := top129 x0 hwf.1
  exact (snd129 n).1 x0 _ hn w0 O q)

end Go.Proofs.YtakodkjcmacofaaDoor

/- Function 146 (spec.l01Crc): its runs between cut points. Written by a program of this repo (gen). -/
set_option linter.unusedVariables false
set_option linter.unusedSimpArgs false
set_option maxRecDepth 100000
namespace Go.Proofs.YtakodkjcmacofaaDoor
open Go Go.Am Go.Proofs
def ext146 : Ext := []
theorem ext146Ok : ExtOk Tryd.prog ext146 := trivial
/-! Function 146. -/
noncomputable def b146 : Code := bodyOf Tryd.f146
theorem hb146 : Tryd.f146.body = some b146 := by kernel_rfl
def sig146 : List AT := [AT.v (Ty.str), AT.v (Ty.int IntKind.i64)]
def tys146 : List Ty := [Ty.int IntKind.i64]
def E146_2 (v5 : Int) (x0 : ByteArray) (x1 : Int) : Env := [(0, PV.a (Atom.val (Value.string x0))), (1, PV.a (Atom.val (Value.int IntKind.i64 x1))), (5, PV.a (Atom.val (Value.int IntKind.i64 v5)))]
def L146_2 (v5 : Int) (x0 : ByteArray) (x1 : Int) : Heap := []
def E146_6 (v1 : Int) (v6 : Int) (x0 : ByteArray) (v5 : Int) : Env := [(0, PV.a (Atom.val (Value.string x0))), (1, PV.a (Atom.val (Value.int IntKind.i64 v1))), (5, PV.a (Atom.val (Value.int IntKind.i64 v5))), (6, PV.a (Atom.val (Value.int IntKind.i64 v6)))]
def L146_6 (v1 : Int) (v6 : Int) (x0 : ByteArray) (v5 : Int) : Heap := []
mutual
def R146 : Nat → ByteArray → Int → List Dyn → Prop
  | 0, _, _, _ => False
  | n + 1, x0, x1, ds => (R146_2 n (0) (x0) (x1) ds)
def R146_2 : Nat → Int → ByteArray → Int → List Dyn → Prop
  | 0, _, _, _, _ => False
  | n + 1, v5, x0, x1, ds => (if (Decidable.decide (v5 < (↑(ByteArray.size x0) : Int))) = true then ((0 ≤ v5) ∧ (v5 < (↑(ByteArray.size x0) : Int)) ∧ ((InR IntKind.i64 (↑(UInt8.toNat (List.getD (Array.toList (ByteArray.data x0)) (Int.toNat v5) 0)) : Int)) ∧ (R146_6 n (IntKind.wrap IntKind.i64 (↑(BitVec.toNat (BitVec.ofInt 64 x1 ^^^ BitVec.ofInt 64 (IntKind.wrap IntKind.i64 ((↑(UInt8.toNat (List.getD (Array.toList (ByteArray.data x0)) (Int.toNat v5) 0)) : Int) * 256)))) : Int)) (0) (x0) (v5) ds))) else (ds = [Dyn.mk (Ty.int IntKind.i64) x1]))
def R146_6 : Nat → Int → Int → ByteArray → Int → List Dyn → Prop
  | 0, _, _, _, _, _ => False
  | n + 1, v1, v6, x0, v5, ds => (if (Decidable.decide (v6 < 8)) = true then (if (Decidable.decide (IntKind.wrap IntKind.i64 (v1 * 2) > 65535)) = true then ((InR IntKind.i64 (v6 + 1)) ∧ (R146_6 n (IntKind.wrap IntKind.i64 (↑(BitVec.toNat (BitVec.ofInt 64 (IntKind.wrap IntKind.i64 (↑(BitVec.toNat (BitVec.ofInt 64 (IntKind.wrap IntKind.i64 (v1 * 2)) &&& BitVec.ofInt 64 65535)) : Int)) ^^^ BitVec.ofInt 64 4129)) : Int)) (v6 + 1) (x0) (v5) ds)) else ((InR IntKind.i64 (v6 + 1)) ∧ (R146_6 n (IntKind.wrap IntKind.i64 (v1 * 2)) (v6 + 1) (x0) (v5) ds))) else ((InR IntKind.i64 (v5 + 1)) ∧ (R146_2 n (v5 + 1) (x0) (v1) ds)))
end
theorem p146_0 (x0 : ByteArray) (x1 : Int) : Am.runN tab ext146 false 32 [] 2000 [] [] [0, 1, 5] [] [] [.code b146] (entE 0 0 sig146 (x0, x1, ())) (entL sig146 (x0, x1, ())) = some (cutAt b146 2, E146_2 (0) (x0) (x1), L146_2 (0) (x0) (x1), []) := by kernel_rfl
theorem p146_1 (v5 : Int) (x0 : ByteArray) (x1 : Int) : Am.runN tab ext146 false 32 [] 2000 [] [] [0, 1, 5, 6] [] [true] (cutAt b146 2) (E146_2 v5 x0 x1) (L146_2 v5 x0 x1) = some (cutAt b146 6, E146_6 (IntKind.wrap IntKind.i64 (↑(BitVec.toNat (BitVec.ofInt 64 x1 ^^^ BitVec.ofInt 64 (IntKind.wrap IntKind.i64 ((↑(UInt8.toNat (List.getD (Array.toList (ByteArray.data x0)) (Int.toNat v5) 0)) : Int) * 256)))) : Int)) (0) (x0) (v5), L146_6 (IntKind.wrap IntKind.i64 (↑(BitVec.toNat (BitVec.ofInt 64 x1 ^^^ BitVec.ofInt 64 (IntKind.wrap IntKind.i64 ((↑(UInt8.toNat (List.getD (Array.toList (ByteArray.data x0)) (Int.toNat v5) 0)) : Int) * 256)))) : Int)) (0) (x0) (v5), [Decidable.decide (v5 < (↑(ByteArray.size x0) : Int)) = Bool.true, 0 ≤ v5, v5 < (↑(ByteArray.size x0) : Int), InR IntKind.i64 (↑(UInt8.toNat (List.getD (Array.toList (ByteArray.data x0)) (Int.toNat v5) 0)) : Int), (0 : Int) ≤ (8 : Int)]) := by kernel_rfl
theorem p146_2 (v5 : Int) (x0 : ByteArray) (x1 : Int) : runF tab ext146 false 32 [] 2000 [] tys146 Tryd.f146.results [false] (cutAt b146 2) (E146_2 v5 x0 x1) (L146_2 v5 x0 x1) = some ([Dyn.mk (Ty.int IntKind.i64) x1], [], [Decidable.decide (v5 < (↑(ByteArray.size x0) : Int)) = Bool.false]) := by kernel_rfl
theorem p146_3 (v1 : Int) (v6 : Int) (x0 : ByteArray) (v5 : Int) : Am.runN tab ext146 false 32 [] 2000 [] [] [0, 1, 5, 6] [] [true, true] (cutAt b146 6) (E146_6 v1 v6 x0 v5) (L146_6 v1 v6 x0 v5) = some (cutAt b146 6, E146_6 (IntKind.wrap IntKind.i64 (↑(BitVec.toNat (BitVec.ofInt 64 (IntKind.wrap IntKind.i64 (↑(BitVec.toNat (BitVec.ofInt 64 (IntKind.wrap IntKind.i64 (v1 * 2)) &&& BitVec.ofInt 64 65535)) : Int)) ^^^ BitVec.ofInt 64 4129)) : Int)) (v6 + 1) (x0) (v5), L146_6 (IntKind.wrap IntKind.i64 (↑(BitVec.toNat (BitVec.ofInt 64 (IntKind.wrap IntKind.i64 (↑(BitVec.toNat (BitVec.ofInt 64 (IntKind.wrap IntKind.i64 (v1 * 2)) &&& BitVec.ofInt 64 65535)) : Int)) ^^^ BitVec.ofInt 64 4129)) : Int)) (v6 + 1) (x0) (v5), [Decidable.decide (v6 < 8) = Bool.true, (0 : Int) ≤ (1 : Int), Decidable.decide (IntKind.wrap IntKind.i64 (v1 * 2) > 65535) = Bool.true, InR IntKind.i64 (v6 + 1)]) := by kernel_rfl
theorem p146_4 (v1 : Int) (v6 : Int) (x0 : ByteArray) (v5 : Int) : Am.runN tab ext146 false 32 [] 2000 [] [] [0, 1, 5, 6] [] [true, false] (cutAt b146 6) (E146_6 v1 v6 x0 v5) (L146_6 v1 v6 x0 v5) = some (cutAt b146 6, E146_6 (IntKind.wrap IntKind.i64 (v1 * 2)) (v6 + 1) (x0) (v5), L146_6 (IntKind.wrap IntKind.i64 (v1 * 2)) (v6 + 1) (x0) (v5), [Decidable.decide (v6 < 8) = Bool.true, (0 : Int) ≤ (1 : Int), Decidable.decide (IntKind.wrap IntKind.i64 (v1 * 2) > 65535) = Bool.false, InR IntKind.i64 (v6 + 1)]) := by kernel_rfl
theorem p146_5 (v1 : Int) (v6 : Int) (x0 : ByteArray) (v5 : Int) : Am.runN tab ext146 false 32 [] 2000 [] [] [0, 1, 5] [] [false] (cutAt b146 6) (E146_6 v1 v6 x0 v5) (L146_6 v1 v6 x0 v5) = some (cutAt b146 2, E146_2 (v5 + 1) (x0) (v1), L146_2 (v5 + 1) (x0) (v1), [Decidable.decide (v6 < 8) = Bool.false, InR IntKind.i64 (v5 + 1)]) := by kernel_rfl
theorem snd146 : ∀ n, (∀ (x0 : ByteArray) (x1 : Int) ds, R146 n x0 x1 ds → ∀ w0 O q, AtV Tryd.prog 146 (PostR ds [] [] q w0 O) 32 w0 O q [] [.code b146] (entE 0 0 sig146 (x0, x1, ())) (entL sig146 (x0, x1, ()))) ∧ (∀ (v5 : Int) (x0 : ByteArray) (x1 : Int) ds, R146_2 n v5 x0 x1 ds → ∀ w0 O q, AtV Tryd.prog 146 (PostR ds [] [] q w0 O) 32 w0 O q [] (cutAt b146 2) (E146_2 v5 x0 x1) (L146_2 v5 x0 x1)) ∧ (∀ (v1 : Int) (v6 : Int) (x0 : ByteArray) (v5 : Int) ds, R146_6 n v1 v6 x0 v5 ds → ∀ w0 O q, AtV Tryd.prog 146 (PostR ds [] [] q w0 O) 32 w0 O q [] (cutAt b146 6) (E146_6 v1 v6 x0 v5) (L146_6 v1 v6 x0 v5)) := by
  intro n
  induction n with
  | zero => exact ⟨fun _ _ _ h => by simp only [R146] at h, fun _ _ _ _ h => by simp only [R146_2] at h, fun _ _ _ _ _ h => by simp only [R146_6] at h⟩
  | succ n ih =>
  obtain ⟨ih, ih2, ih6⟩ := ih
  refine ⟨?_, ?_, ?_⟩
  · intro x0 x1 ds h w0 O q
    rw [R146] at h
    exact AtV.runN tabOk ext146Ok mixed (p146_0 x0 x1) trivial (ih2 _ _ _ _ h w0 O q)

  · intro v5 x0 x1 ds h w0 O q
    rw [R146_2] at h
    by_cases b0 : (Decidable.decide (v5 < (↑(ByteArray.size x0) : Int))) = true
    · rw [if_pos b0] at h
      obtain ⟨s0, s1, h⟩ := h
      obtain ⟨s2, h⟩ := h
      exact AtV.runN tabOk ext146Ok mixed (p146_1 v5 x0 x1) ⟨b0, s0, s1, s2, (by decide), trivial⟩ (ih6 _ _ _ _ _ h w0 O q)
    · rw [if_neg b0] at h
      replace b0 := Bool.eq_false_iff.2 b0
      subst h
      exact AtV.fin Tryd.func146 tabOk ext146Ok mixed (p146_2 v5 x0 x1) ⟨b0, trivial⟩

  · intro v1 v6 x0 v5 ds h w0 O q
    rw [R146_6] at h
    by_cases b0 : (Decidable.decide (v6 < 8)) = true
    · rw [if_pos b0] at h
      by_cases b1 : (Decidable.decide (IntKind.wrap IntKind.i64 (v1 * 2) > 65535)) = true
      · rw [if_pos b1] at h
        obtain ⟨s0, h⟩ := h
        exact AtV.runN tabOk ext146Ok mixed (p146_3 v1 v6 x0 v5) ⟨b0, (by decide), b1, s0, trivial⟩ (ih6 _ _ _ _ _ h w0 O q)
      · rw [if_neg b1] at h
        replace b1 := Bool.eq_false_iff.2 b1
        obtain ⟨s0, h⟩ := h
        exact AtV.runN tabOk ext146Ok mixed (p146_4 v1 v6 x0 v5) ⟨b0, (by decide), b1, s0, trivial⟩ (ih6 _ _ _ _ _ h w0 O q)
    · rw [if_neg b0] at h
      replace b0 := Bool.eq_false_iff.2 b0
      obtain ⟨s0, h⟩ := h
      exact AtV.runN tabOk ext146Ok mixed (p146_5 v1 v6 x0 v5) ⟨b0, s0, trivial⟩ (ih2 _ _ _ _ h w0 O q)



def bit146 (s : Int) : Int := if (Decidable.decide (IntKind.wrap IntKind.i64 (s * 2) > 65535)) = true then (IntKind.wrap IntKind.i64 (↑(BitVec.toNat (BitVec.ofInt 64 (IntKind.wrap IntKind.i64 (↑(BitVec.toNat (BitVec.ofInt 64 (IntKind.wrap IntKind.i64 (s * 2)) &&& BitVec.ofInt 64 65535)) : Int)) ^^^ BitVec.ofInt 64 4129)) : Int)) else (IntKind.wrap IntKind.i64 (s * 2))
def bits146 : Nat → Int → Int
  | 0, s => s
  | k + 1, s => bits146 k (bit146 s)
def byte146 (s c : Int) : Int := bits146 8 (IntKind.wrap IntKind.i64 (↑(BitVec.toNat (BitVec.ofInt 64 s ^^^ BitVec.ofInt 64 (IntKind.wrap IntKind.i64 (c * 256)))) : Int))
def g146_0 (x0 : ByteArray) (x1 : Int) : Int := (bytesOf x0).foldl byte146 x1
def P146 (x0 : ByteArray) (x1 : Int) : Prop := True

theorem inner146 (x0 : ByteArray) (hm : (bytesOf x0).length ≤ maxLen) (i n : Nat) (hi : i < (bytesOf x0).length) (ds : List Dyn) : ∀ (k j : Nat) (s : Int), j + k = 8 → R146_2 n ((i : Int) + 1) x0 (bits146 k s) ds → R146_6 (n + 1 + k) s (j : Int) x0 (i : Int) ds := by
  intro k
  induction k with
  | zero =>
    intro j s hj hr
    rw [R146_6, if_neg (by simp; omega)]
    exact ⟨inR_up hm hi, hr⟩
  | succ k ih =>
    intro j s hj hr
    have e2 : (j : Int) + 1 = ((j + 1 : Nat) : Int) := by omega
    rw [show n + 1 + (k + 1) = (n + 1 + k) + 1 by omega, R146_6, if_pos (by simp; omega)]
    unfold bits146 bit146 at hr
    by_cases hc : (Decidable.decide (IntKind.wrap IntKind.i64 (s * 2) > 65535)) = true
    · rw [if_pos hc] at hr ⊢
      rw [e2]
      exact ⟨by rw [i64_iff]; omega, ih (j + 1) _ (by omega) hr⟩
    · rw [if_neg hc] at hr ⊢
      rw [e2]
      exact ⟨by rw [i64_iff]; omega, ih (j + 1) _ (by omega) hr⟩

theorem run146 (x0 : ByteArray) (hm : x0.size ≤ maxLen) : ∀ (k i : Nat) (s : Int), i + k = x0.size → ∃ n, R146_2 n (i : Int) x0 s [⟨.int .i64, ((bytesOf x0).drop i).foldl byte146 s⟩] := by
  intro k
  have hl := bytesOf_length x0
  induction k with
  | zero =>
    intro i s hi
    refine ⟨1, ?_⟩
    rw [R146_2, if_neg (by simp; omega), List.drop_of_length_le (by omega)]
    rfl
  | succ k ih =>
    intro i s hi
    have hlt : i < (bytesOf x0).length := by omega
    have hcons := drop_get (bytesOf x0) i 0 hlt
    obtain ⟨n, hn⟩ := ih (i + 1) (byte146 s ((bytesOf x0).getD i 0)) (by omega)
    refine ⟨n + 1 + 8 + 1, ?_⟩
    have hb := bytesOf_range x0 _ (mem_getD (bytesOf x0) i 0 hlt)
    rw [R146_2, if_pos (by simp; omega)]
    simp only [Int.toNat_natCast, byte_get]
    rw [hcons, List.foldl_cons]
    exact ⟨by omega, by omega, by rw [i64_iff]; omega, inner146 x0 (by rw [hl]; exact hm) i n hlt _ 8 0 _ (by omega) hn⟩

theorem top146 (x0 : ByteArray) (x1 : Int) (hm : x0.size ≤ maxLen) : ∃ n, R146 n x0 x1 [⟨.int .i64, g146_0 x0 x1⟩] := by
  obtain ⟨n, hn⟩ := run146 x0 hm x0.size 0 x1 (by omega)
  refine ⟨n + 1, ?_⟩
  rw [R146]
  exact hn

def S146 : Am.Spec := { sig := sig146, pre := fun ⟨x0, x1, _⟩ => P146 x0 x1, res := fun ⟨x0, x1, _⟩ => [⟨Ty.int .i64, g146_0 x0 x1⟩] }
theorem con146 : Contract Tryd.prog 146 S146 := contract_of Tryd.func146 hb146 (Nat.le_of_ble_eq_true (by kernel_rfl)) (fun ⟨x0, x1, _⟩ h hwf w0 O q =>
  let ⟨n, hn⟩ := top146 x0 x1 hwf.1
  (snd146 n).1 x0 x1 _ hn w0 O q)

end Go.Proofs.YtakodkjcmacofaaDoor

/- Function 145 (spec.l29Five): its runs between cut points. Written by a program of this repo (gen). -/
set_option linter.unusedVariables false
set_option linter.unusedSimpArgs false
set_option maxRecDepth 100000
namespace Go.Proofs.YtakodkjcmacofaaDoor
open Go Go.Am Go.Proofs
def ext145 : Ext := [(129, S129)]
theorem call145_129 : Callable Tryd.prog 129 := ⟨Tryd.f129, Tryd.func129, by kernel_rfl, by kernel_rfl⟩
theorem ext145Ok : ExtOk Tryd.prog ext145 := ⟨⟨call145_129, con129⟩, trivial⟩
/-! Function 145. -/
noncomputable def b145 : Code := bodyOf Tryd.f145
theorem hb145 : Tryd.f145.body = some b145 := by kernel_rfl
def sig145 : List AT := [AT.v (Ty.int IntKind.i64)]
def tys145 : List Ty := [Ty.str]
def E145_2 (v3 : ByteArray) : Env := [(3, PV.a (Atom.val (Value.string v3)))]
def L145_2 (v3 : ByteArray) : Heap := []
mutual
def R145 : Nat → Int → List Dyn → Prop
  | 0, _, _ => False
  | n + 1, x0, ds => (R145_2 n (g129_0 x0) ds)
def R145_2 : Nat → ByteArray → List Dyn → Prop
  | 0, _, _ => False
  | n + 1, v3, ds => (if (Decidable.decide ((↑(ByteArray.size v3) : Int) < 5)) = true then ((1 + ByteArray.size v3 ≤ 9223372036854775807) ∧ (R145_2 n (ByteArray.mk #[48] ++ v3) ds)) else (ds = [Dyn.mk Ty.str v3]))
end
theorem p145_0 (x0 : Int) : Am.runN tab ext145 false 12 [] 2000 [] [] [3] [] [] [.code b145] (entE 0 0 sig145 (x0, ())) (entL sig145 (x0, ())) = some (cutAt b145 2, E145_2 (g129_0 x0), L145_2 (g129_0 x0), [True]) := by kernel_rfl
theorem p145_1 (v3 : ByteArray) : Am.runN tab ext145 false 12 [] 2000 [] [] [3] [] [true] (cutAt b145 2) (E145_2 v3) (L145_2 v3) = some (cutAt b145 2, E145_2 (ByteArray.mk #[48] ++ v3), L145_2 (ByteArray.mk #[48] ++ v3), [Decidable.decide ((↑(ByteArray.size v3) : Int) < 5) = Bool.true, 1 + ByteArray.size v3 ≤ 9223372036854775807]) := by kernel_rfl
theorem p145_2 (v3 : ByteArray) : runF tab ext145 false 12 [] 2000 [] tys145 Tryd.f145.results [false] (cutAt b145 2) (E145_2 v3) (L145_2 v3) = some ([Dyn.mk Ty.str v3], [], [Decidable.decide ((↑(ByteArray.size v3) : Int) < 5) = Bool.false]) := by kernel_rfl
theorem snd145 : ∀ n, (∀ (x0 : Int) ds, R145 n x0 ds → ∀ w0 O q, AtV Tryd.prog 145 (PostR ds [] [] q w0 O) 12 w0 O q [] [.code b145] (entE 0 0 sig145 (x0, ())) (entL sig145 (x0, ()))) ∧ (∀ (v3 : ByteArray) ds, R145_2 n v3 ds → ∀ w0 O q, AtV Tryd.prog 145 (PostR ds [] [] q w0 O) 12 w0 O q [] (cutAt b145 2) (E145_2 v3) (L145_2 v3)) := by
  intro n
  induction n with
  | zero => exact ⟨fun _ _ h => by simp only [R145] at h, fun _ _ h => by simp only [R145_2] at h⟩
  | succ n ih =>
  obtain ⟨ih, ih2⟩ := ih
  refine ⟨?_, ?_⟩
  · intro x0 ds h w0 O q
    rw [R145] at h
    exact AtV.runN tabOk ext145Ok mixed (p145_0 x0) ⟨trivial, trivial⟩ (ih2 _ _ h w0 O q)

  · intro v3 ds h w0 O q
    rw [R145_2] at h
    by_cases b0 : (Decidable.decide ((↑(ByteArray.size v3) : Int) < 5)) = true
    · rw [if_pos b0] at h
      obtain ⟨s0, h⟩ := h
      exact AtV.runN tabOk ext145Ok mixed (p145_1 v3) ⟨b0, s0, trivial⟩ (ih2 _ _ h w0 O q)
    · rw [if_neg b0] at h
      replace b0 := Bool.eq_false_iff.2 b0
      subst h
      exact AtV.fin Tryd.func145 tabOk ext145Ok mixed (p145_2 v3) ⟨b0, trivial⟩



def f5145 : Nat → ByteArray → ByteArray
  | 0, s => s
  | k + 1, s => if s.size < 5 then f5145 k (ByteArray.mk #[48] ++ s) else s
def g145_0 (x0 : Int) : ByteArray := f5145 5 (g129_0 x0)
def P145 (x0 : Int) : Prop := True

theorem run145 : ∀ (k : Nat) (s : ByteArray), 5 ≤ s.size + k → R145_2 (k + 1) s [⟨.str, f5145 k s⟩] := by
  intro k
  have i48 : (ByteArray.mk #[48]).size = 1 := rfl
  induction k with
  | zero =>
    intro s h
    rw [R145_2, if_neg (by simp; omega)]
    rfl
  | succ k ih =>
    intro s h
    rw [R145_2]
    unfold f5145
    by_cases hc : s.size < 5
    · rw [if_pos (by simp; omega), if_pos hc]
      exact ⟨by omega, ih _ (by rw [ByteArray.size_append, i48]; omega)⟩
    · rw [if_neg (by simp; omega), if_neg hc]

theorem top145 (x0 : Int) : R145 7 x0 [⟨.str, g145_0 x0⟩] := by
  rw [R145]
  exact run145 5 _ (by omega)

def S145 : Am.Spec := { sig := sig145, pre := fun ⟨x0, _⟩ => P145 x0, res := fun ⟨x0, _⟩ => [⟨Ty.str, g145_0 x0⟩] }
theorem con145 : Contract Tryd.prog 145 S145 := contract_of Tryd.func145 hb145 (Nat.le_of_ble_eq_true (by kernel_rfl)) (fun ⟨x0, _⟩ h hwf w0 O q =>
  (snd145 _).1 x0 _ (top145 x0) w0 O q)

end Go.Proofs.YtakodkjcmacofaaDoor

/- Function 137 (spec.l29Line): its runs between cut points. Written by a program of this repo (gen). -/
set_option linter.unusedVariables false
set_option linter.unusedSimpArgs false
set_option maxRecDepth 100000
namespace Go.Proofs.YtakodkjcmacofaaDoor
open Go Go.Am Go.Proofs
def ext137 : Ext := [(146, S146), (145, S145)]
theorem call137_146 : Callable Tryd.prog 146 := ⟨Tryd.f146, Tryd.func146, by kernel_rfl, by kernel_rfl⟩
theorem call137_145 : Callable Tryd.prog 145 := ⟨Tryd.f145, Tryd.func145, by kernel_rfl, by kernel_rfl⟩
theorem ext137Ok : ExtOk Tryd.prog ext137 := ⟨⟨call137_146, con146⟩, ⟨call137_145, con145⟩, trivial⟩
/-! Function 137. -/
noncomputable def b137 : Code := bodyOf Tryd.f137
theorem hb137 : Tryd.f137.body = some b137 := by kernel_rfl
def sig137 : List AT := [AT.p (Ty.cons Ty.str (Ty.cons Ty.str (Ty.cons Ty.str Ty.unit)))]
def tys137 : List Ty := [Ty.str]
def P137 (x0 : ByteArray × ByteArray × ByteArray × Unit) : Prop := ((ByteArray.size (Prod.fst x0) + 1 ≤ 9223372036854775807) ∧ ((ByteArray.size (Prod.fst x0 ++ ByteArray.mk #[32]) + ByteArray.size (Prod.fst (Prod.snd x0)) ≤ 9223372036854775807) ∧ ((ByteArray.size (Prod.fst x0 ++ ByteArray.mk #[32] ++ Prod.fst (Prod.snd x0)) + 1 ≤ 9223372036854775807) ∧ ((ByteArray.size (Prod.fst x0 ++ ByteArray.mk #[32] ++ Prod.fst (Prod.snd x0) ++ ByteArray.mk #[32]) + ByteArray.size (Prod.fst (Prod.snd (Prod.snd x0))) ≤ 9223372036854775807) ∧ ((ByteArray.size (g145_0 (g146_0 (Prod.fst x0 ++ ByteArray.mk #[32] ++ Prod.fst (Prod.snd x0) ++ ByteArray.mk #[32] ++ Prod.fst (Prod.snd (Prod.snd x0))) 65535)) + 1 ≤ 9223372036854775807) ∧ ((ByteArray.size (g145_0 (g146_0 (Prod.fst x0 ++ ByteArray.mk #[32] ++ Prod.fst (Prod.snd x0) ++ ByteArray.mk #[32] ++ Prod.fst (Prod.snd (Prod.snd x0))) 65535) ++ ByteArray.mk #[32]) + ByteArray.size (Prod.fst x0 ++ ByteArray.mk #[32] ++ Prod.fst (Prod.snd x0) ++ ByteArray.mk #[32] ++ Prod.fst (Prod.snd (Prod.snd x0))) ≤ 9223372036854775807) ∧ ((ByteArray.size (g145_0 (g146_0 (Prod.fst x0 ++ ByteArray.mk #[32] ++ Prod.fst (Prod.snd x0) ++ ByteArray.mk #[32] ++ Prod.fst (Prod.snd (Prod.snd x0))) 65535) ++ ByteArray.mk #[32] ++ (Prod.fst x0 ++ ByteArray.mk #[32] ++ Prod.fst (Prod.snd x0) ++ ByteArray.mk #[32] ++ Prod.fst (Prod.snd (Prod.snd x0)))) + 1 ≤ 9223372036854775807) ∧ True)))))))
def g137_0 (x0 : ByteArray × ByteArray × ByteArray × Unit) : ByteArray := g145_0 (g146_0 (Prod.fst x0 ++ ByteArray.mk #[32] ++ Prod.fst (Prod.snd x0) ++ ByteArray.mk #[32] ++ Prod.fst (Prod.snd (Prod.snd x0))) 65535) ++ ByteArray.mk #[32] ++ (Prod.fst x0 ++ ByteArray.mk #[32] ++ Prod.fst (Prod.snd x0) ++ ByteArray.mk #[32] ++ Prod.fst (Prod.snd (Prod.snd x0))) ++ ByteArray.mk #[10]
theorem p137_0 (x0 : ByteArray × ByteArray × ByteArray × Unit) : runF tab ext137 false 27 [] 2000 [] tys137 Tryd.f137.results [] [.code b137] (entE 0 0 sig137 (x0, ())) (entL sig137 (x0, ())) = some ([Dyn.mk Ty.str (g145_0 (g146_0 (Prod.fst x0 ++ ByteArray.mk #[32] ++ Prod.fst (Prod.snd x0) ++ ByteArray.mk #[32] ++ Prod.fst (Prod.snd (Prod.snd x0))) 65535) ++ ByteArray.mk #[32] ++ (Prod.fst x0 ++ ByteArray.mk #[32] ++ Prod.fst (Prod.snd x0) ++ ByteArray.mk #[32] ++ Prod.fst (Prod.snd (Prod.snd x0))) ++ ByteArray.mk #[10])], [], [ByteArray.size (Prod.fst x0) + 1 ≤ 9223372036854775807, ByteArray.size (Prod.fst x0 ++ ByteArray.mk #[32]) + ByteArray.size (Prod.fst (Prod.snd x0)) ≤ 9223372036854775807, ByteArray.size (Prod.fst x0 ++ ByteArray.mk #[32] ++ Prod.fst (Prod.snd x0)) + 1 ≤ 9223372036854775807, ByteArray.size (Prod.fst x0 ++ ByteArray.mk #[32] ++ Prod.fst (Prod.snd x0) ++ ByteArray.mk #[32]) + ByteArray.size (Prod.fst (Prod.snd (Prod.snd x0))) ≤ 9223372036854775807, True, True, ByteArray.size (g145_0 (g146_0 (Prod.fst x0 ++ ByteArray.mk #[32] ++ Prod.fst (Prod.snd x0) ++ ByteArray.mk #[32] ++ Prod.fst (Prod.snd (Prod.snd x0))) 65535)) + 1 ≤ 9223372036854775807, ByteArray.size (g145_0 (g146_0 (Prod.fst x0 ++ ByteArray.mk #[32] ++ Prod.fst (Prod.snd x0) ++ ByteArray.mk #[32] ++ Prod.fst (Prod.snd (Prod.snd x0))) 65535) ++ ByteArray.mk #[32]) + ByteArray.size (Prod.fst x0 ++ ByteArray.mk #[32] ++ Prod.fst (Prod.snd x0) ++ ByteArray.mk #[32] ++ Prod.fst (Prod.snd (Prod.snd x0))) ≤ 9223372036854775807, ByteArray.size (g145_0 (g146_0 (Prod.fst x0 ++ ByteArray.mk #[32] ++ Prod.fst (Prod.snd x0) ++ ByteArray.mk #[32] ++ Prod.fst (Prod.snd (Prod.snd x0))) 65535) ++ ByteArray.mk #[32] ++ (Prod.fst x0 ++ ByteArray.mk #[32] ++ Prod.fst (Prod.snd x0) ++ ByteArray.mk #[32] ++ Prod.fst (Prod.snd (Prod.snd x0)))) + 1 ≤ 9223372036854775807]) := by kernel_rfl
theorem at137 (x0 : ByteArray × ByteArray × ByteArray × Unit) (h : P137 x0) (w0 : World) (O : List Nat) (q : Nat → Value) : AtV Tryd.prog 137 (PostR [⟨Ty.str, g137_0 x0⟩] [] [] q w0 O) 27 w0 O q [] [.code b137] (entE 0 0 sig137 (x0, ())) (entL sig137 (x0, ())) := by
  unfold P137 at h
  unfold g137_0
  obtain ⟨s0, h⟩ := h
  obtain ⟨s1, h⟩ := h
  obtain ⟨s2, h⟩ := h
  obtain ⟨s3, h⟩ := h
  obtain ⟨s4, h⟩ := h
  obtain ⟨s5, h⟩ := h
  obtain ⟨s6, h⟩ := h
  exact AtV.fin Tryd.func137 tabOk ext137Ok mixed (p137_0 x0) ⟨s0, s1, s2, s3, trivial, trivial, s4, s5, s6, trivial⟩

def S137 : Am.Spec := { sig := sig137, pre := fun ⟨x0, _⟩ => P137 x0, res := fun ⟨x0, _⟩ => [⟨Ty.str, g137_0 x0⟩] }
theorem con137 : Contract Tryd.prog 137 S137 := contract_of Tryd.func137 hb137 (Nat.le_of_ble_eq_true (by kernel_rfl)) (fun ⟨x0, _⟩ h _ w0 O q => at137 x0 h w0 O q)


end Go.Proofs.YtakodkjcmacofaaDoor

/- Function 90 (spec.l29Save): its runs between cut points. Written by a program of this repo (gen). -/
set_option linter.unusedVariables false
set_option linter.unusedSimpArgs false
set_option maxRecDepth 100000
namespace Go.Proofs.YtakodkjcmacofaaDoor
open Go Go.Am Go.Proofs
def ext90 : Ext := [(129, S129), (137, S137)]
theorem call90_129 : Callable Tryd.prog 129 := ⟨Tryd.f129, Tryd.func129, by kernel_rfl, by kernel_rfl⟩
theorem call90_137 : Callable Tryd.prog 137 := ⟨Tryd.f137, Tryd.func137, by kernel_rfl, by kernel_rfl⟩
theorem ext90Ok : ExtOk Tryd.prog ext90 := ⟨⟨call90_129, con129⟩, ⟨call90_137, con137⟩, trivial⟩
/-! Function 90. -/
noncomputable def b90 : Code := bodyOf Tryd.f90
theorem hb90 : Tryd.f90.body = some b90 := by kernel_rfl
def sig90 : List AT := [AT.v (Ty.sl (Ty.cons Ty.str (Ty.cons Ty.str (Ty.cons Ty.str Ty.unit))))]
def tys90 : List Ty := [Ty.str]
def E90_3 (v3 : ByteArray) (v4 : Int) (x0 : List (ByteArray × ByteArray × ByteArray × Unit)) : Env := [(0, PV.a (Atom.sl (Ty.cons Ty.str (Ty.cons Ty.str (Ty.cons Ty.str Ty.unit))) x0)), (3, PV.a (Atom.val (Value.string v3))), (4, PV.a (Atom.val (Value.int IntKind.i64 v4)))]
def L90_3 (v3 : ByteArray) (v4 : Int) (x0 : List (ByteArray × ByteArray × ByteArray × Unit)) : Heap := []
mutual
def R90 : Nat → List (ByteArray × ByteArray × ByteArray × Unit) → List Dyn → Prop
  | 0, _, _ => False
  | n + 1, x0, ds => ((8 + ByteArray.size (g129_0 (↑(List.length x0) : Int)) ≤ 9223372036854775807) ∧ ((ByteArray.size (ByteArray.mk #[97, 114, 99, 104, 105, 118, 101, 32] ++ g129_0 (↑(List.length x0) : Int)) + 1 ≤ 9223372036854775807) ∧ (R90_3 n (ByteArray.mk #[97, 114, 99, 104, 105, 118, 101, 32] ++ g129_0 (↑(List.length x0) : Int) ++ ByteArray.mk #[10]) (0) (x0) ds)))
def R90_3 : Nat → ByteArray → Int → List (ByteArray × ByteArray × ByteArray × Unit) → List Dyn → Prop
  | 0, _, _, _, _ => False
  | n + 1, v3, v4, x0, ds => (if (Decidable.decide (v4 < (↑(List.length x0) : Int))) = true then ((0 ≤ v4) ∧ (v4 < (↑(List.length x0) : Int)) ∧ ((P137 (List.getD x0 (Int.toNat v4) (ByteArray.empty, ByteArray.empty, ByteArray.empty, ()))) ∧ ((ByteArray.size v3 + ByteArray.size (g137_0 (List.getD x0 (Int.toNat v4) (ByteArray.empty, ByteArray.empty, ByteArray.empty, ()))) ≤ 9223372036854775807) ∧ ((InR IntKind.i64 (v4 + 1)) ∧ (R90_3 n (v3 ++ g137_0 (List.getD x0 (Int.toNat v4) (ByteArray.empty, ByteArray.empty, ByteArray.empty, ()))) (v4 + 1) (x0) ds))))) else (ds = [Dyn.mk Ty.str v3]))
end
theorem p90_0 (x0 : List (ByteArray × ByteArray × ByteArray × Unit)) : Am.runN tab ext90 false 23 [] 2000 [] [] [0, 3, 4] [] [] [.code b90] (entE 0 0 sig90 (x0, ())) (entL sig90 (x0, ())) = some (cutAt b90 3, E90_3 (ByteArray.mk #[97, 114, 99, 104, 105, 118, 101, 32] ++ g129_0 (↑(List.length x0) : Int) ++ ByteArray.mk #[10]) (0) (x0), L90_3 (ByteArray.mk #[97, 114, 99, 104, 105, 118, 101, 32] ++ g129_0 (↑(List.length x0) : Int) ++ ByteArray.mk #[10]) (0) (x0), [True, 8 + ByteArray.size (g129_0 (↑(List.length x0) : Int)) ≤ 9223372036854775807, ByteArray.size (ByteArray.mk #[97, 114, 99, 104, 105, 118, 101, 32] ++ g129_0 (↑(List.length x0) : Int)) + 1 ≤ 9223372036854775807]) := by kernel_rfl
theorem p90_1 (v3 : ByteArray) (v4 : Int) (x0 : List (ByteArray × ByteArray × ByteArray × Unit)) : Am.runN tab ext90 false 23 [] 2000 [] [] [0, 3, 4] [] [true] (cutAt b90 3) (E90_3 v3 v4 x0) (L90_3 v3 v4 x0) = some (cutAt b90 3, E90_3 (v3 ++ g137_0 (List.getD x0 (Int.toNat v4) (ByteArray.empty, ByteArray.empty, ByteArray.empty, ()))) (v4 + 1) (x0), L90_3 (v3 ++ g137_0 (List.getD x0 (Int.toNat v4) (ByteArray.empty, ByteArray.empty, ByteArray.empty, ()))) (v4 + 1) (x0), [Decidable.decide (v4 < (↑(List.length x0) : Int)) = Bool.true, 0 ≤ v4, v4 < (↑(List.length x0) : Int), P137 (List.getD x0 (Int.toNat v4) (ByteArray.empty, ByteArray.empty, ByteArray.empty, ())), ByteArray.size v3 + ByteArray.size (g137_0 (List.getD x0 (Int.toNat v4) (ByteArray.empty, ByteArray.empty, ByteArray.empty, ()))) ≤ 9223372036854775807, InR IntKind.i64 (v4 + 1)]) := by kernel_rfl
theorem p90_2 (v3 : ByteArray) (v4 : Int) (x0 : List (ByteArray × ByteArray × ByteArray × Unit)) : runF tab ext90 false 23 [] 2000 [] tys90 Tryd.f90.results [false] (cutAt b90 3) (E90_3 v3 v4 x0) (L90_3 v3 v4 x0) = some ([Dyn.mk Ty.str v3], [], [Decidable.decide (v4 < (↑(List.length x0) : Int)) = Bool.false]) := by kernel_rfl
theorem snd90 : ∀ n, (∀ (x0 : List (ByteArray × ByteArray × ByteArray × Unit)) ds, R90 n x0 ds → ∀ w0 O q, AtV Tryd.prog 90 (PostR ds [] [] q w0 O) 23 w0 O q [] [.code b90] (entE 0 0 sig90 (x0, ())) (entL sig90 (x0, ()))) ∧ (∀ (v3 : ByteArray) (v4 : Int) (x0 : List (ByteArray × ByteArray × ByteArray × Unit)) ds, R90_3 n v3 v4 x0 ds → ∀ w0 O q, AtV Tryd.prog 90 (PostR ds [] [] q w0 O) 23 w0 O q [] (cutAt b90 3) (E90_3 v3 v4 x0) (L90_3 v3 v4 x0)) := by
  intro n
  induction n with
  | zero => exact ⟨fun _ _ h => by simp only [R90] at h, fun _ _ _ _ h => by simp only [R90_3] at h⟩
  | succ n ih =>
  obtain ⟨ih, ih3⟩ := ih
  refine ⟨?_, ?_⟩
  · intro x0 ds h w0 O q
    rw [R90] at h
    obtain ⟨s0, h⟩ := h
    obtain ⟨s1, h⟩ := h
    exact AtV.runN tabOk ext90Ok mixed (p90_0 x0) ⟨trivial, s0, s1, trivial⟩ (ih3 _ _ _ _ h w0 O q)

  · intro v3 v4 x0 ds h w0 O q
    rw [R90_3] at h
    by_cases b0 : (Decidable.decide (v4 < (↑(List.length x0) : Int))) = true
    · rw [if_pos b0] at h
      obtain ⟨s0, s1, h⟩ := h
      obtain ⟨s2, h⟩ := h
      obtain ⟨s3, h⟩ := h
      obtain ⟨s4, h⟩ := h
      exact AtV.runN tabOk ext90Ok mixed (p90_1 v3 v4 x0) ⟨b0, s0, s1, s2, s3, s4, trivial⟩ (ih3 _ _ _ _ h w0 O q)
    · rw [if_neg b0] at h
      replace b0 := Bool.eq_false_iff.2 b0
      subst h
      exact AtV.fin Tryd.func90 tabOk ext90Ok mixed (p90_2 v3 v4 x0) ⟨b0, trivial⟩



def hd90 (x0 : List (ByteArray × ByteArray × ByteArray × Unit)) : ByteArray := ByteArray.mk #[97, 114, 99, 104, 105, 118, 101, 32] ++ g129_0 (x0.length : Int) ++ ByteArray.mk #[10]
def g90_0 (x0 : List (ByteArray × ByteArray × ByteArray × Unit)) : ByteArray := x0.foldl (fun o b => o ++ g137_0 b) (hd90 x0)
def P90 (x0 : List (ByteArray × ByteArray × ByteArray × Unit)) : Prop := x0.length ≤ 1048576 ∧ ∀ x ∈ x0, P137 x ∧ (g137_0 x).size ≤ 4194304

theorem hsz90 (x0 : List (ByteArray × ByteArray × ByteArray × Unit)) (h : x0.length ≤ 1048576) : (g129_0 (x0.length : Int)).size ≤ 21 := numB_size _ (by omega) (by omega)

theorem run90 (x0 : List (ByteArray × ByteArray × ByteArray × Unit)) (hp : P90 x0) : ∀ (k i : Nat) (o : ByteArray), i + k = x0.length → o.size ≤ 100 + 4194304 * i →
    R90_3 (k + 1) o (i : Int) x0 [⟨.str, (x0.drop i).foldl (fun o b => o ++ g137_0 b) o⟩] := by
  obtain ⟨hl, hx⟩ := hp
  intro k
  induction k with
  | zero =>
    intro i o hi ho
    rw [R90_3, if_neg (by simp; omega), drop_end x0 i (by omega)]
    rfl
  | succ k ih =>
    intro i o hi ho
    have hlt : i < x0.length := by omega
    obtain ⟨p, q⟩ := hx _ (mem_getD x0 i (ByteArray.empty, ByteArray.empty, ByteArray.empty, ()) hlt)
    rw [R90_3, if_pos (by simp; omega), drop_get x0 i (ByteArray.empty, ByteArray.empty, ByteArray.empty, ()) hlt]
    simp only [Int.toNat_natCast, List.foldl_cons]
    refine ⟨by omega, by omega, p, by omega, inR_up (xs := x0) (by unfold maxLen; omega) hlt, ?_⟩
    exact ih (i + 1) _ (by omega) (by rw [ByteArray.size_append]; omega)

theorem top90 (x0 : List (ByteArray × ByteArray × ByteArray × Unit)) (hp : P90 x0) : R90 (x0.length + 1 + 1) x0 [⟨.str, g90_0 x0⟩] := by
  rw [R90]
  have hs := hsz90 x0 hp.1
  have i8 : (ByteArray.mk #[97, 114, 99, 104, 105, 118, 101, 32]).size = 8 := rfl
  have i1 : (ByteArray.mk #[10]).size = 1 := rfl
  refine ⟨by omega, by rw [ByteArray.size_append, i8]; omega, ?_⟩
  have := run90 x0 hp x0.length 0 (hd90 x0) (by omega) (by unfold hd90; simp only [ByteArray.size_append, i8, i1]; omega)
  simpa [g90_0, hd90] using this

def S90 : Am.Spec := { sig := sig90, pre := fun ⟨x0, _⟩ => P90 x0, res := fun ⟨x0, _⟩ => [⟨Ty.str, g90_0 x0⟩] }
theorem con90 : Contract Tryd.prog 90 S90 := contract_of Tryd.func90 hb90 (Nat.le_of_ble_eq_true (by kernel_rfl)) (fun ⟨x0, _⟩ h hwf w0 O q =>
  (snd90 _).1 x0 _ (top90 x0 h) w0 O q)

end Go.Proofs.YtakodkjcmacofaaDoor

/- Function 33 (spec.SaveBlocks): its runs between cut points. Written by a program of this repo (gen). -/
set_option linter.unusedVariables false
set_option linter.unusedSimpArgs false
set_option maxRecDepth 100000
namespace Go.Proofs.YtakodkjcmacofaaDoor
open Go Go.Am Go.Proofs
def ext33 : Ext := [(89, S89), (90, S90)]
theorem call33_89 : Callable Tryd.prog 89 := ⟨Tryd.f89, Tryd.func89, by kernel_rfl, by kernel_rfl⟩
theorem call33_90 : Callable Tryd.prog 90 := ⟨Tryd.f90, Tryd.func90, by kernel_rfl, by kernel_rfl⟩
theorem ext33Ok : ExtOk Tryd.prog ext33 := ⟨⟨call33_89, con89⟩, ⟨call33_90, con90⟩, trivial⟩
/-! Function 33. -/
noncomputable def b33 : Code := bodyOf Tryd.f33
theorem hb33 : Tryd.f33.body = some b33 := by kernel_rfl
def sig33 : List AT := [AT.v (Ty.sl (Ty.cons Ty.str (Ty.cons Ty.str (Ty.cons Ty.str Ty.unit))))]
def tys33 : List Ty := [Ty.str, Ty.int IntKind.i64]
def P33 (x0 : List (ByteArray × ByteArray × ByteArray × Unit)) : Prop := (if (!g89_0 x0) = true then True else ((P90 x0) ∧ True))
def g33_0 (x0 : List (ByteArray × ByteArray × ByteArray × Unit)) : ByteArray := (if (!g89_0 x0) = true then ByteArray.mk #[] else g90_0 x0)
def g33_1 (x0 : List (ByteArray × ByteArray × ByteArray × Unit)) : Int := (if (!g89_0 x0) = true then 1 else 0)
theorem p33_0 (x0 : List (ByteArray × ByteArray × ByteArray × Unit)) : runF tab ext33 false 9 [] 2000 [] tys33 Tryd.f33.results [true] [.code b33] (entE 0 0 sig33 (x0, ())) (entL sig33 (x0, ())) = some ([Dyn.mk Ty.str (ByteArray.mk #[]), Dyn.mk (Ty.int IntKind.i64) 1], [], [True, (!g89_0 x0) = Bool.true]) := by kernel_rfl
theorem p33_1 (x0 : List (ByteArray × ByteArray × ByteArray × Unit)) : runF tab ext33 false 9 [] 2000 [] tys33 Tryd.f33.results [false] [.code b33] (entE 0 0 sig33 (x0, ())) (entL sig33 (x0, ())) = some ([Dyn.mk Ty.str (g90_0 x0), Dyn.mk (Ty.int IntKind.i64) 0], [], [True, (!g89_0 x0) = Bool.false, P90 x0]) := by kernel_rfl
theorem at33 (x0 : List (ByteArray × ByteArray × ByteArray × Unit)) (h : P33 x0) (w0 : World) (O : List Nat) (q : Nat → Value) : AtV Tryd.prog 33 (PostR [⟨Ty.str, g33_0 x0⟩, ⟨Ty.int IntKind.i64, g33_1 x0⟩] [] [] q w0 O) 9 w0 O q [] [.code b33] (entE 0 0 sig33 (x0, ())) (entL sig33 (x0, ())) := by
  unfold P33 at h
  unfold g33_0 g33_1
  by_cases b0 : (!g89_0 x0) = true
  · try simp only [if_pos b0] at h ⊢
    exact AtV.fin Tryd.func33 tabOk ext33Ok mixed (p33_0 x0) ⟨trivial, b0, trivial⟩
  · try simp only [if_neg b0] at h ⊢
    replace b0 := Bool.eq_false_iff.2 b0
    obtain ⟨s0, h⟩ := h
    exact AtV.fin Tryd.func33 tabOk ext33Ok mixed (p33_1 x0) ⟨trivial, b0, s0, trivial⟩

def S33 : Am.Spec := { sig := sig33, pre := fun ⟨x0, _⟩ => P33 x0, res := fun ⟨x0, _⟩ => [⟨Ty.str, g33_0 x0⟩, ⟨Ty.int IntKind.i64, g33_1 x0⟩] }
theorem con33 : Contract Tryd.prog 33 S33 := contract_of Tryd.func33 hb33 (Nat.le_of_ble_eq_true (by kernel_rfl)) (fun ⟨x0, _⟩ h _ w0 O q => at33 x0 h w0 O q)


end Go.Proofs.YtakodkjcmacofaaDoor

/- Function 151 (impl.IsName): its runs between cut points. Written by a program of this repo (gen). -/
set_option linter.unusedVariables false
set_option linter.unusedSimpArgs false
set_option maxRecDepth 100000
namespace Go.Proofs.YtakodkjcmacofaaDoor
open Go Go.Am Go.Proofs
def ext151 : Ext := []
theorem ext151Ok : ExtOk Tryd.prog ext151 := trivial
/-! Function 151. -/
noncomputable def b151 : Code := bodyOf Tryd.f151
theorem hb151 : Tryd.f151.body = some b151 := by kernel_rfl
def sig151 : List AT := [AT.v (Ty.str)]
def tys151 : List Ty := [Ty.bool]
def E151_4 (v18 : Int) (x0 : ByteArray) : Env := [(16, PV.a (Atom.osl 0 Option.none)), (17, PV.a (Atom.val (Value.int IntKind.i64 (↑(List.length (bytesOf x0)) : Int)))), (18, PV.a (Atom.val (Value.int IntKind.i64 v18)))]
def L151_4 (v18 : Int) (x0 : ByteArray) : Heap := [Option.some (Arr.mk (Ty.int IntKind.u8) (bytesOf x0) Bool.false)]
mutual
def R151 : Nat → ByteArray → List Dyn → Prop
  | 0, _, _ => False
  | n + 1, x0, ds => (if (Decidable.decide ((↑(ByteArray.size x0) : Int) < 1)) = true then (ds = [Dyn.mk Ty.bool Bool.false]) else (if (Decidable.decide ((↑(ByteArray.size x0) : Int) > 10)) = true then (ds = [Dyn.mk Ty.bool Bool.false]) else (R151_4 n (0) (x0) ds)))
def R151_4 : Nat → Int → ByteArray → List Dyn → Prop
  | 0, _, _, _ => False
  | n + 1, v18, x0, ds => (if (Decidable.decide (v18 < (↑(List.length (bytesOf x0)) : Int))) = true then ((0 ≤ v18) ∧ (v18 < (↑(List.length (bytesOf x0)) : Int)) ∧ (if (Decidable.decide (List.getD (bytesOf x0) (Int.toNat v18) 0 ≥ 97)) = true then (if (Decidable.decide (List.getD (bytesOf x0) (Int.toNat v18) 0 ≥ 48)) = true then (if (!Decidable.decide (List.getD (bytesOf x0) (Int.toNat v18) 0 ≤ 122)) = true then (if (v18 == 0) = true then (ds = [Dyn.mk Ty.bool Bool.false]) else (if (!Decidable.decide (List.getD (bytesOf x0) (Int.toNat v18) 0 ≤ 57)) = true then (ds = [Dyn.mk Ty.bool Bool.false]) else ((InR IntKind.i64 (v18 + 1)) ∧ (R151_4 n (v18 + 1) (x0) ds)))) else ((InR IntKind.i64 (v18 + 1)) ∧ (R151_4 n (v18 + 1) (x0) ds))) else (if (!Decidable.decide (List.getD (bytesOf x0) (Int.toNat v18) 0 ≤ 122)) = true then (if (v18 == 0) = true then (ds = [Dyn.mk Ty.bool Bool.false]) else (ds = [Dyn.mk Ty.bool Bool.false])) else ((InR IntKind.i64 (v18 + 1)) ∧ (R151_4 n (v18 + 1) (x0) ds)))) else (if (Decidable.decide (List.getD (bytesOf x0) (Int.toNat v18) 0 ≥ 48)) = true then (if (v18 == 0) = true then (ds = [Dyn.mk Ty.bool Bool.false]) else (if (!Decidable.decide (List.getD (bytesOf x0) (Int.toNat v18) 0 ≤ 57)) = true then (ds = [Dyn.mk Ty.bool Bool.false]) else ((InR IntKind.i64 (v18 + 1)) ∧ (R151_4 n (v18 + 1) (x0) ds)))) else (if (v18 == 0) = true then (ds = [Dyn.mk Ty.bool Bool.false]) else (ds = [Dyn.mk Ty.bool Bool.false]))))) else (ds = [Dyn.mk Ty.bool Bool.true]))
end
theorem p151_0 (x0 : ByteArray) : runF tab ext151 false 46 [] 2000 [] tys151 Tryd.f151.results [true, true] [.code b151] (entE 0 0 sig151 (x0, ())) (entL sig151 (x0, ())) = some ([Dyn.mk Ty.bool Bool.false], [], [Decidable.decide ((↑(ByteArray.size x0) : Int) < 1) = Bool.true, Bool.true = Bool.true]) := by kernel_rfl
theorem p151_1 (x0 : ByteArray) : runF tab ext151 false 46 [] 2000 [] tys151 Tryd.f151.results [false, true] [.code b151] (entE 0 0 sig151 (x0, ())) (entL sig151 (x0, ())) = some ([Dyn.mk Ty.bool Bool.false], [], [Decidable.decide ((↑(ByteArray.size x0) : Int) < 1) = Bool.false, Decidable.decide ((↑(ByteArray.size x0) : Int) > 10) = Bool.true]) := by kernel_rfl
theorem p151_2 (x0 : ByteArray) : Am.runN tab ext151 false 46 [] 2000 [] [] [16, 17, 18] [0] [false, false] [.code b151] (entE 0 0 sig151 (x0, ())) (entL sig151 (x0, ())) = some (cutAt b151 4, E151_4 (0) (x0), L151_4 (0) (x0), [Decidable.decide ((↑(ByteArray.size x0) : Int) < 1) = Bool.false, Decidable.decide ((↑(ByteArray.size x0) : Int) > 10) = Bool.false]) := by kernel_rfl
theorem p151_3 (v18 : Int) (x0 : ByteArray) : runF tab ext151 false 46 [] 2000 [] tys151 Tryd.f151.results [true, true, true, true, true, true] (cutAt b151 4) (E151_4 v18 x0) (L151_4 v18 x0) = some ([Dyn.mk Ty.bool Bool.false], [], [Decidable.decide (v18 < (↑(List.length (bytesOf x0)) : Int)) = Bool.true, 0 ≤ v18, v18 < (↑(List.length (bytesOf x0)) : Int), Decidable.decide (List.getD (bytesOf x0) (Int.toNat v18) 0 ≥ 97) = Bool.true, Decidable.decide (List.getD (bytesOf x0) (Int.toNat v18) 0 ≥ 48) = Bool.true, (!Decidable.decide (List.getD (bytesOf x0) (Int.toNat v18) 0 ≤ 122)) = Bool.true, (v18 == 0) = Bool.true, Bool.true = Bool.true]) := by kernel_rfl
theorem p151_4 (v18 : Int) (x0 : ByteArray) : runF tab ext151 false 46 [] 2000 [] tys151 Tryd.f151.results [true, true, true, true, false, true] (cutAt b151 4) (E151_4 v18 x0) (L151_4 v18 x0) = some ([Dyn.mk Ty.bool Bool.false], [], [Decidable.decide (v18 < (↑(List.length (bytesOf x0)) : Int)) = Bool.true, 0 ≤ v18, v18 < (↑(List.length (bytesOf x0)) : Int), Decidable.decide (List.getD (bytesOf x0) (Int.toNat v18) 0 ≥ 97) = Bool.true, Decidable.decide (List.getD (bytesOf x0) (Int.toNat v18) 0 ≥ 48) = Bool.true, (!Decidable.decide (List.getD (bytesOf x0) (Int.toNat v18) 0 ≤ 122)) = Bool.true, (v18 == 0) = Bool.false, (!Decidable.decide (List.getD (bytesOf x0) (Int.toNat v18) 0 ≤ 57)) = Bool.true]) := by kernel_rfl
theorem p151_5 (v18 : Int) (x0 : ByteArray) : Am.runN tab ext151 false 46 [] 2000 [] [] [16, 17, 18] [0] [true, true, true, true, false, false] (cutAt b151 4) (E151_4 v18 x0) (L151_4 v18 x0) = some (cutAt b151 4, E151_4 (v18 + 1) (x0), L151_4 (v18 + 1) (x0), [Decidable.decide (v18 < (↑(List.length (bytesOf x0)) : Int)) = Bool.true, 0 ≤ v18, v18 < (↑(List.length (bytesOf x0)) : Int), Decidable.decide (List.getD (bytesOf x0) (Int.toNat v18) 0 ≥ 97) = Bool.true, Decidable.decide (List.getD (bytesOf x0) (Int.toNat v18) 0 ≥ 48) = Bool.true, (!Decidable.decide (List.getD (bytesOf x0) (Int.toNat v18) 0 ≤ 122)) = Bool.true, (v18 == 0) = Bool.false, (!Decidable.decide (List.getD (bytesOf x0) (Int.toNat v18) 0 ≤ 57)) = Bool.false, InR IntKind.i64 (v18 + 1)]) := by kernel_rfl
theorem p151_6 (v18 : Int) (x0 : ByteArray) : Am.runN tab ext151 false 46 [] 2000 [] [] [16, 17, 18] [0] [true, true, true, false, false] (cutAt b151 4) (E151_4 v18 x0) (L151_4 v18 x0) = some (cutAt b151 4, E151_4 (v18 + 1) (x0), L151_4 (v18 + 1) (x0), [Decidable.decide (v18 < (↑(List.length (bytesOf x0)) : Int)) = Bool.true, 0 ≤ v18, v18 < (↑(List.length (bytesOf x0)) : Int), Decidable.decide (List.getD (bytesOf x0) (Int.toNat v18) 0 ≥ 97) = Bool.true, Decidable.decide (List.getD (bytesOf x0) (Int.toNat v18) 0 ≥ 48) = Bool.true, (!Decidable.decide (List.getD (bytesOf x0) (Int.toNat v18) 0 ≤ 122)) = Bool.false, Bool.false = Bool.false, InR IntKind.i64 (v18 + 1)]) := by kernel_rfl
theorem p151_7 (v18 : Int) (x0 : ByteArray) : runF tab ext151 false 46 [] 2000 [] tys151 Tryd.f151.results [true, true, false, true, true, true] (cutAt b151 4) (E151_4 v18 x0) (L151_4 v18 x0) = some ([Dyn.mk Ty.bool Bool.false], [], [Decidable.decide (v18 < (↑(List.length (bytesOf x0)) : Int)) = Bool.true, 0 ≤ v18, v18 < (↑(List.length (bytesOf x0)) : Int), Decidable.decide (List.getD (bytesOf x0) (Int.toNat v18) 0 ≥ 97) = Bool.true, Decidable.decide (List.getD (bytesOf x0) (Int.toNat v18) 0 ≥ 48) = Bool.false, (!Decidable.decide (List.getD (bytesOf x0) (Int.toNat v18) 0 ≤ 122)) = Bool.true, (v18 == 0) = Bool.true, Bool.true = Bool.true]) := by kernel_rfl
theorem p151_8 (v18 : Int) (x0 : ByteArray) : runF tab ext151 false 46 [] 2000 [] tys151 Tryd.f151.results [true, true, false, true, false, true] (cutAt b151 4) (E151_4 v18 x0) (L151_4 v18 x0) = some ([Dyn.mk Ty.bool Bool.false], [], [Decidable.decide (v18 < (↑(List.length (bytesOf x0)) : Int)) = Bool.true, 0 ≤ v18, v18 < (↑(List.length (bytesOf x0)) : Int), Decidable.decide (List.getD (bytesOf x0) (Int.toNat v18) 0 ≥ 97) = Bool.true, Decidable.decide (List.getD (bytesOf x0) (Int.toNat v18) 0 ≥ 48) = Bool.false, (!Decidable.decide (List.getD (bytesOf x0) (Int.toNat v18) 0 ≤ 122)) = Bool.true, (v18 == 0) = Bool.false, Bool.true = Bool.true]) := by kernel_rfl
theorem p151_9 (v18 : Int) (x0 : ByteArray) : Am.runN tab ext151 false 46 [] 2000 [] [] [16, 17, 18] [0] [true, true, false, false, false] (cutAt b151 4) (E151_4 v18 x0) (L151_4 v18 x0) = some (cutAt b151 4, E151_4 (v18 + 1) (x0), L151_4 (v18 + 1) (x0), [Decidable.decide (v18 < (↑(List.length (bytesOf x0)) : Int)) = Bool.true, 0 ≤ v18, v18 < (↑(List.length (bytesOf x0)) : Int), Decidable.decide (List.getD (bytesOf x0) (Int.toNat v18) 0 ≥ 97) = Bool.true, Decidable.decide (List.getD (bytesOf x0) (Int.toNat v18) 0 ≥ 48) = Bool.false, (!Decidable.decide (List.getD (bytesOf x0) (Int.toNat v18) 0 ≤ 122)) = Bool.false, Bool.false = Bool.false, InR IntKind.i64 (v18 + 1)]) := by kernel_rfl
theorem p151_10 (v18 : Int) (x0 : ByteArray) : runF tab ext151 false 46 [] 2000 [] tys151 Tryd.f151.results [true, false, true, true, true, true] (cutAt b151 4) (E151_4 v18 x0) (L151_4 v18 x0) = some ([Dyn.mk Ty.bool Bool.false], [], [Decidable.decide (v18 < (↑(List.length (bytesOf x0)) : Int)) = Bool.true, 0 ≤ v18, v18 < (↑(List.length (bytesOf x0)) : Int), Decidable.decide (List.getD (bytesOf x0) (Int.toNat v18) 0 ≥ 97) = Bool.false, Decidable.decide (List.getD (bytesOf x0) (Int.toNat v18) 0 ≥ 48) = Bool.true, Bool.true = Bool.true, (v18 == 0) = Bool.true, Bool.true = Bool.true]) := by kernel_rfl
theorem p151_11 (v18 : Int) (x0 : ByteArray) : runF tab ext151 false 46 [] 2000 [] tys151 Tryd.f151.results [true, false, true, true, false, true] (cutAt b151 4) (E151_4 v18 x0) (L151_4 v18 x0) = some ([Dyn.mk Ty.bool Bool.false], [], [Decidable.decide (v18 < (↑(List.length (bytesOf x0)) : Int)) = Bool.true, 0 ≤ v18, v18 < (↑(List.length (bytesOf x0)) : Int), Decidable.decide (List.getD (bytesOf x0) (Int.toNat v18) 0 ≥ 97) = Bool.false, Decidable.decide (List.getD (bytesOf x0) (Int.toNat v18) 0 ≥ 48) = Bool.true, Bool.true = Bool.true, (v18 == 0) = Bool.false, (!Decidable.decide (List.getD (bytesOf x0) (Int.toNat v18) 0 ≤ 57)) = Bool.true]) := by kernel_rfl
theorem p151_12 (v18 : Int) (x0 : ByteArray) : Am.runN tab ext151 false 46 [] 2000 [] [] [16, 17, 18] [0] [true, false, true, true, false, false] (cutAt b151 4) (E151_4 v18 x0) (L151_4 v18 x0) = some (cutAt b151 4, E151_4 (v18 + 1) (x0), L151_4 (v18 + 1) (x0), [Decidable.decide (v18 < (↑(List.length (bytesOf x0)) : Int)) = Bool.true, 0 ≤ v18, v18 < (↑(List.length (bytesOf x0)) : Int), Decidable.decide (List.getD (bytesOf x0) (Int.toNat v18) 0 ≥ 97) = Bool.false, Decidable.decide (List.getD (bytesOf x0) (Int.toNat v18) 0 ≥ 48) = Bool.true, Bool.true = Bool.true, (v18 == 0) = Bool.false, (!Decidable.decide (List.getD (bytesOf x0) (Int.toNat v18) 0 ≤ 57)) = Bool.false, InR IntKind.i64 (v18 + 1)]) := by kernel_rfl
theorem p151_13 (v18 : Int) (x0 : ByteArray) : runF tab ext151 false 46 [] 2000 [] tys151 Tryd.f151.results [true, false, false, true, true, true] (cutAt b151 4) (E151_4 v18 x0) (L151_4 v18 x0) = some ([Dyn.mk Ty.bool Bool.false], [], [Decidable.decide (v18 < (↑(List.length (bytesOf x0)) : Int)) = Bool.true, 0 ≤ v18, v18 < (↑(List.length (bytesOf x0)) : Int), Decidable.decide (List.getD (bytesOf x0) (Int.toNat v18) 0 ≥ 97) = Bool.false, Decidable.decide (List.getD (bytesOf x0) (Int.toNat v18) 0 ≥ 48) = Bool.false, Bool.true = Bool.true, (v18 == 0) = Bool.true, Bool.true = Bool.true]) := by kernel_rfl
theorem p151_14 (v18 : Int) (x0 : ByteArray) : runF tab ext151 false 46 [] 2000 [] tys151 Tryd.f151.results [true, false, false, true, false, true] (cutAt b151 4) (E151_4 v18 x0) (L151_4 v18 x0) = some ([Dyn.mk Ty.bool Bool.false], [], [Decidable.decide (v18 < (↑(List.length (bytesOf x0)) : Int)) = Bool.true, 0 ≤ v18, v18 < (↑(List.length (bytesOf x0)) : Int), Decidable.decide (List.getD (bytesOf x0) (Int.toNat v18) 0 ≥ 97) = Bool.false, Decidable.decide (List.getD (bytesOf x0) (Int.toNat v18) 0 ≥ 48) = Bool.false, Bool.true = Bool.true, (v18 == 0) = Bool.false, Bool.true = Bool.true]) := by kernel_rfl
theorem p151_15 (v18 : Int) (x0 : ByteArray) : runF tab ext151 false 46 [] 2000 [] tys151 Tryd.f151.results [false] (cutAt b151 4) (E151_4 v18 x0) (L151_4 v18 x0) = some ([Dyn.mk Ty.bool Bool.true], [], [Decidable.decide (v18 < (↑(List.length (bytesOf x0)) : Int)) = Bool.false]) := by kernel_rfl
theorem snd151 : ∀ n, (∀ (x0 : ByteArray) ds, R151 n x0 ds → ∀ w0 O q, AtV Tryd.prog 151 (PostR ds [] [] q w0 O) 46 w0 O q [] [.code b151] (entE 0 0 sig151 (x0, ())) (entL sig151 (x0, ()))) ∧ (∀ (v18 : Int) (x0 : ByteArray) ds, R151_4 n v18 x0 ds → ∀ w0 O q, AtV Tryd.prog 151 (PostR ds [] [] q w0 O) 46 w0 O q [] (cutAt b151 4) (E151_4 v18 x0) (L151_4 v18 x0)) := by
  intro n
  induction n with
  | zero => exact ⟨fun _ _ h => by simp only [R151] at h, fun _ _ _ h => by simp only [R151_4] at h⟩
  | succ n ih =>
  obtain ⟨ih, ih4⟩ := ih
  refine ⟨?_, ?_⟩
  · intro x0 ds h w0 O q
    rw [R151] at h
    by_cases b0 : (Decidable.decide ((↑(ByteArray.size x0) : Int) < 1)) = true
    · rw [if_pos b0] at h
      subst h
      exact AtV.fin Tryd.func151 tabOk ext151Ok mixed (p151_0 x0) ⟨b0, rfl, trivial⟩
    · rw [if_neg b0] at h
      replace b0 := Bool.eq_false_iff.2 b0
      by_cases b1 : (Decidable.decide ((↑(ByteArray.size x0) : Int) > 10)) = true
      · rw [if_pos b1] at h
        subst h
        exact AtV.fin Tryd.func151 tabOk ext151Ok mixed (p151_1 x0) ⟨b0, b1, trivial⟩
      · rw [if_neg b1] at h
        replace b1 := Bool.eq_false_iff.2 b1
        exact AtV.runN tabOk ext151Ok mixed (p151_2 x0) ⟨b0, b1, trivial⟩ (ih4 _ _ _ h w0 O q)

  · intro v18 x0 ds h w0 O q
    rw [R151_4] at h
    by_cases b0 : (Decidable.decide (v18 < (↑(List.length (bytesOf x0)) : Int))) = true
    · rw [if_pos b0] at h
      obtain ⟨s0, s1, h⟩ := h
      by_cases b1 : (Decidable.decide (List.getD (bytesOf x0) (Int.toNat v18) 0 ≥ 97)) = true
      · rw [if_pos b1] at h
        by_cases b2 : (Decidable.decide (List.getD (bytesOf x0) (Int.toNat v18) 0 ≥ 48)) = true
        · rw [if_pos b2] at h
          by_cases b3 : (!Decidable.decide (List.getD (bytesOf x0) (Int.toNat v18) 0 ≤ 122)) = true
          · rw [if_pos b3] at h
            by_cases b4 : (v18 == 0) = true
            · rw [if_pos b4] at h
              subst h
              exact AtV.fin Tryd.func151 tabOk ext151Ok mixed (p151_3 v18 x0) ⟨b0, s0, s1, b1, b2, b3, b4, rfl, trivial⟩
            · rw [if_neg b4] at h
              replace b4 := Bool.eq_false_iff.2 b4
              by_cases b5 : (!Decidable.decide (List.getD (bytesOf x0) (Int.toNat v18) 0 ≤ 57)) = true
              · rw [if_pos b5] at h
                subst h
                exact AtV.fin Tryd.func151 tabOk ext151Ok mixed (p151_4 v18 x0) ⟨b0, s0, s1, b1, b2, b3, b4, b5, trivial⟩
              · rw [if_neg b5] at h
                replace b5 := Bool.eq_false_iff.2 b5
                obtain ⟨s2, h⟩ := h
                exact AtV.runN tabOk ext151Ok mixed (p151_5 v18 x0) ⟨b0, s0, s1, b1, b2, b3, b4, b5, s2, trivial⟩ (ih4 _ _ _ h w0 O q)
          · rw [if_neg b3] at h
            replace b3 := Bool.eq_false_iff.2 b3
            obtain ⟨s2, h⟩ := h
            exact AtV.runN tabOk ext151Ok mixed (p151_6 v18 x0) ⟨b0, s0, s1, b1, b2, b3, rfl, s2, trivial⟩ (ih4 _ _ _ h w0 O q)
        · rw [if_neg b2] at h
          replace b2 := Bool.eq_false_iff.2 b2
          by_cases b3 : (!Decidable.decide (List.getD (bytesOf x0) (Int.toNat v18) 0 ≤ 122)) = true
          · rw [if_pos b3] at h
            by_cases b4 : (v18 == 0) = true
            · rw [if_pos b4] at h
              subst h
              exact AtV.fin Tryd.func151 tabOk ext151Ok mixed (p151_7 v18 x0) ⟨b0, s0, s1, b1, b2, b3, b4, rfl, trivial⟩
            · rw [if_neg b4] at h
              replace b4 := Bool.eq_false_iff.2 b4
              subst h
              exact AtV.fin Tryd.func151 tabOk ext151Ok mixed (p151_8 v18 x0) ⟨b0, s0, s1, b1, b2, b3, b4, rfl, trivial⟩
          · rw [if_neg b3] at h
            replace b3 := Bool.eq_false_iff.2 b3
            obtain ⟨s2, h⟩ := h
            exact AtV.runN tabOk ext151Ok mixed (p151_9 v18 x0) ⟨b0, s0, s1, b1, b2, b3, rfl, s2, trivial⟩ (ih4 _ _ _ h w0 O q)
      · rw [if_neg b1] at h
        replace b1 := Bool.eq_false_iff.2 b1
        by_cases b2 : (Decidable.decide (List.getD (bytesOf x0) (Int.toNat v18) 0 ≥ 48)) = true
        · rw [if_pos b2] at h
          by_cases b3 : (v18 == 0) = true
          · rw [if_pos b3] at h
            subst h
            exact AtV.fin Tryd.func151 tabOk ext151Ok mixed (p151_10 v18 x0) ⟨b0, s0, s1, b1, b2, rfl, b3, rfl, trivial⟩
          · rw [if_neg b3] at h
            replace b3 := Bool.eq_false_iff.2 b3
            by_cases b4 : (!Decidable.decide (List.getD (bytesOf x0) (Int.toNat v18) 0 ≤ 57)) = true
            · rw [if_pos b4] at h
              subst h
              exact AtV.fin Tryd.func151 tabOk ext151Ok mixed (p151_11 v18 x0) ⟨b0, s0, s1, b1, b2, rfl, b3, b4, trivial⟩
            · rw [if_neg b4] at h
              replace b4 := Bool.eq_false_iff.2 b4
              obtain ⟨s2, h⟩ := h
              exact AtV.runN tabOk ext151Ok mixed (p151_12 v18 x0) ⟨b0, s0, s1, b1, b2, rfl, b3, b4, s2, trivial⟩ (ih4 _ _ _ h w0 O q)
        · rw [if_neg b2] at h
          replace b2 := Bool.eq_false_iff.2 b2
          by_cases b3 : (v18 == 0) = true
          · rw [if_pos b3] at h
            subst h
            exact AtV.fin Tryd.func151 tabOk ext151Ok mixed (p151_13 v18 x0) ⟨b0, s0, s1, b1, b2, rfl, b3, rfl, trivial⟩
          · rw [if_neg b3] at h
            replace b3 := Bool.eq_false_iff.2 b3
            subst h
            exact AtV.fin Tryd.func151 tabOk ext151Ok mixed (p151_14 v18 x0) ⟨b0, s0, s1, b1, b2, rfl, b3, rfl, trivial⟩
    · rw [if_neg b0] at h
      replace b0 := Bool.eq_false_iff.2 b0
      subst h
      exact AtV.fin Tryd.func151 tabOk ext151Ok mixed (p151_15 v18 x0) ⟨b0, trivial⟩



/-- A byte of a name, at its place. -/
def ok151 (i : Nat) (b : Int) : Bool := (decide (97 ≤ b) && decide (b ≤ 122)) || (!(i == 0) && (decide (48 ≤ b) && decide (b ≤ 57)))
def g151_0 (x0 : ByteArray) : Bool := decide (1 ≤ x0.size) && decide (x0.size ≤ 10) && allI ok151 0 (bytesOf x0)
def P151 (x0 : ByteArray) : Prop := True

theorem step151 (n i : Nat) (x0 : ByteArray) (hw : Wf .str x0) (hi : i < (bytesOf x0).length) (ds : List Dyn) :
    R151_4 (n + 1) (i : Int) x0 ds ↔ (if ok151 i ((bytesOf x0).getD i 0) = true then R151_4 n ((i : Int) + 1) x0 ds else ds = [⟨.bool, false⟩]) := by
  have hu := inR_up (xs := bytesOf x0) (by rw [bytesOf_length]; exact hw) hi
  rw [R151_4, if_pos (by simp; omega)]
  simp only [Int.toNat_natCast]
  have hb : (0 : Int) ≤ (i : Int) ∧ (i : Int) < ((bytesOf x0).length : Int) := by omega
  have hz : ((i : Int) == 0) = (i == 0) := by
    cases i with
    | zero => rfl
    | succ k => simp; omega
  simp only [hz, ok151, hu, true_and, hb.1, hb.2, ge_iff_le]
  by_cases h1 : (97 : Int) ≤ (bytesOf x0).getD i 0 <;> by_cases h2 : (bytesOf x0).getD i 0 ≤ 122 <;> by_cases h3 : (48 : Int) ≤ (bytesOf x0).getD i 0 <;> by_cases h4 : (bytesOf x0).getD i 0 ≤ 57 <;> rcases Bool.eq_false_or_eq_true (i == 0) with e0 | e0 <;> first | (exfalso; omega) | simp only [h1, h2, h3, h4, e0, decide_true, decide_false, Bool.not_true, Bool.not_false, Bool.true_and, Bool.false_and, Bool.and_true, Bool.and_false, Bool.true_or, Bool.or_true, Bool.or_false, Bool.false_or, if_true, if_false, Bool.false_eq_true]

theorem top151 (x0 : ByteArray) (hw : Wf .str x0) : R151 (x0.size + 1 + 1) x0 [⟨.bool, g151_0 x0⟩] := by
  have hl := bytesOf_length x0
  rw [R151]
  by_cases h0 : (x0.size : Int) < 1
  · rw [if_pos (by simpa using h0)]
    have : ¬ 1 ≤ x0.size := by omega
    simp [g151_0, this]
  · rw [if_neg (by simpa using h0)]
    by_cases h1 : (x0.size : Int) > 10
    · rw [if_pos (by simpa using h1)]
      have : ¬ x0.size ≤ 10 := by omega
      simp [g151_0, this]
    · rw [if_neg (by simpa using h1)]
      have key := loop_testI (bytesOf x0) 0 ok151 [(⟨.bool, false⟩ : Dyn)] [⟨.bool, true⟩] (fun n i ds => R151_4 n i x0 ds) (fun n => ?_) (fun n i hi hok ds hr => ?_) (fun n i hi hok => ?_)
      · rw [hl] at key
        have e : g151_0 x0 = allI ok151 0 (bytesOf x0) := by
          have a : 1 ≤ x0.size := by omega
          have b : x0.size ≤ 10 := by omega
          simp [g151_0, a, b]
        rw [e]
        cases h : allI ok151 0 (bytesOf x0) with
        | true => rw [if_pos h] at key; exact key
        | false => rw [if_neg (by rw [h]; simp)] at key; exact key
      · show R151_4 (n + 1) ((bytesOf x0).length : Int) x0 _
        rw [R151_4, if_neg (by simp)]
      · exact (step151 n i x0 hw hi ds).2 (by rw [if_pos hok]; exact hr)
      · exact (step151 n i x0 hw hi _).2 (by rw [if_neg (by rw [hok]; simp)])

def S151 : Am.Spec := { sig := sig151, pre := fun ⟨x0, _⟩ => P151 x0, res := fun ⟨x0, _⟩ => [⟨Ty.bool, g151_0 x0⟩] }
theorem con151 : Contract Tryd.prog 151 S151 := contract_of Tryd.func151 hb151 (Nat.le_of_ble_eq_true (by kernel_rfl)) (fun ⟨x0, _⟩ h hwf w0 O q =>
  (snd151 _).1 x0 _ (top151 x0 hwf.1) w0 O q)

end Go.Proofs.YtakodkjcmacofaaDoor

/- The contracts of the library that this program uses, laid at this program. Written by a tool of the kit. -/
set_option linter.unusedVariables false
set_option maxRecDepth 100000
namespace Go.Proofs
open Go.Shelf
def Tryd.lays169_ren : Go.Shelf.Ren := ⟨fun | 169 => 97 | n => n, fun | 70 => 93 | 9 => 9 | 0 => 0 | 72 => 95 | 37 => 45 | 127 => 133 | 3 => 3 | 5 => 5 | n => n, fun | n => n⟩
theorem Tryd.lays169 : Go.Proofs.Lays.n169 Tryd.prog Tryd.lays169_ren := {
  mixed := by kernel_rfl
  f169 := Tryd.func97.trans (congrArg some (by kernel_rfl))
  t0 := Tryd.underlying0
  a0 := Tryd.isAgg0
  z0 := Tryd.sizeOf0
  v0 := Tryd.zeroValue0
  t3 := Tryd.underlying3
  a3 := Tryd.isAgg3
  z3 := Tryd.sizeOf3
  v3 := Tryd.zeroValue3
  t9 := Tryd.underlying9
  a9 := Tryd.isAgg9
  z9 := Tryd.sizeOf9
  v9 := Tryd.zeroValue9
  t37 := Tryd.underlying45
  a37 := Tryd.isAgg45
  z37 := Tryd.sizeOf45
  v37 := Tryd.zeroValue45
  t70 := Tryd.underlying93
  a70 := Tryd.isAgg93
  z70 := Tryd.sizeOf93
  v70 := Tryd.zeroValue93
  t72 := Tryd.underlying95
  a72 := Tryd.isAgg95
  z72 := Tryd.sizeOf95
  v72 := Tryd.zeroValue95
  t127 := Tryd.underlying133
  a127 := Tryd.isAgg133
  z127 := Tryd.sizeOf133
  v127 := Tryd.zeroValue133 }
theorem Tryd.Builder_Extra_169 : Builder.Extra Tryd.prog Tryd.lays169_ren := {
  sizeBuilder := by kernel_rfl
  liesBuilder := by kernel_rfl
  t5 := Tryd.underlying5
  a5 := Tryd.isAgg5
  z5 := Tryd.sizeOf5
  v5 := Tryd.zeroValue5
  infoByte := by kernel_rfl
  cellsByte := by kernel_rfl
  sizeByte := by kernel_rfl
  neB5 := by decide }
def Tryd.lays156_ren : Go.Shelf.Ren := ⟨fun | 156 => 157 | 165 => 169 | 166 => 93 | 169 => 97 | 240 => 140 | 241 => 187 | 276 => 166 | 277 => 196 | n => n, fun | 31 => 67 | 9 => 9 | 3 => 3 | 4 => 4 | 0 => 0 | 20 => 20 | 72 => 95 | 76 => 98 | 70 => 93 | 37 => 45 | 75 => 97 | 127 => 133 | 164 => 143 | 5 => 5 | 80 => 102 | n => n, fun | n => n⟩
theorem Tryd.lays156 : Go.Proofs.Lays.n156 Tryd.prog Tryd.lays156_ren := {
  mixed := by kernel_rfl
  f156 := Tryd.func157.trans (congrArg some (by kernel_rfl))
  f165 := Tryd.func169.trans (congrArg some (by kernel_rfl))
  f166 := Tryd.func93.trans (congrArg some (by kernel_rfl))
  f169 := Tryd.func97.trans (congrArg some (by kernel_rfl))
  f240 := Tryd.func140.trans (congrArg some (by kernel_rfl))
  f241 := Tryd.func187.trans (congrArg some (by kernel_rfl))
  f276 := Tryd.func166.trans (congrArg some (by kernel_rfl))
  f277 := Tryd.func196.trans (congrArg some (by kernel_rfl))
  t0 := Tryd.underlying0
  a0 := Tryd.isAgg0
  z0 := Tryd.sizeOf0
  v0 := Tryd.zeroValue0
  t3 := Tryd.underlying3
  a3 := Tryd.isAgg3
  z3 := Tryd.sizeOf3
  v3 := Tryd.zeroValue3
  t4 := Tryd.underlying4
  a4 := Tryd.isAgg4
  z4 := Tryd.sizeOf4
  v4 := Tryd.zeroValue4
  t9 := Tryd.underlying9
  a9 := Tryd.isAgg9
  z9 := Tryd.sizeOf9
  v9 := Tryd.zeroValue9
  t20 := Tryd.underlying20
  a20 := Tryd.isAgg20
  z20 := Tryd.sizeOf20
  v20 := Tryd.zeroValue20
  t31 := Tryd.underlying67
  a31 := Tryd.isAgg67
  z31 := Tryd.sizeOf67
  v31 := Tryd.zeroValue67
  t37 := Tryd.underlying45
  a37 := Tryd.isAgg45
  z37 := Tryd.sizeOf45
  v37 := Tryd.zeroValue45
  t70 := Tryd.underlying93
  a70 := Tryd.isAgg93
  z70 := Tryd.sizeOf93
  v70 := Tryd.zeroValue93
  t72 := Tryd.underlying95
  a72 := Tryd.isAgg95
  z72 := Tryd.sizeOf95
  v72 := Tryd.zeroValue95
  t75 := Tryd.underlying97
  a75 := Tryd.isAgg97
  z75 := Tryd.sizeOf97
  v75 := Tryd.zeroValue97
  t76 := Tryd.underlying98
  a76 := Tryd.isAgg98
  z76 := Tryd.sizeOf98
  v76 := Tryd.zeroValue98
  t127 := Tryd.underlying133
  a127 := Tryd.isAgg133
  z127 := Tryd.sizeOf133
  v127 := Tryd.zeroValue133
  t164 := Tryd.underlying143
  a164 := Tryd.isAgg143
  z164 := Tryd.sizeOf143
  v164 := Tryd.zeroValue143 }
theorem Tryd.Builder_Extra_156 : Builder.Extra Tryd.prog Tryd.lays156_ren := {
  sizeBuilder := by kernel_rfl
  liesBuilder := by kernel_rfl
  t5 := Tryd.underlying5
  a5 := Tryd.isAgg5
  z5 := Tryd.sizeOf5
  v5 := Tryd.zeroValue5
  infoByte := by kernel_rfl
  cellsByte := by kernel_rfl
  sizeByte := by kernel_rfl
  neB5 := by decide }
open Go.RowKit in theorem Tryd.strings_Join_none (a : Option Addr) (c : Nat) (sep : ByteArray) (w : World) :
    Calls Tryd.prog 157 #[.slice a 0 c, .string sep] w fun e w' => e = .returned (.string ⟨#[]⟩) ∧ w' = w := Any.strings_Join_none Tryd.lays156 Tryd.Builder_Extra_156 a c sep w
open Go.RowKit in theorem Tryd.strings_Join (bk o c : Nat) (xs : List ByteArray) (sep : ByteArray) (w : World) (hcells : ∀ (j : Nat) x, xs[j]? = some x → w.cell? ⟨bk, o + j, none⟩ = some (.string x)) (hbk : bk < w.heap.size) (hN : xs.length ≤ 140737488355328) (hcap : xs.length ≤ c) (hlen : (Lib.join (xs.map (·.data.toList)) sep.data.toList).length ≤ 140737488355328) :
    Calls Tryd.prog 157 #[.slice (some ⟨bk, o, none⟩) xs.length c, .string sep] w fun e w' => e = .returned (.string ⟨(Lib.join (xs.map (·.data.toList)) sep.data.toList).toArray⟩) ∧ Below w.heap.size w w' := Any.strings_Join Tryd.lays156 Tryd.Builder_Extra_156 bk o c xs sep w hcells hbk hN hcap hlen
open Go.RowKit in theorem Tryd.Builder_String_any_k (B b : Nat) (l : List UInt8) (w : World) (h : Lib.IsBuilderF 95 5 B b (Lib.byteCells l) w) (hBw : B ≤ w.heap.size) :
    Calls Tryd.prog 97 #[.pointer (some ⟨b, 0, none⟩)] w fun e w' => e = .returned (.string ⟨l.toArray⟩) ∧ (Lib.IsBuilderF 95 5 B b (Lib.byteCells l) w' ∧ Below B w w' ∧ Lib.OthersKept 5 (some b) w w') := Any.Builder_String_any_k Tryd.lays169 Tryd.Builder_Extra_169 B b l w h hBw
def Tryd.laysM173_ren : Go.Shelf.Ren := ⟨fun | 173 => 141 | 246 => 167 | 283 => 181 | 284 => 182 | 285 => 183 | 286 => 184 | 129 => 192 | 317 => 191 | 318 => 193 | 319 => 194 | 320 => 195 | 337 => 197 | 338 => 198 | n => n, fun | 2 => 2 | 3 => 3 | 9 => 9 | 4 => 4 | 171 => 157 | 0 => 0 | 53 => 134 | 37 => 45 | 5 => 5 | 173 => 160 | 212 => 169 | 51 => 162 | 20 => 20 | 213 => 170 | 46 => 145 | 232 => 179 | 233 => 180 | n => n, fun | 17 => 1 | 18 => 4 | 19 => 5 | n => n⟩
theorem Tryd.laysM173 : Go.Proofs.LaysM.n173 Tryd.prog Tryd.laysM173_ren := {
  mixed := by kernel_rfl
  f129 := Tryd.func192.trans (congrArg some (by kernel_rfl))
  f173 := Tryd.func141.trans (congrArg some (by kernel_rfl))
  f246 := Tryd.func167.trans (congrArg some (by kernel_rfl))
  f283 := Tryd.func181.trans (congrArg some (by kernel_rfl))
  f284 := Tryd.func182.trans (congrArg some (by kernel_rfl))
  f285 := Tryd.func183.trans (congrArg some (by kernel_rfl))
  f286 := Tryd.func184.trans (congrArg some (by kernel_rfl))
  f317 := Tryd.func191.trans (congrArg some (by kernel_rfl))
  f318 := Tryd.func193.trans (congrArg some (by kernel_rfl))
  f319 := Tryd.func194.trans (congrArg some (by kernel_rfl))
  f320 := Tryd.func195.trans (congrArg some (by kernel_rfl))
  f337 := Tryd.func197.trans (congrArg some (by kernel_rfl))
  f338 := Tryd.func198.trans (congrArg some (by kernel_rfl))
  t0 := Tryd.underlying0
  a0 := Tryd.isAgg0
  z0 := Tryd.sizeOf0
  v0 := Tryd.zeroValue0
  t2 := Tryd.underlying2
  a2 := Tryd.isAgg2
  z2 := Tryd.sizeOf2
  v2 := Tryd.zeroValue2
  t3 := Tryd.underlying3
  a3 := Tryd.isAgg3
  z3 := Tryd.sizeOf3
  v3 := Tryd.zeroValue3
  t4 := Tryd.underlying4
  a4 := Tryd.isAgg4
  z4 := Tryd.sizeOf4
  v4 := Tryd.zeroValue4
  t5 := Tryd.underlying5
  a5 := Tryd.isAgg5
  z5 := Tryd.sizeOf5
  v5 := Tryd.zeroValue5
  t9 := Tryd.underlying9
  a9 := Tryd.isAgg9
  z9 := Tryd.sizeOf9
  v9 := Tryd.zeroValue9
  t20 := Tryd.underlying20
  a20 := Tryd.isAgg20
  z20 := Tryd.sizeOf20
  v20 := Tryd.zeroValue20
  t37 := Tryd.underlying45
  a37 := Tryd.isAgg45
  z37 := Tryd.sizeOf45
  v37 := Tryd.zeroValue45
  t46 := Tryd.underlying145
  a46 := Tryd.isAgg145
  z46 := Tryd.sizeOf145
  v46 := Tryd.zeroValue145
  t51 := Tryd.underlying162
  a51 := Tryd.isAgg162
  z51 := Tryd.sizeOf162
  v51 := Tryd.zeroValue162
  t53 := Tryd.underlying134
  a53 := Tryd.isAgg134
  z53 := Tryd.sizeOf134
  v53 := Tryd.zeroValue134
  t171 := Tryd.underlying157
  a171 := Tryd.isAgg157
  z171 := Tryd.sizeOf157
  v171 := Tryd.zeroValue157
  t173 := Tryd.underlying160
  a173 := Tryd.isAgg160
  z173 := Tryd.sizeOf160
  v173 := Tryd.zeroValue160
  t212 := Tryd.underlying169
  a212 := Tryd.isAgg169
  z212 := Tryd.sizeOf169
  v212 := Tryd.zeroValue169
  t213 := Tryd.underlying170
  a213 := Tryd.isAgg170
  z213 := Tryd.sizeOf170
  t232 := Tryd.underlying179
  a232 := Tryd.isAgg179
  z232 := Tryd.sizeOf179
  v232 := Tryd.zeroValue179
  t233 := Tryd.underlying180
  a233 := Tryd.isAgg180
  z233 := Tryd.sizeOf180
  v233 := Tryd.zeroValue180
  g17 := by kernel_rfl
  g18 := by kernel_rfl
  g19 := by kernel_rfl
  i0 := by kernel_rfl
  i2 := by kernel_rfl
  i3 := by kernel_rfl
  i4 := by kernel_rfl
  i5 := by kernel_rfl
  i9 := by kernel_rfl
  i20 := by kernel_rfl
  i37 := by kernel_rfl
  i46 := by kernel_rfl
  i51 := by kernel_rfl
  i53 := by kernel_rfl
  i171 := by kernel_rfl
  i173 := by kernel_rfl
  i212 := by kernel_rfl
  i232 := by kernel_rfl
  i233 := by kernel_rfl
  m17 := by kernel_rfl
  m18 := by kernel_rfl
  m19 := by kernel_rfl }
open Go.RowKit Go.Sort Go.Lib in theorem Tryd.strconv_FormatInt_10 (n : Int) (h0 : -9223372036854775808 ≤ n) (h1 : n ≤ 9223372036854775807) (w : World) (htab : Lib.TabIs Tryd.prog w "internal/strconv.uint64pow10" .u64 Lib.pow10Tab) :
    Calls Tryd.prog 141 #[.int .i64 n, .int .i64 10] w fun e w' => e = .returned (.string ⟨(Lib.itoa n).toArray⟩) ∧ ∃ k os, w' = grow (w.drewN k) os := Any.strconv_FormatInt_10 Tryd.laysM173 n h0 h1 w htab
def Tryd.lays144_ren : Go.Shelf.Ren := ⟨fun | 144 => 163 | 143 => 162 | 219 => 147 | 217 => 171 | 225 => 172 | 224 => 173 | 267 => 174 | 266 => 188 | 314 => 189 | n => n, fun | 9 => 9 | 4 => 4 | 3 => 3 | 5 => 5 | 46 => 145 | 146 => 163 | 51 => 162 | n => n, fun | 1 => 0 | n => n⟩
theorem Tryd.lays144 : Go.Proofs.Lays.n144 Tryd.prog Tryd.lays144_ren := {
  mixed := by kernel_rfl
  f143 := Tryd.func162.trans (congrArg some (by kernel_rfl))
  f144 := Tryd.func163.trans (congrArg some (by kernel_rfl))
  f217 := Tryd.func171.trans (congrArg some (by kernel_rfl))
  f219 := Tryd.func147.trans (congrArg some (by kernel_rfl))
  f224 := Tryd.func173.trans (congrArg some (by kernel_rfl))
  f225 := Tryd.func172.trans (congrArg some (by kernel_rfl))
  f266 := Tryd.func188.trans (congrArg some (by kernel_rfl))
  f267 := Tryd.func174.trans (congrArg some (by kernel_rfl))
  f314 := Tryd.func189.trans (congrArg some (by kernel_rfl))
  t3 := Tryd.underlying3
  a3 := Tryd.isAgg3
  z3 := Tryd.sizeOf3
  v3 := Tryd.zeroValue3
  t4 := Tryd.underlying4
  a4 := Tryd.isAgg4
  z4 := Tryd.sizeOf4
  v4 := Tryd.zeroValue4
  t5 := Tryd.underlying5
  a5 := Tryd.isAgg5
  z5 := Tryd.sizeOf5
  v5 := Tryd.zeroValue5
  t9 := Tryd.underlying9
  a9 := Tryd.isAgg9
  z9 := Tryd.sizeOf9
  v9 := Tryd.zeroValue9
  t46 := Tryd.underlying145
  a46 := Tryd.isAgg145
  z46 := Tryd.sizeOf145
  v46 := Tryd.zeroValue145
  t51 := Tryd.underlying162
  a51 := Tryd.isAgg162
  z51 := Tryd.sizeOf162
  v51 := Tryd.zeroValue162
  t146 := Tryd.underlying163
  a146 := Tryd.isAgg163
  z146 := Tryd.sizeOf163
  v146 := Tryd.zeroValue163
  g1 := by kernel_rfl }
open Go.RowKit Go.Lib in theorem Tryd.strings_Contains (s sub : ByteArray) (m : Int) (w : World) (hs : s.size < 4294967281) (hm : w.cell? ⟨0, 0, none⟩ = some (.int .i64 m)) :
    Calls Tryd.prog 163 #[.string s, .string sub] w fun e w' => e = .returned (.bool (Lib.contains s.data.toList sub.data.toList)) ∧ w' = w := Any.strings_Contains Tryd.lays144 s sub m w hs hm
def Tryd.lays145_ren : Go.Shelf.Ren := ⟨fun | 145 => 64 | 220 => 123 | 219 => 147 | 217 => 171 | 225 => 172 | 224 => 173 | 267 => 174 | 266 => 188 | 314 => 189 | n => n, fun | 9 => 9 | 4 => 4 | 59 => 64 | 3 => 3 | 5 => 5 | 46 => 145 | 146 => 163 | 51 => 162 | n => n, fun | 1 => 0 | n => n⟩
theorem Tryd.lays145 : Go.Proofs.Lays.n145 Tryd.prog Tryd.lays145_ren := {
  mixed := by kernel_rfl
  f145 := Tryd.func64.trans (congrArg some (by kernel_rfl))
  f217 := Tryd.func171.trans (congrArg some (by kernel_rfl))
  f219 := Tryd.func147.trans (congrArg some (by kernel_rfl))
  f220 := Tryd.func123.trans (congrArg some (by kernel_rfl))
  f224 := Tryd.func173.trans (congrArg some (by kernel_rfl))
  f225 := Tryd.func172.trans (congrArg some (by kernel_rfl))
  f266 := Tryd.func188.trans (congrArg some (by kernel_rfl))
  f267 := Tryd.func174.trans (congrArg some (by kernel_rfl))
  f314 := Tryd.func189.trans (congrArg some (by kernel_rfl))
  t3 := Tryd.underlying3
  a3 := Tryd.isAgg3
  z3 := Tryd.sizeOf3
  v3 := Tryd.zeroValue3
  t4 := Tryd.underlying4
  a4 := Tryd.isAgg4
  z4 := Tryd.sizeOf4
  v4 := Tryd.zeroValue4
  t5 := Tryd.underlying5
  a5 := Tryd.isAgg5
  z5 := Tryd.sizeOf5
  v5 := Tryd.zeroValue5
  t9 := Tryd.underlying9
  a9 := Tryd.isAgg9
  z9 := Tryd.sizeOf9
  v9 := Tryd.zeroValue9
  t46 := Tryd.underlying145
  a46 := Tryd.isAgg145
  z46 := Tryd.sizeOf145
  v46 := Tryd.zeroValue145
  t51 := Tryd.underlying162
  a51 := Tryd.isAgg162
  z51 := Tryd.sizeOf162
  v51 := Tryd.zeroValue162
  t59 := Tryd.underlying64
  a59 := Tryd.isAgg64
  z59 := Tryd.sizeOf64
  v59 := Tryd.zeroValue64
  t146 := Tryd.underlying163
  a146 := Tryd.isAgg163
  z146 := Tryd.sizeOf163
  v146 := Tryd.zeroValue163
  g1 := by kernel_rfl }
open Go.RowKit Go.Lib in theorem Tryd.strings_Cut (s sep : ByteArray) (m : Int) (w : World) (hs : s.size < 4294967281) (hm : w.cell? ⟨0, 0, none⟩ = some (.int .i64 m)) :
    Calls Tryd.prog 64 #[.string s, .string sep] w fun e w' => e = .returned (.tuple #[.string ⟨(Lib.cut s.data.toList sep.data.toList).1.toArray⟩, .string ⟨(Lib.cut s.data.toList sep.data.toList).2.1.toArray⟩, .bool (Lib.cut s.data.toList sep.data.toList).2.2]) ∧ ∃ n, w' = w.drewN n := Any.strings_Cut Tryd.lays145 s sep m w hs hm
def Tryd.lays99_ren : Go.Shelf.Ren := ⟨fun | 99 => 84 | 206 => 131 | n => n, fun | 9 => 9 | 4 => 4 | 3 => 3 | n => n, fun | n => n⟩
theorem Tryd.lays99 : Go.Proofs.Lays.n99 Tryd.prog Tryd.lays99_ren := {
  mixed := by kernel_rfl
  f99 := Tryd.func84.trans (congrArg some (by kernel_rfl))
  f206 := Tryd.func131.trans (congrArg some (by kernel_rfl))
  t3 := Tryd.underlying3
  a3 := Tryd.isAgg3
  z3 := Tryd.sizeOf3
  v3 := Tryd.zeroValue3
  t4 := Tryd.underlying4
  a4 := Tryd.isAgg4
  z4 := Tryd.sizeOf4
  v4 := Tryd.zeroValue4
  t9 := Tryd.underlying9
  a9 := Tryd.isAgg9
  z9 := Tryd.sizeOf9
  v9 := Tryd.zeroValue9 }
open Go.RowKit Go.Lib in theorem Tryd.strings_HasPrefix (s p : ByteArray) (w : World) :
    Calls Tryd.prog 84 #[.string s, .string p] w fun e w' => e = .returned (.bool (Lib.hasPrefix s.data.toList p.data.toList)) ∧ w' = w := Any.strings_HasPrefix Tryd.lays99 s p w
def Tryd.lays101_ren : Go.Shelf.Ren := ⟨fun | 101 => 83 | 208 => 130 | 206 => 131 | n => n, fun | 9 => 9 | 4 => 4 | 3 => 3 | n => n, fun | n => n⟩
theorem Tryd.lays101 : Go.Proofs.Lays.n101 Tryd.prog Tryd.lays101_ren := {
  mixed := by kernel_rfl
  f101 := Tryd.func83.trans (congrArg some (by kernel_rfl))
  f206 := Tryd.func131.trans (congrArg some (by kernel_rfl))
  f208 := Tryd.func130.trans (congrArg some (by kernel_rfl))
  t3 := Tryd.underlying3
  a3 := Tryd.isAgg3
  z3 := Tryd.sizeOf3
  v3 := Tryd.zeroValue3
  t4 := Tryd.underlying4
  a4 := Tryd.isAgg4
  z4 := Tryd.sizeOf4
  v4 := Tryd.zeroValue4
  t9 := Tryd.underlying9
  a9 := Tryd.isAgg9
  z9 := Tryd.sizeOf9
  v9 := Tryd.zeroValue9 }
open Go.RowKit Go.Lib in theorem Tryd.strings_TrimPrefix (s p : ByteArray) (w : World) :
    Calls Tryd.prog 83 #[.string s, .string p] w fun e w' => e = .returned (.string ⟨(Lib.trimPrefix s.data.toList p.data.toList).toArray⟩) ∧ w' = w := Any.strings_TrimPrefix Tryd.lays101 s p w
def Tryd.lays102_ren : Go.Shelf.Ren := ⟨fun | 102 => 85 | 209 => 132 | 207 => 158 | n => n, fun | 9 => 9 | 4 => 4 | 3 => 3 | n => n, fun | n => n⟩
theorem Tryd.lays102 : Go.Proofs.Lays.n102 Tryd.prog Tryd.lays102_ren := {
  mixed := by kernel_rfl
  f102 := Tryd.func85.trans (congrArg some (by kernel_rfl))
  f207 := Tryd.func158.trans (congrArg some (by kernel_rfl))
  f209 := Tryd.func132.trans (congrArg some (by kernel_rfl))
  t3 := Tryd.underlying3
  a3 := Tryd.isAgg3
  z3 := Tryd.sizeOf3
  v3 := Tryd.zeroValue3
  t4 := Tryd.underlying4
  a4 := Tryd.isAgg4
  z4 := Tryd.sizeOf4
  v4 := Tryd.zeroValue4
  t9 := Tryd.underlying9
  a9 := Tryd.isAgg9
  z9 := Tryd.sizeOf9
  v9 := Tryd.zeroValue9 }
open Go.RowKit Go.Lib in theorem Tryd.strings_TrimSuffix (s p : ByteArray) (w : World) (hs : s.size ≤ 9223372036854775807) :
    Calls Tryd.prog 85 #[.string s, .string p] w fun e w' => e = .returned (.string ⟨(Lib.trimSuffix s.data.toList p.data.toList).toArray⟩) ∧ w' = w := Any.strings_TrimSuffix Tryd.lays102 s p w hs
def Tryd.lays146_ren : Go.Shelf.Ren := ⟨fun | 146 => 87 | 221 => 134 | 268 => 160 | 138 => 161 | 143 => 162 | 195 => 177 | 197 => 178 | 218 => 179 | 219 => 147 | 260 => 190 | 217 => 171 | 225 => 172 | 224 => 173 | 267 => 174 | 266 => 188 | 314 => 189 | n => n, fun | 9 => 9 | 31 => 67 | 3 => 3 | 4 => 4 | 0 => 0 | 105 => 154 | 21 => 21 | 5 => 5 | 46 => 145 | 119 => 174 | 139 => 177 | 138 => 176 | 146 => 163 | 51 => 162 | n => n, fun | 1 => 0 | 3 => 2 | 4 => 3 | n => n⟩
theorem Tryd.lays146 : Go.Proofs.Lays.n146 Tryd.prog Tryd.lays146_ren := {
  mixed := by kernel_rfl
  f138 := Tryd.func161.trans (congrArg some (by kernel_rfl))
  f143 := Tryd.func162.trans (congrArg some (by kernel_rfl))
  f146 := Tryd.func87.trans (congrArg some (by kernel_rfl))
  f195 := Tryd.func177.trans (congrArg some (by kernel_rfl))
  f197 := Tryd.func178.trans (congrArg some (by kernel_rfl))
  f217 := Tryd.func171.trans (congrArg some (by kernel_rfl))
  f218 := Tryd.func179.trans (congrArg some (by kernel_rfl))
  f219 := Tryd.func147.trans (congrArg some (by kernel_rfl))
  f221 := Tryd.func134.trans (congrArg some (by kernel_rfl))
  f224 := Tryd.func173.trans (congrArg some (by kernel_rfl))
  f225 := Tryd.func172.trans (congrArg some (by kernel_rfl))
  f260 := Tryd.func190.trans (congrArg some (by kernel_rfl))
  f266 := Tryd.func188.trans (congrArg some (by kernel_rfl))
  f267 := Tryd.func174.trans (congrArg some (by kernel_rfl))
  f268 := Tryd.func160.trans (congrArg some (by kernel_rfl))
  f314 := Tryd.func189.trans (congrArg some (by kernel_rfl))
  t0 := Tryd.underlying0
  a0 := Tryd.isAgg0
  z0 := Tryd.sizeOf0
  v0 := Tryd.zeroValue0
  t3 := Tryd.underlying3
  a3 := Tryd.isAgg3
  z3 := Tryd.sizeOf3
  v3 := Tryd.zeroValue3
  t4 := Tryd.underlying4
  a4 := Tryd.isAgg4
  z4 := Tryd.sizeOf4
  v4 := Tryd.zeroValue4
  t5 := Tryd.underlying5
  a5 := Tryd.isAgg5
  z5 := Tryd.sizeOf5
  v5 := Tryd.zeroValue5
  t9 := Tryd.underlying9
  a9 := Tryd.isAgg9
  z9 := Tryd.sizeOf9
  v9 := Tryd.zeroValue9
  t21 := Tryd.underlying21
  a21 := Tryd.isAgg21
  z21 := Tryd.sizeOf21
  v21 := Tryd.zeroValue21
  t31 := Tryd.underlying67
  a31 := Tryd.isAgg67
  z31 := Tryd.sizeOf67
  v31 := Tryd.zeroValue67
  t46 := Tryd.underlying145
  a46 := Tryd.isAgg145
  z46 := Tryd.sizeOf145
  v46 := Tryd.zeroValue145
  t51 := Tryd.underlying162
  a51 := Tryd.isAgg162
  z51 := Tryd.sizeOf162
  v51 := Tryd.zeroValue162
  t105 := Tryd.underlying154
  a105 := Tryd.isAgg154
  z105 := Tryd.sizeOf154
  v105 := Tryd.zeroValue154
  t119 := Tryd.underlying174
  a119 := Tryd.isAgg174
  z119 := Tryd.sizeOf174
  t138 := Tryd.underlying176
  a138 := Tryd.isAgg176
  z138 := Tryd.sizeOf176
  v138 := Tryd.zeroValue176
  t139 := Tryd.underlying177
  a139 := Tryd.isAgg177
  z139 := Tryd.sizeOf177
  v139 := Tryd.zeroValue177
  t146 := Tryd.underlying163
  a146 := Tryd.isAgg163
  z146 := Tryd.sizeOf163
  v146 := Tryd.zeroValue163
  g1 := by kernel_rfl
  g3 := by kernel_rfl
  g4 := by kernel_rfl }
open Go.RowKit Go.Lib in theorem Tryd.strings_Split (s sep : ByteArray) (m : Int) (w : World) (hs : s.size < 4294967281) (hm : w.cell? ⟨0, 0, none⟩ = some (.int .i64 m)) (h1 : 1 ≤ sep.size) :
    Calls Tryd.prog 87 #[.string s, .string sep] w fun e w' =>
      e = .returned (.slice (some ⟨w.heap.size, 0, none⟩) (Lib.countB s sep + 1) (Lib.countB s sep + 1)) ∧ w' = w.alloc (.cells ((Lib.splitB sep 0 (Lib.countB s sep) s).map Value.string).toArray 9) := Any.strings_Split Tryd.lays146 (by kernel_rfl) s sep m w hs hm h1
def Tryd.lays105_ren : Go.Shelf.Ren := ⟨fun | 105 => 143 | 212 => 168 | 99 => 84 | 165 => 169 | 166 => 93 | 170 => 170 | 169 => 97 | 263 => 185 | 264 => 186 | 206 => 131 | 240 => 140 | 241 => 187 | 276 => 166 | 277 => 196 | n => n, fun | 9 => 9 | 3 => 3 | 4 => 4 | 20 => 20 | 0 => 0 | 46 => 145 | 109 => 146 | 5 => 5 | 72 => 95 | 76 => 98 | 51 => 162 | 146 => 163 | 53 => 134 | 148 => 165 | 70 => 93 | 37 => 45 | 75 => 97 | 127 => 133 | 164 => 143 | 80 => 102 | n => n, fun | n => n⟩
theorem Tryd.lays105 : Go.Proofs.Lays.n105 Tryd.prog Tryd.lays105_ren := {
  mixed := by kernel_rfl
  f99 := Tryd.func84.trans (congrArg some (by kernel_rfl))
  f105 := Tryd.func143.trans (congrArg some (by kernel_rfl))
  f165 := Tryd.func169.trans (congrArg some (by kernel_rfl))
  f166 := Tryd.func93.trans (congrArg some (by kernel_rfl))
  f169 := Tryd.func97.trans (congrArg some (by kernel_rfl))
  f170 := Tryd.func170.trans (congrArg some (by kernel_rfl))
  f206 := Tryd.func131.trans (congrArg some (by kernel_rfl))
  f212 := Tryd.func168.trans (congrArg some (by kernel_rfl))
  f240 := Tryd.func140.trans (congrArg some (by kernel_rfl))
  f241 := Tryd.func187.trans (congrArg some (by kernel_rfl))
  f263 := Tryd.func185.trans (congrArg some (by kernel_rfl))
  f264 := Tryd.func186.trans (congrArg some (by kernel_rfl))
  f276 := Tryd.func166.trans (congrArg some (by kernel_rfl))
  f277 := Tryd.func196.trans (congrArg some (by kernel_rfl))
  t0 := Tryd.underlying0
  a0 := Tryd.isAgg0
  z0 := Tryd.sizeOf0
  v0 := Tryd.zeroValue0
  t3 := Tryd.underlying3
  a3 := Tryd.isAgg3
  z3 := Tryd.sizeOf3
  v3 := Tryd.zeroValue3
  t4 := Tryd.underlying4
  a4 := Tryd.isAgg4
  z4 := Tryd.sizeOf4
  v4 := Tryd.zeroValue4
  t5 := Tryd.underlying5
  a5 := Tryd.isAgg5
  z5 := Tryd.sizeOf5
  v5 := Tryd.zeroValue5
  t9 := Tryd.underlying9
  a9 := Tryd.isAgg9
  z9 := Tryd.sizeOf9
  v9 := Tryd.zeroValue9
  t20 := Tryd.underlying20
  a20 := Tryd.isAgg20
  z20 := Tryd.sizeOf20
  v20 := Tryd.zeroValue20
  t37 := Tryd.underlying45
  a37 := Tryd.isAgg45
  z37 := Tryd.sizeOf45
  v37 := Tryd.zeroValue45
  t46 := Tryd.underlying145
  a46 := Tryd.isAgg145
  z46 := Tryd.sizeOf145
  v46 := Tryd.zeroValue145
  t51 := Tryd.underlying162
  a51 := Tryd.isAgg162
  z51 := Tryd.sizeOf162
  v51 := Tryd.zeroValue162
  t53 := Tryd.underlying134
  a53 := Tryd.isAgg134
  z53 := Tryd.sizeOf134
  v53 := Tryd.zeroValue134
  t70 := Tryd.underlying93
  a70 := Tryd.isAgg93
  z70 := Tryd.sizeOf93
  v70 := Tryd.zeroValue93
  t72 := Tryd.underlying95
  a72 := Tryd.isAgg95
  z72 := Tryd.sizeOf95
  v72 := Tryd.zeroValue95
  t75 := Tryd.underlying97
  a75 := Tryd.isAgg97
  z75 := Tryd.sizeOf97
  v75 := Tryd.zeroValue97
  t76 := Tryd.underlying98
  a76 := Tryd.isAgg98
  z76 := Tryd.sizeOf98
  v76 := Tryd.zeroValue98
  t109 := Tryd.underlying146
  a109 := Tryd.isAgg146
  z109 := Tryd.sizeOf146
  v109 := Tryd.zeroValue146
  t127 := Tryd.underlying133
  a127 := Tryd.isAgg133
  z127 := Tryd.sizeOf133
  v127 := Tryd.zeroValue133
  t146 := Tryd.underlying163
  a146 := Tryd.isAgg163
  z146 := Tryd.sizeOf163
  v146 := Tryd.zeroValue163
  t148 := Tryd.underlying165
  a148 := Tryd.isAgg165
  z148 := Tryd.sizeOf165
  v148 := Tryd.zeroValue165
  t164 := Tryd.underlying143
  a164 := Tryd.isAgg143
  z164 := Tryd.sizeOf143
  v164 := Tryd.zeroValue143 }
theorem Tryd.Builder_Extra_105 : Builder.Extra Tryd.prog Tryd.lays105_ren := {
  sizeBuilder := by kernel_rfl
  liesBuilder := by kernel_rfl
  t5 := Tryd.underlying5
  a5 := Tryd.isAgg5
  z5 := Tryd.sizeOf5
  v5 := Tryd.zeroValue5
  infoByte := by kernel_rfl
  cellsByte := by kernel_rfl
  sizeByte := by kernel_rfl
  neB5 := by decide }
open Go.RowKit Go.Lib in theorem Tryd.strings_Repeat (s : ByteArray) (c : Nat) (w : World) (hc : c ≤ 9223372036854775807) (hlen : s.size * c ≤ 140737488355328) :
    Calls Tryd.prog 143 #[.string s, .int .i64 c] w fun e w' => e = .returned (.string ⟨(Lib.repeatL s.data.toList c).toArray⟩) ∧ Below w.heap.size w w' := Any.strings_Repeat Tryd.lays105 Tryd.Builder_Extra_105 s c w hc hlen
end Go.Proofs

/- Function 163 (strings.Contains): its contract, off what is known of the library. -/
set_option linter.unusedVariables false
set_option linter.unusedSimpArgs false
set_option maxRecDepth 100000
namespace Go.Proofs.YtakodkjcmacofaaDoor
open Go Go.Am Go.Proofs

def sig163 : List AT := [AT.v Ty.str, AT.v Ty.str]
def g163_0 (x0 x1 : ByteArray) : Bool := Lib.contains x0.data.toList x1.data.toList
def P163 (x0 x1 : ByteArray) : Prop := x0.size < 4294967281
def S163 : Am.Spec := { sig := sig163, pre := fun ⟨x0, x1, _⟩ => P163 x0 x1, res := fun ⟨x0, x1, _⟩ => [⟨Ty.bool, g163_0 x0 x1⟩] }
theorem con163 : Contract Tryd.prog 163 S163 := contract_flat rfl fun w ⟨x0, x1, _⟩ vs bss hg hp hw ha => by
  obtain ⟨v0, s0, _, _, rfl, _, ⟨_, rfl, _⟩, v1, s1, _, _, rfl, _, ⟨_, rfl, _⟩, rfl, _⟩ := ha
  refine ⟨fun d hd => by rw [List.mem_singleton.1 hd]; exact ⟨rfl, trivial⟩, ?_⟩
  obtain ⟨m, hm⟩ := maxLenG hg
  refine (Tryd.strings_Contains x0 x1 m w hp hm).mono ?_
  rintro e w' ⟨rfl, rfl⟩
  exact ⟨rfl, Kept.refl _ _⟩

end Go.Proofs.YtakodkjcmacofaaDoor

/- Function 138 (impl.ValidBlock): its runs between cut points. Written by a program of this repo (gen). -/
set_option linter.unusedVariables false
set_option linter.unusedSimpArgs false
set_option maxRecDepth 100000
namespace Go.Proofs.YtakodkjcmacofaaDoor
open Go Go.Am Go.Proofs
def ext138 : Ext := [(151, S151), (163, S163)]
theorem call138_151 : Callable Tryd.prog 151 := ⟨Tryd.f151, Tryd.func151, by kernel_rfl, by kernel_rfl⟩
theorem call138_163 : Callable Tryd.prog 163 := ⟨Tryd.f163, Tryd.func163, by kernel_rfl, by kernel_rfl⟩
theorem ext138Ok : ExtOk Tryd.prog ext138 := ⟨⟨call138_151, con151⟩, ⟨call138_163, con163⟩, trivial⟩
/-! Function 138. -/
noncomputable def b138 : Code := bodyOf Tryd.f138
theorem hb138 : Tryd.f138.body = some b138 := by kernel_rfl
def sig138 : List AT := [AT.v (Ty.cons Ty.str (Ty.cons Ty.str (Ty.cons Ty.str Ty.unit)))]
def tys138 : List Ty := [Ty.bool]
def P138 (x0 : ByteArray × ByteArray × ByteArray × Unit) : Prop := (if (g151_0 (Prod.fst x0)) = true then (if (g151_0 (Prod.fst (Prod.snd x0))) = true then (if (Decidable.decide ((↑(ByteArray.size (Prod.fst (Prod.snd (Prod.snd x0)))) : Int) ≤ 400)) = true then ((P163 (Prod.fst (Prod.snd (Prod.snd x0))) (ByteArray.mk #[10])) ∧ True) else True) else True) else True)
def g138_0 (x0 : ByteArray × ByteArray × ByteArray × Unit) : Bool := (if (g151_0 (Prod.fst x0)) = true then (if (g151_0 (Prod.fst (Prod.snd x0))) = true then (if (Decidable.decide ((↑(ByteArray.size (Prod.fst (Prod.snd (Prod.snd x0)))) : Int) ≤ 400)) = true then !g163_0 (Prod.fst (Prod.snd (Prod.snd x0))) (ByteArray.mk #[10]) else Bool.false) else Bool.false) else Bool.false)
theorem p138_0 (x0 : ByteArray × ByteArray × ByteArray × Unit) : runF tab ext138 false 23 [] 2000 [] tys138 Tryd.f138.results [true, true, true] [.code b138] (entE 0 0 sig138 (x0, ())) (entL sig138 (x0, ())) = some ([Dyn.mk Ty.bool !g163_0 (Prod.fst (Prod.snd (Prod.snd x0))) (ByteArray.mk #[10])], [], [True, g151_0 (Prod.fst x0) = Bool.true, True, g151_0 (Prod.fst (Prod.snd x0)) = Bool.true, Decidable.decide ((↑(ByteArray.size (Prod.fst (Prod.snd (Prod.snd x0)))) : Int) ≤ 400) = Bool.true, P163 (Prod.fst (Prod.snd (Prod.snd x0))) (ByteArray.mk #[10])]) := by kernel_rfl
theorem p138_1 (x0 : ByteArray × ByteArray × ByteArray × Unit) : runF tab ext138 false 23 [] 2000 [] tys138 Tryd.f138.results [true, true, false] [.code b138] (entE 0 0 sig138 (x0, ())) (entL sig138 (x0, ())) = some ([Dyn.mk Ty.bool Bool.false], [], [True, g151_0 (Prod.fst x0) = Bool.true, True, g151_0 (Prod.fst (Prod.snd x0)) = Bool.true, Decidable.decide ((↑(ByteArray.size (Prod.fst (Prod.snd (Prod.snd x0)))) : Int) ≤ 400) = Bool.false]) := by kernel_rfl
theorem p138_2 (x0 : ByteArray × ByteArray × ByteArray × Unit) : runF tab ext138 false 23 [] 2000 [] tys138 Tryd.f138.results [true, false, false] [.code b138] (entE 0 0 sig138 (x0, ())) (entL sig138 (x0, ())) = some ([Dyn.mk Ty.bool Bool.false], [], [True, g151_0 (Prod.fst x0) = Bool.true, True, g151_0 (Prod.fst (Prod.snd x0)) = Bool.false, Bool.false = Bool.false]) := by kernel_rfl
theorem p138_3 (x0 : ByteArray × ByteArray × ByteArray × Unit) : runF tab ext138 false 23 [] 2000 [] tys138 Tryd.f138.results [false, false, false] [.code b138] (entE 0 0 sig138 (x0, ())) (entL sig138 (x0, ())) = some ([Dyn.mk Ty.bool Bool.false], [], [True, g151_0 (Prod.fst x0) = Bool.false, Bool.false = Bool.false, Bool.false = Bool.false]) := by kernel_rfl
theorem at138 (x0 : ByteArray × ByteArray × ByteArray × Unit) (h : P138 x0) (w0 : World) (O : List Nat) (q : Nat → Value) : AtV Tryd.prog 138 (PostR [⟨Ty.bool, g138_0 x0⟩] [] [] q w0 O) 23 w0 O q [] [.code b138] (entE 0 0 sig138 (x0, ())) (entL sig138 (x0, ())) := by
  unfold P138 at h
  unfold g138_0
  by_cases b0 : (g151_0 (Prod.fst x0)) = true
  · try simp only [if_pos b0] at h ⊢
    by_cases b1 : (g151_0 (Prod.fst (Prod.snd x0))) = true
    · try simp only [if_pos b1] at h ⊢
      by_cases b2 : (Decidable.decide ((↑(ByteArray.size (Prod.fst (Prod.snd (Prod.snd x0)))) : Int) ≤ 400)) = true
      · try simp only [if_pos b2] at h ⊢
        obtain ⟨s0, h⟩ := h
        exact AtV.fin Tryd.func138 tabOk ext138Ok mixed (p138_0 x0) ⟨trivial, b0, trivial, b1, b2, s0, trivial⟩
      · try simp only [if_neg b2] at h ⊢
        replace b2 := Bool.eq_false_iff.2 b2
        exact AtV.fin Tryd.func138 tabOk ext138Ok mixed (p138_1 x0) ⟨trivial, b0, trivial, b1, b2, trivial⟩
    · try simp only [if_neg b1] at h ⊢
      replace b1 := Bool.eq_false_iff.2 b1
      exact AtV.fin Tryd.func138 tabOk ext138Ok mixed (p138_2 x0) ⟨trivial, b0, trivial, b1, rfl, trivial⟩
  · try simp only [if_neg b0] at h ⊢
    replace b0 := Bool.eq_false_iff.2 b0
    exact AtV.fin Tryd.func138 tabOk ext138Ok mixed (p138_3 x0) ⟨trivial, b0, rfl, rfl, trivial⟩

def S138 : Am.Spec := { sig := sig138, pre := fun ⟨x0, _⟩ => P138 x0, res := fun ⟨x0, _⟩ => [⟨Ty.bool, g138_0 x0⟩] }
theorem con138 : Contract Tryd.prog 138 S138 := contract_of Tryd.func138 hb138 (Nat.le_of_ble_eq_true (by kernel_rfl)) (fun ⟨x0, _⟩ h _ w0 O q => at138 x0 h w0 O q)


theorem pre138 (x : ByteArray × ByteArray × ByteArray × Unit) : P138 x := by
  unfold P138
  split
  · split
    · split
      · rename_i h
        simp only [decide_eq_true_eq] at h
        refine ⟨?_, trivial⟩
        show x.2.2.1.size < 4294967281
        omega
      · trivial
    · trivial
  · trivial

end Go.Proofs.YtakodkjcmacofaaDoor

/- Function 180 (cmp.isNaN[string]): its runs between cut points. Written by a program of this repo (gen). -/
set_option linter.unusedVariables false
set_option linter.unusedSimpArgs false
set_option maxRecDepth 100000
namespace Go.Proofs.YtakodkjcmacofaaDoor
open Go Go.Am Go.Proofs
def ext180 : Ext := []
theorem ext180Ok : ExtOk Tryd.prog ext180 := trivial
/-! Function 180. -/
noncomputable def b180 : Code := bodyOf Tryd.f180
theorem hb180 : Tryd.f180.body = some b180 := by kernel_rfl
def sig180 : List AT := [AT.v (Ty.str)]
def tys180 : List Ty := [Ty.bool]
def P180 (x0 : ByteArray) : Prop := True
def g180_0 (x0 : ByteArray) : Bool := !ByteArray.toList x0 == ByteArray.toList x0
theorem p180_0 (x0 : ByteArray) : runF tab ext180 false 6 [] 2000 [] tys180 Tryd.f180.results [] [.code b180] (entE 0 0 sig180 (x0, ())) (entL sig180 (x0, ())) = some ([Dyn.mk Ty.bool !ByteArray.toList x0 == ByteArray.toList x0], [], []) := by kernel_rfl
theorem at180 (x0 : ByteArray) (h : P180 x0) (w0 : World) (O : List Nat) (q : Nat → Value) : AtV Tryd.prog 180 (PostR [⟨Ty.bool, g180_0 x0⟩] [] [] q w0 O) 6 w0 O q [] [.code b180] (entE 0 0 sig180 (x0, ())) (entL sig180 (x0, ())) := by
  unfold P180 at h
  unfold g180_0
  exact AtV.fin Tryd.func180 tabOk ext180Ok mixed (p180_0 x0) trivial

def S180 : Am.Spec := { sig := sig180, pre := fun ⟨x0, _⟩ => P180 x0, res := fun ⟨x0, _⟩ => [⟨Ty.bool, g180_0 x0⟩] }
theorem con180 : Contract Tryd.prog 180 S180 := contract_of Tryd.func180 hb180 (Nat.le_of_ble_eq_true (by kernel_rfl)) (fun ⟨x0, _⟩ h _ w0 O q => at180 x0 h w0 O q)


end Go.Proofs.YtakodkjcmacofaaDoor

/- Function 165 (cmp.Compare[string]): its runs between cut points. Written by a program of this repo (gen). -/
set_option linter.unusedVariables false
set_option linter.unusedSimpArgs false
set_option maxRecDepth 100000
namespace Go.Proofs.YtakodkjcmacofaaDoor
open Go Go.Am Go.Proofs
def ext165 : Ext := [(180, S180)]
theorem call165_180 : Callable Tryd.prog 180 := ⟨Tryd.f180, Tryd.func180, by kernel_rfl, by kernel_rfl⟩
theorem ext165Ok : ExtOk Tryd.prog ext165 := ⟨⟨call165_180, con180⟩, trivial⟩
/-! Function 165. -/
noncomputable def b165 : Code := bodyOf Tryd.f165
theorem hb165 : Tryd.f165.body = some b165 := by kernel_rfl
def sig165 : List AT := [AT.v (Ty.str), AT.v (Ty.str)]
def tys165 : List Ty := [Ty.int IntKind.i64]
def P165 (x0 : ByteArray) (x1 : ByteArray) : Prop := True
def g165_0 (x0 : ByteArray) (x1 : ByteArray) : Int := (if (g180_0 x0) = true then (if (g180_0 x1) = true then 0 else -1) else (if (g180_0 x1) = true then 1 else (if (Op.bytesLess (ByteArray.toList x0) (ByteArray.toList x1)) = true then -1 else (if (!(Op.bytesLess (ByteArray.toList x0) (ByteArray.toList x1) || ByteArray.toList x0 == ByteArray.toList x1)) = true then 1 else 0))))
theorem p165_0 (x0 : ByteArray) (x1 : ByteArray) : runF tab ext165 false 20 [] 2000 [] tys165 Tryd.f165.results [true, true] [.code b165] (entE 0 0 sig165 (x0, x1, ())) (entL sig165 (x0, x1, ())) = some ([Dyn.mk (Ty.int IntKind.i64) 0], [], [True, True, g180_0 x0 = Bool.true, g180_0 x1 = Bool.true]) := by kernel_rfl
theorem p165_1 (x0 : ByteArray) (x1 : ByteArray) : runF tab ext165 false 20 [] 2000 [] tys165 Tryd.f165.results [true, false] [.code b165] (entE 0 0 sig165 (x0, x1, ())) (entL sig165 (x0, x1, ())) = some ([Dyn.mk (Ty.int IntKind.i64) (-1)], [], [True, True, g180_0 x0 = Bool.true, g180_0 x1 = Bool.false]) := by kernel_rfl
theorem p165_2 (x0 : ByteArray) (x1 : ByteArray) : runF tab ext165 false 20 [] 2000 [] tys165 Tryd.f165.results [false, true] [.code b165] (entE 0 0 sig165 (x0, x1, ())) (entL sig165 (x0, x1, ())) = some ([Dyn.mk (Ty.int IntKind.i64) 1], [], [True, True, g180_0 x0 = Bool.false, g180_0 x1 = Bool.true]) := by kernel_rfl
theorem p165_3 (x0 : ByteArray) (x1 : ByteArray) : runF tab ext165 false 20 [] 2000 [] tys165 Tryd.f165.results [false, false, true] [.code b165] (entE 0 0 sig165 (x0, x1, ())) (entL sig165 (x0, x1, ())) = some ([Dyn.mk (Ty.int IntKind.i64) (-1)], [], [True, True, g180_0 x0 = Bool.false, g180_0 x1 = Bool.false, Op.bytesLess (ByteArray.toList x0) (ByteArray.toList x1) = Bool.true]) := by kernel_rfl
theorem p165_4 (x0 : ByteArray) (x1 : ByteArray) : runF tab ext165 false 20 [] 2000 [] tys165 Tryd.f165.results [false, false, false, true] [.code b165] (entE 0 0 sig165 (x0, x1, ())) (entL sig165 (x0, x1, ())) = some ([Dyn.mk (Ty.int IntKind.i64) 1], [], [True, True, g180_0 x0 = Bool.false, g180_0 x1 = Bool.false, Op.bytesLess (ByteArray.toList x0) (ByteArray.toList x1) = Bool.false, (!(Op.bytesLess (ByteArray.toList x0) (ByteArray.toList x1) || ByteArray.toList x0 == ByteArray.toList x1)) = Bool.true]) := by kernel_rfl
theorem p165_5 (x0 : ByteArray) (x1 : ByteArray) : runF tab ext165 false 20 [] 2000 [] tys165 Tryd.f165.results [false, false, false, false] [.code b165] (entE 0 0 sig165 (x0, x1, ())) (entL sig165 (x0, x1, ())) = some ([Dyn.mk (Ty.int IntKind.i64) 0], [], [True, True, g180_0 x0 = Bool.false, g180_0 x1 = Bool.false, Op.bytesLess (ByteArray.toList x0) (ByteArray.toList x1) = Bool.false, (!(Op.bytesLess (ByteArray.toList x0) (ByteArray.toList x1) || ByteArray.toList x0 == ByteArray.toList x1)) = Bool.false]) := by kernel_rfl
theorem at165 (x0 : ByteArray) (x1 : ByteArray) (h : P165 x0 x1) (w0 : World) (O : List Nat) (q : Nat → Value) : AtV Tryd.prog 165 (PostR [⟨Ty.int IntKind.i64, g165_0 x0 x1⟩] [] [] q w0 O) 20 w0 O q [] [.code b165] (entE 0 0 sig165 (x0, x1, ())) (entL sig165 (x0, x1, ())) := by
  unfold P165 at h
  unfold g165_0
  by_cases b0 : (g180_0 x0) = true
  · try simp only [if_pos b0] at h ⊢
    by_cases b1 : (g180_0 x1) = true
    · try simp only [if_pos b1] at h ⊢
      exact AtV.fin Tryd.func165 tabOk ext165Ok mixed (p165_0 x0 x1) ⟨trivial, trivial, b0, b1, trivial⟩
    · try simp only [if_neg b1] at h ⊢
      replace b1 := Bool.eq_false_iff.2 b1
      exact AtV.fin Tryd.func165 tabOk ext165Ok mixed (p165_1 x0 x1) ⟨trivial, trivial, b0, b1, trivial⟩
  · try simp only [if_neg b0] at h ⊢
    replace b0 := Bool.eq_false_iff.2 b0
    by_cases b1 : (g180_0 x1) = true
    · try simp only [if_pos b1] at h ⊢
      exact AtV.fin Tryd.func165 tabOk ext165Ok mixed (p165_2 x0 x1) ⟨trivial, trivial, b0, b1, trivial⟩
    · try simp only [if_neg b1] at h ⊢
      replace b1 := Bool.eq_false_iff.2 b1
      by_cases b2 : (Op.bytesLess (ByteArray.toList x0) (ByteArray.toList x1)) = true
      · try simp only [if_pos b2] at h ⊢
        exact AtV.fin Tryd.func165 tabOk ext165Ok mixed (p165_3 x0 x1) ⟨trivial, trivial, b0, b1, b2, trivial⟩
      · try simp only [if_neg b2] at h ⊢
        replace b2 := Bool.eq_false_iff.2 b2
        by_cases b3 : (!(Op.bytesLess (ByteArray.toList x0) (ByteArray.toList x1) || ByteArray.toList x0 == ByteArray.toList x1)) = true
        · try simp only [if_pos b3] at h ⊢
          exact AtV.fin Tryd.func165 tabOk ext165Ok mixed (p165_4 x0 x1) ⟨trivial, trivial, b0, b1, b2, b3, trivial⟩
        · try simp only [if_neg b3] at h ⊢
          replace b3 := Bool.eq_false_iff.2 b3
          exact AtV.fin Tryd.func165 tabOk ext165Ok mixed (p165_5 x0 x1) ⟨trivial, trivial, b0, b1, b2, b3, trivial⟩

def S165 : Am.Spec := { sig := sig165, pre := fun ⟨x0, x1, _⟩ => P165 x0 x1, res := fun ⟨x0, x1, _⟩ => [⟨Ty.int IntKind.i64, g165_0 x0 x1⟩] }
theorem con165 : Contract Tryd.prog 165 S165 := contract_of Tryd.func165 hb165 (Nat.le_of_ble_eq_true (by kernel_rfl)) (fun ⟨x0, x1, _⟩ h _ w0 O q => at165 x0 x1 h w0 O q)


end Go.Proofs.YtakodkjcmacofaaDoor

/- Function 164 (cmp.Or[int]): its runs between cut points. Written by a program of this repo (gen). -/
set_option linter.unusedVariables false
set_option linter.unusedSimpArgs false
set_option maxRecDepth 100000
namespace Go.Proofs.YtakodkjcmacofaaDoor
open Go Go.Am Go.Proofs
def ext164 : Ext := []
theorem ext164Ok : ExtOk Tryd.prog ext164 := trivial
/-! Function 164. -/
noncomputable def b164 : Code := bodyOf Tryd.f164
theorem hb164 : Tryd.f164.body = some b164 := by kernel_rfl
def sig164 : List AT := [AT.v (Ty.sl (Ty.int IntKind.i64))]
def tys164 : List Ty := [Ty.int IntKind.i64]
def E164_3 (v8 : Int) (x0 : List Int) : Env := [(3, PV.a (Atom.val (Value.int IntKind.i64 0))), (6, PV.a (Atom.sl (Ty.int IntKind.i64) x0)), (7, PV.a (Atom.val (Value.int IntKind.i64 (↑(List.length x0) : Int)))), (8, PV.a (Atom.val (Value.int IntKind.i64 v8)))]
def L164_3 (v8 : Int) (x0 : List Int) : Heap := []
mutual
def R164 : Nat → List Int → List Dyn → Prop
  | 0, _, _ => False
  | n + 1, x0, ds => (R164_3 n (0) (x0) ds)
def R164_3 : Nat → Int → List Int → List Dyn → Prop
  | 0, _, _, _ => False
  | n + 1, v8, x0, ds => (if (Decidable.decide (v8 < (↑(List.length x0) : Int))) = true then ((0 ≤ v8) ∧ (v8 < (↑(List.length x0) : Int)) ∧ (if (List.getD x0 (Int.toNat v8) 0 != 0) = true then (ds = [Dyn.mk (Ty.int IntKind.i64) (List.getD x0 (Int.toNat v8) 0)]) else ((InR IntKind.i64 (v8 + 1)) ∧ (R164_3 n (v8 + 1) (x0) ds)))) else (ds = [Dyn.mk (Ty.int IntKind.i64) 0]))
end
theorem p164_0 (x0 : List Int) : Am.runN tab ext164 false 18 [] 2000 [] [] [3, 6, 7, 8] [] [] [.code b164] (entE 0 0 sig164 (x0, ())) (entL sig164 (x0, ())) = some (cutAt b164 3, E164_3 (0) (x0), L164_3 (0) (x0), []) := by kernel_rfl
theorem p164_1 (v8 : Int) (x0 : List Int) : runF tab ext164 false 18 [] 2000 [] tys164 Tryd.f164.results [true, true] (cutAt b164 3) (E164_3 v8 x0) (L164_3 v8 x0) = some ([Dyn.mk (Ty.int IntKind.i64) (List.getD x0 (Int.toNat v8) 0)], [], [Decidable.decide (v8 < (↑(List.length x0) : Int)) = Bool.true, 0 ≤ v8, v8 < (↑(List.length x0) : Int), (List.getD x0 (Int.toNat v8) 0 != 0) = Bool.true]) := by kernel_rfl
theorem p164_2 (v8 : Int) (x0 : List Int) : Am.runN tab ext164 false 18 [] 2000 [] [] [3, 6, 7, 8] [] [true, false] (cutAt b164 3) (E164_3 v8 x0) (L164_3 v8 x0) = some (cutAt b164 3, E164_3 (v8 + 1) (x0), L164_3 (v8 + 1) (x0), [Decidable.decide (v8 < (↑(List.length x0) : Int)) = Bool.true, 0 ≤ v8, v8 < (↑(List.length x0) : Int), (List.getD x0 (Int.toNat v8) 0 != 0) = Bool.false, InR IntKind.i64 (v8 + 1)]) := by kernel_rfl
theorem p164_3 (v8 : Int) (x0 : List Int) : runF tab ext164 false 18 [] 2000 [] tys164 Tryd.f164.results [false] (cutAt b164 3) (E164_3 v8 x0) (L164_3 v8 x0) = some ([Dyn.mk (Ty.int IntKind.i64) 0], [], [Decidable.decide (v8 < (↑(List.length x0) : Int)) = Bool.false]) := by kernel_rfl
theorem snd164 : ∀ n, (∀ (x0 : List Int) ds, R164 n x0 ds → ∀ w0 O q, AtV Tryd.prog 164 (PostR ds [] [] q w0 O) 18 w0 O q [] [.code b164] (entE 0 0 sig164 (x0, ())) (entL sig164 (x0, ()))) ∧ (∀ (v8 : Int) (x0 : List Int) ds, R164_3 n v8 x0 ds → ∀ w0 O q, AtV Tryd.prog 164 (PostR ds [] [] q w0 O) 18 w0 O q [] (cutAt b164 3) (E164_3 v8 x0) (L164_3 v8 x0)) := by
  intro n
  induction n with
  | zero => exact ⟨fun _ _ h => by simp only [R164] at h, fun _ _ _ h => by simp only [R164_3] at h⟩
  | succ n ih =>
  obtain ⟨ih, ih3⟩ := ih
  refine ⟨?_, ?_⟩
  · intro x0 ds h w0 O q
    rw [R164] at h
    exact AtV.runN tabOk ext164Ok mixed (p164_0 x0) trivial (ih3 _ _ _ h w0 O q)

  · intro v8 x0 ds h w0 O q
    rw [R164_3] at h
    by_cases b0 : (Decidable.decide (v8 < (↑(List.length x0) : Int))) = true
    · rw [if_pos b0] at h
      obtain ⟨s0, s1, h⟩ := h
      by_cases b1 : (List.getD x0 (Int.toNat v8) 0 != 0) = true
      · rw [if_pos b1] at h
        subst h
        exact AtV.fin Tryd.func164 tabOk ext164Ok mixed (p164_1 v8 x0) ⟨b0, s0, s1, b1, trivial⟩
      · rw [if_neg b1] at h
        replace b1 := Bool.eq_false_iff.2 b1
        obtain ⟨s2, h⟩ := h
        exact AtV.runN tabOk ext164Ok mixed (p164_2 v8 x0) ⟨b0, s0, s1, b1, s2, trivial⟩ (ih3 _ _ _ h w0 O q)
    · rw [if_neg b0] at h
      replace b0 := Bool.eq_false_iff.2 b0
      subst h
      exact AtV.fin Tryd.func164 tabOk ext164Ok mixed (p164_3 v8 x0) ⟨b0, trivial⟩



def g164_0 : List Int → Int
  | [] => 0
  | x :: r => if x != 0 then x else g164_0 r
def P164 (x0 : List Int) : Prop := True

theorem goL164 : ∀ (xs : List Int), goL (fun (_ : Unit) (x : Int) => if (x != 0) = true then Except.error [(⟨.int .i64, x⟩ : Dyn)] else .ok ()) (fun _ => [⟨.int .i64, (0 : Int)⟩]) () xs = [⟨.int .i64, g164_0 xs⟩]
  | [] => rfl
  | x :: r => by
    simp only [goL, g164_0]
    cases h : x != 0 with
    | true => simp
    | false => simpa using goL164 r

theorem top164 (x0 : List Int) (hm : x0.length ≤ maxLen) : R164 (x0.length + 1 + 1) x0 [⟨.int .i64, g164_0 x0⟩] := by
  rw [R164, ← goL164]
  refine loop_all x0 0 _ _ (fun _ _ => True) (fun n i _ ds => R164_3 n i x0 ds) trivial ?_ ?_
  · intro n b _
    show R164_3 (n + 1) x0.length x0 _
    rw [R164_3, if_neg (by simp)]
  · intro n i b hi _
    cases h : (x0.getD i 0 != 0) with
    | true =>
      show R164_3 (n + 1) (i : Int) x0 _
      rw [R164_3, if_pos (by simp; omega)]
      refine ⟨by omega, by omega, ?_⟩
      simp only [Int.toNat_natCast]
      rw [if_pos h] <;> trivial
    | false =>
      refine ⟨trivial, fun ds hr => ?_⟩
      rw [R164_3, if_pos (by simp; omega)]
      refine ⟨by omega, by omega, ?_⟩
      simp only [Int.toNat_natCast]
      rw [if_neg (by rw [h]; simp)]
      exact ⟨inR_up hm hi, hr⟩

def S164 : Am.Spec := { sig := sig164, pre := fun ⟨x0, _⟩ => P164 x0, res := fun ⟨x0, _⟩ => [⟨Ty.int .i64, g164_0 x0⟩] }
theorem con164 : Contract Tryd.prog 164 S164 := contract_of Tryd.func164 hb164 (Nat.le_of_ble_eq_true (by kernel_rfl)) (fun ⟨x0, _⟩ h hwf w0 O q =>
  (snd164 _).1 x0 _ (top164 x0 hwf.1.1) w0 O q)

end Go.Proofs.YtakodkjcmacofaaDoor

/- Function 139 (impl.compareBlocks): its runs between cut points. Written by a program of this repo (gen). -/
set_option linter.unusedVariables false
set_option linter.unusedSimpArgs false
set_option maxRecDepth 100000
namespace Go.Proofs.YtakodkjcmacofaaDoor
open Go Go.Am Go.Proofs
def ext139 : Ext := [(165, S165), (164, S164)]
theorem call139_165 : Callable Tryd.prog 165 := ⟨Tryd.f165, Tryd.func165, by kernel_rfl, by kernel_rfl⟩
theorem call139_164 : Callable Tryd.prog 164 := ⟨Tryd.f164, Tryd.func164, by kernel_rfl, by kernel_rfl⟩
theorem ext139Ok : ExtOk Tryd.prog ext139 := ⟨⟨call139_165, con165⟩, ⟨call139_164, con164⟩, trivial⟩
/-! Function 139. -/
noncomputable def b139 : Code := bodyOf Tryd.f139
theorem hb139 : Tryd.f139.body = some b139 := by kernel_rfl
def sig139 : List AT := [AT.v (Ty.cons Ty.str (Ty.cons Ty.str (Ty.cons Ty.str Ty.unit))), AT.v (Ty.cons Ty.str (Ty.cons Ty.str (Ty.cons Ty.str Ty.unit)))]
def tys139 : List Ty := [Ty.int IntKind.i64]
def P139 (x0 : ByteArray × ByteArray × ByteArray × Unit) (x1 : ByteArray × ByteArray × ByteArray × Unit) : Prop := True
def g139_0 (x0 : ByteArray × ByteArray × ByteArray × Unit) (x1 : ByteArray × ByteArray × ByteArray × Unit) : Int := g164_0 [g165_0 (Prod.fst x0) (Prod.fst x1), g165_0 (Prod.fst (Prod.snd x0)) (Prod.fst (Prod.snd x1))]
theorem p139_0 (x0 : ByteArray × ByteArray × ByteArray × Unit) (x1 : ByteArray × ByteArray × ByteArray × Unit) : runF tab ext139 false 17 [] 2000 [] tys139 Tryd.f139.results [] [.code b139] (entE 0 0 sig139 (x0, x1, ())) (entL sig139 (x0, x1, ())) = some ([Dyn.mk (Ty.int IntKind.i64) (g164_0 [g165_0 (Prod.fst x0) (Prod.fst x1), g165_0 (Prod.fst (Prod.snd x0)) (Prod.fst (Prod.snd x1))])], [], [True, True, True]) := by kernel_rfl
theorem at139 (x0 : ByteArray × ByteArray × ByteArray × Unit) (x1 : ByteArray × ByteArray × ByteArray × Unit) (h : P139 x0 x1) (w0 : World) (O : List Nat) (q : Nat → Value) : AtV Tryd.prog 139 (PostR [⟨Ty.int IntKind.i64, g139_0 x0 x1⟩] [] [] q w0 O) 17 w0 O q [] [.code b139] (entE 0 0 sig139 (x0, x1, ())) (entL sig139 (x0, x1, ())) := by
  unfold P139 at h
  unfold g139_0
  exact AtV.fin Tryd.func139 tabOk ext139Ok mixed (p139_0 x0 x1) ⟨trivial, trivial, trivial, trivial⟩

def S139 : Am.Spec := { sig := sig139, pre := fun ⟨x0, x1, _⟩ => P139 x0 x1, res := fun ⟨x0, x1, _⟩ => [⟨Ty.int IntKind.i64, g139_0 x0 x1⟩] }
theorem con139 : Contract Tryd.prog 139 S139 := contract_of Tryd.func139 hb139 (Nat.le_of_ble_eq_true (by kernel_rfl)) (fun ⟨x0, x1, _⟩ h _ w0 O q => at139 x0 x1 h w0 O q)


end Go.Proofs.YtakodkjcmacofaaDoor

/- Function 92 (impl.ValidBlocks): its runs between cut points. Written by a program of this repo (gen). -/
set_option linter.unusedVariables false
set_option linter.unusedSimpArgs false
set_option maxRecDepth 100000
namespace Go.Proofs.YtakodkjcmacofaaDoor
open Go Go.Am Go.Proofs
def ext92 : Ext := [(138, S138), (139, S139)]
theorem call92_138 : Callable Tryd.prog 138 := ⟨Tryd.f138, Tryd.func138, by kernel_rfl, by kernel_rfl⟩
theorem call92_139 : Callable Tryd.prog 139 := ⟨Tryd.f139, Tryd.func139, by kernel_rfl, by kernel_rfl⟩
theorem ext92Ok : ExtOk Tryd.prog ext92 := ⟨⟨call92_138, con138⟩, ⟨call92_139, con139⟩, trivial⟩
/-! Function 92. -/
noncomputable def b92 : Code := bodyOf Tryd.f92
theorem hb92 : Tryd.f92.body = some b92 := by kernel_rfl
def sig92 : List AT := [AT.v (Ty.sl (Ty.cons Ty.str (Ty.cons Ty.str (Ty.cons Ty.str Ty.unit))))]
def tys92 : List Ty := [Ty.bool]
def E92_2 (v7 : Int) (x0 : List (ByteArray × ByteArray × ByteArray × Unit)) : Env := [(0, PV.a (Atom.sl (Ty.cons Ty.str (Ty.cons Ty.str (Ty.cons Ty.str Ty.unit))) x0)), (5, PV.a (Atom.sl (Ty.cons Ty.str (Ty.cons Ty.str (Ty.cons Ty.str Ty.unit))) x0)), (6, PV.a (Atom.val (Value.int IntKind.i64 (↑(List.length x0) : Int)))), (7, PV.a (Atom.val (Value.int IntKind.i64 v7)))]
def L92_2 (v7 : Int) (x0 : List (ByteArray × ByteArray × ByteArray × Unit)) : Heap := []
mutual
def R92 : Nat → List (ByteArray × ByteArray × ByteArray × Unit) → List Dyn → Prop
  | 0, _, _ => False
  | n + 1, x0, ds => (R92_2 n (0) (x0) ds)
def R92_2 : Nat → Int → List (ByteArray × ByteArray × ByteArray × Unit) → List Dyn → Prop
  | 0, _, _, _ => False
  | n + 1, v7, x0, ds => (if (Decidable.decide (v7 < (↑(List.length x0) : Int))) = true then ((0 ≤ v7) ∧ (v7 < (↑(List.length x0) : Int)) ∧ ((P138 (List.getD x0 (Int.toNat v7) (ByteArray.empty, ByteArray.empty, ByteArray.empty, ()))) ∧ (if (!g138_0 (List.getD x0 (Int.toNat v7) (ByteArray.empty, ByteArray.empty, ByteArray.empty, ()))) = true then (ds = [Dyn.mk Ty.bool Bool.false]) else (if (Decidable.decide (v7 > 0)) = true then ((InR IntKind.i64 (v7 - 1)) ∧ ((0 ≤ v7 - 1) ∧ (v7 - 1 < (↑(List.length x0) : Int)) ∧ (if (Decidable.decide (g139_0 (List.getD x0 (Int.toNat (v7 - 1)) (ByteArray.empty, ByteArray.empty, ByteArray.empty, ())) (List.getD x0 (Int.toNat v7) (ByteArray.empty, ByteArray.empty, ByteArray.empty, ())) ≥ 0)) = true then (ds = [Dyn.mk Ty.bool Bool.false]) else ((InR IntKind.i64 (v7 + 1)) ∧ (R92_2 n (v7 + 1) (x0) ds))))) else ((InR IntKind.i64 (v7 + 1)) ∧ (R92_2 n (v7 + 1) (x0) ds)))))) else (ds = [Dyn.mk Ty.bool (Decidable.decide ((↑(List.length x0) : Int) ≤ 32))]))
end
theorem p92_0 (x0 : List (ByteArray × ByteArray × ByteArray × Unit)) : Am.runN tab ext92 false 33 [] 2000 [] [] [0, 5, 6, 7] [] [] [.code b92] (entE 0 0 sig92 (x0, ())) (entL sig92 (x0, ())) = some (cutAt b92 2, E92_2 (0) (x0), L92_2 (0) (x0), []) := by kernel_rfl
theorem p92_1 (v7 : Int) (x0 : List (ByteArray × ByteArray × ByteArray × Unit)) : runF tab ext92 false 33 [] 2000 [] tys92 Tryd.f92.results [true, true, true] (cutAt b92 2) (E92_2 v7 x0) (L92_2 v7 x0) = some ([Dyn.mk Ty.bool Bool.false], [], [Decidable.decide (v7 < (↑(List.length x0) : Int)) = Bool.true, 0 ≤ v7, v7 < (↑(List.length x0) : Int), P138 (List.getD x0 (Int.toNat v7) (ByteArray.empty, ByteArray.empty, ByteArray.empty, ())), (!g138_0 (List.getD x0 (Int.toNat v7) (ByteArray.empty, ByteArray.empty, ByteArray.empty, ()))) = Bool.true, Bool.true = Bool.true]) := by kernel_rfl
theorem p92_2 (v7 : Int) (x0 : List (ByteArray × ByteArray × ByteArray × Unit)) : runF tab ext92 false 33 [] 2000 [] tys92 Tryd.f92.results [true, false, true, true] (cutAt b92 2) (E92_2 v7 x0) (L92_2 v7 x0) = some ([Dyn.mk Ty.bool Bool.false], [], [Decidable.decide (v7 < (↑(List.length x0) : Int)) = Bool.true, 0 ≤ v7, v7 < (↑(List.length x0) : Int), P138 (List.getD x0 (Int.toNat v7) (ByteArray.empty, ByteArray.empty, ByteArray.empty, ())), (!g138_0 (List.getD x0 (Int.toNat v7) (ByteArray.empty, ByteArray.empty, ByteArray.empty, ()))) = Bool.false, Decidable.decide (v7 > 0) = Bool.true, InR IntKind.i64 (v7 - 1), 0 ≤ v7 - 1, v7 - 1 < (↑(List.length x0) : Int), True, Decidable.decide (g139_0 (List.getD x0 (Int.toNat (v7 - 1)) (ByteArray.empty, ByteArray.empty, ByteArray.empty, ())) (List.getD x0 (Int.toNat v7) (ByteArray.empty, ByteArray.empty, ByteArray.empty, ())) ≥ 0) = Bool.true]) := by kernel_rfl
theorem p92_3 (v7 : Int) (x0 : List (ByteArray × ByteArray × ByteArray × Unit)) : Am.runN tab ext92 false 33 [] 2000 [] [] [0, 5, 6, 7] [] [true, false, true, false] (cutAt b92 2) (E92_2 v7 x0) (L92_2 v7 x0) = some (cutAt b92 2, E92_2 (v7 + 1) (x0), L92_2 (v7 + 1) (x0), [Decidable.decide (v7 < (↑(List.length x0) : Int)) = Bool.true, 0 ≤ v7, v7 < (↑(List.length x0) : Int), P138 (List.getD x0 (Int.toNat v7) (ByteArray.empty, ByteArray.empty, ByteArray.empty, ())), (!g138_0 (List.getD x0 (Int.toNat v7) (ByteArray.empty, ByteArray.empty, ByteArray.empty, ()))) = Bool.false, Decidable.decide (v7 > 0) = Bool.true, InR IntKind.i64 (v7 - 1), 0 ≤ v7 - 1, v7 - 1 < (↑(List.length x0) : Int), True, Decidable.decide (g139_0 (List.getD x0 (Int.toNat (v7 - 1)) (ByteArray.empty, ByteArray.empty, ByteArray.empty, ())) (List.getD x0 (Int.toNat v7) (ByteArray.empty, ByteArray.empty, ByteArray.empty, ())) ≥ 0) = Bool.false, InR IntKind.i64 (v7 + 1)]) := by kernel_rfl
theorem p92_4 (v7 : Int) (x0 : List (ByteArray × ByteArray × ByteArray × Unit)) : Am.runN tab ext92 false 33 [] 2000 [] [] [0, 5, 6, 7] [] [true, false, false, false] (cutAt b92 2) (E92_2 v7 x0) (L92_2 v7 x0) = some (cutAt b92 2, E92_2 (v7 + 1) (x0), L92_2 (v7 + 1) (x0), [Decidable.decide (v7 < (↑(List.length x0) : Int)) = Bool.true, 0 ≤ v7, v7 < (↑(List.length x0) : Int), P138 (List.getD x0 (Int.toNat v7) (ByteArray.empty, ByteArray.empty, ByteArray.empty, ())), (!g138_0 (List.getD x0 (Int.toNat v7) (ByteArray.empty, ByteArray.empty, ByteArray.empty, ()))) = Bool.false, Decidable.decide (v7 > 0) = Bool.false, Bool.false = Bool.false, InR IntKind.i64 (v7 + 1)]) := by kernel_rfl
theorem p92_5 (v7 : Int) (x0 : List (ByteArray × ByteArray × ByteArray × Unit)) : runF tab ext92 false 33 [] 2000 [] tys92 Tryd.f92.results [false] (cutAt b92 2) (E92_2 v7 x0) (L92_2 v7 x0) = some ([Dyn.mk Ty.bool (Decidable.decide ((↑(List.length x0) : Int) ≤ 32))], [], [Decidable.decide (v7 < (↑(List.length x0) : Int)) = Bool.false]) := by kernel_rfl
theorem snd92 : ∀ n, (∀ (x0 : List (ByteArray × ByteArray × ByteArray × Unit)) ds, R92 n x0 ds → ∀ w0 O q, AtV Tryd.prog 92 (PostR ds [] [] q w0 O) 33 w0 O q [] [.code b92] (entE 0 0 sig92 (x0, ())) (entL sig92 (x0, ()))) ∧ (∀ (v7 : Int) (x0 : List (ByteArray × ByteArray × ByteArray × Unit)) ds, R92_2 n v7 x0 ds → ∀ w0 O q, AtV Tryd.prog 92 (PostR ds [] [] q w0 O) 33 w0 O q [] (cutAt b92 2) (E92_2 v7 x0) (L92_2 v7 x0)) := by
  intro n
  induction n with
  | zero => exact ⟨fun _ _ h => by simp only [R92] at h, fun _ _ _ h => by simp only [R92_2] at h⟩
  | succ n ih =>
  obtain ⟨ih, ih2⟩ := ih
  refine ⟨?_, ?_⟩
  · intro x0 ds h w0 O q
    rw [R92] at h
    exact AtV.runN tabOk ext92Ok mixed (p92_0 x0) trivial (ih2 _ _ _ h w0 O q)

  · intro v7 x0 ds h w0 O q
    rw [R92_2] at h
    by_cases b0 : (Decidable.decide (v7 < (↑(List.length x0) : Int))) = true
    · rw [if_pos b0] at h
      obtain ⟨s0, s1, h⟩ := h
      obtain ⟨s2, h⟩ := h
      by_cases b1 : (!g138_0 (List.getD x0 (Int.toNat v7) (ByteArray.empty, ByteArray.empty, ByteArray.empty, ()))) = true
      · rw [if_pos b1] at h
        subst h
        exact AtV.fin Tryd.func92 tabOk ext92Ok mixed (p92_1 v7 x0) ⟨b0, s0, s1, s2, b1, rfl, trivial⟩
      · rw [if_neg b1] at h
        replace b1 := Bool.eq_false_iff.2 b1
        by_cases b2 : (Decidable.decide (v7 > 0)) = true
        · rw [if_pos b2] at h
          obtain ⟨s3, h⟩ := h
          obtain ⟨s4, s5, h⟩ := h
          by_cases b3 : (Decidable.decide (g139_0 (List.getD x0 (Int.toNat (v7 - 1)) (ByteArray.empty, ByteArray.empty, ByteArray.empty, ())) (List.getD x0 (Int.toNat v7) (ByteArray.empty, ByteArray.empty, ByteArray.empty, ())) ≥ 0)) = true
          · rw [if_pos b3] at h
            subst h
            exact AtV.fin Tryd.func92 tabOk ext92Ok mixed (p92_2 v7 x0) ⟨b0, s0, s1, s2, b1, b2, s3, s4, s5, trivial, b3, trivial⟩
          · rw [if_neg b3] at h
            replace b3 := Bool.eq_false_iff.2 b3
            obtain ⟨s6, h⟩ := h
            exact AtV.runN tabOk ext92Ok mixed (p92_3 v7 x0) ⟨b0, s0, s1, s2, b1, b2, s3, s4, s5, trivial, b3, s6, trivial⟩ (ih2 _ _ _ h w0 O q)
        · rw [if_neg b2] at h
          replace b2 := Bool.eq_false_iff.2 b2
          obtain ⟨s3, h⟩ := h
          exact AtV.runN tabOk ext92Ok mixed (p92_4 v7 x0) ⟨b0, s0, s1, s2, b1, b2, rfl, s3, trivial⟩ (ih2 _ _ _ h w0 O q)
    · rw [if_neg b0] at h
      replace b0 := Bool.eq_false_iff.2 b0
      subst h
      exact AtV.fin Tryd.func92 tabOk ext92Ok mixed (p92_5 v7 x0) ⟨b0, trivial⟩



/-- A block at its place. -/
def ok92 (x0 : List (ByteArray × ByteArray × ByteArray × Unit)) (i : Nat) (x : ByteArray × ByteArray × ByteArray × Unit) : Bool :=
  g138_0 x && (i == 0 || !decide (g139_0 (x0.getD (i - 1) (ByteArray.empty, ByteArray.empty, ByteArray.empty, ())) x ≥ 0))
def g92_0 (x0 : List (ByteArray × ByteArray × ByteArray × Unit)) : Bool := allI (ok92 x0) 0 x0 && decide (x0.length ≤ 32)
def P92 (x0 : List (ByteArray × ByteArray × ByteArray × Unit)) : Prop := True

theorem step92 (n i : Nat) (x0 : List (ByteArray × ByteArray × ByteArray × Unit)) (hm : x0.length ≤ maxLen) (hi : i < x0.length) (ds : List Dyn) :
    (if ok92 x0 i (x0.getD i (ByteArray.empty, ByteArray.empty, ByteArray.empty, ())) = true then R92_2 n ((i : Int) + 1) x0 ds else ds = [⟨.bool, false⟩]) → R92_2 (n + 1) (i : Int) x0 ds := by
  intro h
  have hu := inR_up hm hi
  rw [R92_2, if_pos (by simp; omega)]
  refine ⟨by omega, by omega, ?_⟩
  simp only [Int.toNat_natCast]
  unfold ok92 at h
  refine ⟨pre138 _, ?_⟩
  by_cases h1 : g138_0 (x0.getD i (ByteArray.empty, ByteArray.empty, ByteArray.empty, ())) = true
  case neg =>
    have h1 := Bool.eq_false_iff.2 h1
    rw [h1] at h
    rw [if_pos (by rw [h1]; rfl)]
    simpa using h
  case pos =>
    rw [h1] at h
    rw [if_neg (by rw [h1]; simp)]
    by_cases h0 : (i : Int) > 0
    · rw [if_pos (by simpa using h0)]
      have hi0 : (i == 0) = false := by simp; omega
      have e : ((i : Int) - 1).toNat = i - 1 := by omega
      refine ⟨by rw [i64_iff]; have : maxLen ≤ 9223372036854775807 := by decide
                 omega, by omega, by omega, ?_⟩
      rw [e]
      by_cases h2 : g139_0 (x0.getD (i - 1) (ByteArray.empty, ByteArray.empty, ByteArray.empty, ())) (x0.getD i (ByteArray.empty, ByteArray.empty, ByteArray.empty, ())) ≥ 0
      · rw [if_pos (by simpa using h2)]
        rw [hi0, decide_eq_true h2] at h
        simpa using h
      · rw [if_neg (by simpa using h2)]
        rw [hi0, decide_eq_false h2] at h
        exact ⟨hu, by simpa using h⟩
    · rw [if_neg (by simpa using h0)]
      have hi0 : (i == 0) = true := by simp; omega
      rw [hi0] at h
      exact ⟨hu, by simpa using h⟩

theorem top92 (x0 : List (ByteArray × ByteArray × ByteArray × Unit)) (hw : x0.length ≤ maxLen) : R92 (x0.length + 1 + 1) x0 [⟨.bool, g92_0 x0⟩] := by
  rw [R92]
  have key := loop_testI x0 (ByteArray.empty, ByteArray.empty, ByteArray.empty, ()) (ok92 x0) [(⟨.bool, false⟩ : Dyn)] [⟨.bool, decide (x0.length ≤ 32)⟩] (fun n i ds => R92_2 n i x0 ds) (fun n => ?_) (fun n i hi hok ds hr => ?_) (fun n i hi hok => ?_)
  · unfold g92_0
    cases h : allI (ok92 x0) 0 x0 with
    | true => rw [if_pos h] at key; simpa using key
    | false => rw [if_neg (by rw [h]; simp)] at key; simpa using key
  · rw [R92_2, if_neg (by simp)]
    have hc : decide ((x0.length : Int) ≤ 32) = decide (x0.length ≤ 32) := by
      congr 1; exact propext ⟨fun h => by omega, fun h => by omega⟩
    rw [hc]
  · exact step92 n i x0 hw hi ds (by rw [if_pos hok]; exact hr)
  · exact step92 n i x0 hw hi _ (by rw [if_neg (by rw [hok]; simp)])

def S92 : Am.Spec := { sig := sig92, pre := fun ⟨x0, _⟩ => P92 x0, res := fun ⟨x0, _⟩ => [⟨Ty.bool, g92_0 x0⟩] }
theorem con92 : Contract Tryd.prog 92 S92 := contract_of Tryd.func92 hb92 (Nat.le_of_ble_eq_true (by kernel_rfl)) (fun ⟨x0, _⟩ h hwf w0 O q =>
  (snd92 _).1 x0 _ (top92 x0 hwf.1.1) w0 O q)

end Go.Proofs.YtakodkjcmacofaaDoor

/- Function 93 ((*strings.Builder).WriteString): its contract, off what is known of the library. -/
set_option linter.unusedVariables false
set_option linter.unusedSimpArgs false
set_option maxRecDepth 100000
namespace Go.Proofs.YtakodkjcmacofaaDoor
open Go Go.Am Go.Proofs

open Go.RowKit
theorem bInfo : ∃ j, Tryd.prog.info? 95 = some j ∧ j.size = 2 := by
  have h : (Tryd.prog.info? 95).map (·.size) = some 2 := by kernel_rfl
  obtain ⟨j, hj, hjs⟩ := Option.map_eq_some_iff.1 h
  exact ⟨j, hj, hjs⟩

set_option maxHeartbeats 1000000 in
theorem copyUsed (b : Nat) (w : World) (h0 : w.cell? ⟨b, 0, none⟩ = some (.pointer (some ⟨b, 0, none⟩))) :
    Calls Tryd.prog 140 #[.pointer (some ⟨b, 0, none⟩)] w fun e w' => e = .returned (.tuple #[]) ∧ w' = w := by
  obtain ⟨j, hj, _⟩ := bInfo
  have mixed := mixed
  go_enter Tryd.func140, Tryd.ntmps140
  go_wp2
  rw [Lib.run_neq_ptr_same w _ Tryd.underlying93 hj]
  go_wp2
  go_end0
  exact ⟨rfl, rfl⟩

set_option maxHeartbeats 1000000 in
theorem copyFresh (b : Nat) (w : World) (h0 : w.cell? ⟨b, 0, none⟩ = some (.pointer none)) (hsh : w.shape? b = some (95, 2)) (hfz : w.frozen? ⟨b, 0, none⟩ = false) :
    Calls Tryd.prog 140 #[.pointer (some ⟨b, 0, none⟩)] w fun e w' => e = .returned (.tuple #[]) ∧ w' = w.setCell ⟨b, 0, none⟩ (.pointer (some ⟨b, 0, none⟩)) := by
  obtain ⟨j, hj, hjs⟩ := bInfo
  have mixed := mixed
  have t70 := Tryd.underlying93; have t164 := Tryd.underlying143
  go_enter Tryd.func140, Tryd.ntmps140
  go_wp2
  rw [Lib.run_to_unsafe w ⟨b, 0, none⟩ Tryd.underlying93 Tryd.underlying143 hj (by rw [hjs]; decide) hsh (Nat.zero_lt_succ 1)]
  simp only [Result.andThen]
  rw [Oper.upon_value]
  go_wp2
  rw [run_callFunc_extern Tryd.func166 (by kernel_rfl) (by kernel_rfl) (by kernel_rfl) (e := Extern.AbiNoEscape.same) (by kernel_rfl)]
  rw [Lib.run_noEscape]
  simp only [Result.andThen]
  rw [Oper.upon_value]
  go_wp2
  rw [Lib.run_from_unsafe w ⟨b, 0, none⟩ Tryd.underlying143 Tryd.underlying93 hj hsh (by kernel_rfl)]
  simp only [Result.andThen]
  rw [Oper.upon_value]
  go_wp2
  go_end0
  exact ⟨rfl, rfl⟩

theorem copyCheck (B b : Nat) (bs : List Value) (w : World) (h : Lib.IsBuilderF 95 5 B b bs w) :
    Calls Tryd.prog 140 #[.pointer (some ⟨b, 0, none⟩)] w fun e w' => e = .returned (.tuple #[]) ∧ (Lib.BuilderAtF 95 5 B b (.pointer (some ⟨b, 0, none⟩)) bs w' ∧ Below B w w') := by
  rcases h with h | h
  · refine (copyFresh b w h.cell0 h.shape h.frozen0).mono ?_
    rintro e w' ⟨rfl, rfl⟩
    exact ⟨rfl, h.used _, (Below.refl B w).setCell (p := ⟨b, 0, none⟩) h.1 _⟩
  · refine (copyUsed b w h.cell0).mono ?_
    rintro e w' ⟨rfl, rfl⟩
    exact ⟨rfl, h, Below.refl B _⟩

set_option maxHeartbeats 2000000 in
theorem writeString (B b : Nat) (bs : List Value) (s : ByteArray) (w : World) (h : Lib.IsBuilderF 95 5 B b bs w) (hlen : bs.length + s.size ≤ 140737488355328) (hBw : B ≤ w.heap.size) :
    Calls Tryd.prog 93 #[.pointer (some ⟨b, 0, none⟩), .string s] w fun e w' => e = .returned (.tuple #[.int .i64 s.size, .nilIface]) ∧ (Lib.BuilderAtF 95 5 B b (.pointer (some ⟨b, 0, none⟩)) (bs ++ Lib.strCells s) w' ∧ Below B w w') := by
  obtain ⟨i0, hi, hz0, hz1, hz2⟩ := info_parts (P := Tryd.prog) (e := 5) (z := .int .u8 0) (size := 1) (bytes := 1) (by kernel_rfl)
  have mixed := mixed
  go_enter Tryd.func93, Tryd.ntmps93
  go_wp2_with (go_at_call 140; refine (copyCheck B b bs _ h).mono ?_)
  rintro e w1 ⟨rfl, h1, hb1⟩
  obtain ⟨hB, v, hbk, hown, hne⟩ := h1
  have c0 : w1.cell? ⟨b, 0, none⟩ = some (.pointer (some ⟨b, 0, none⟩)) := by rw [Lib.cell_of_heap hbk]; rfl
  have c1 : w1.cell? ⟨b, 1, none⟩ = some v := by rw [Lib.cell_of_heap hbk]; rfl
  go_wp2_with (at_builtin; refine Lib.wpList_append_own_stringF _ rfl _ _ 45 9 rfl B 5 i0 Tryd.underlying45 Tryd.underlying9 hi hz0 hz1 hz2 _ _ _ rfl hown s rfl ?c3 ?c4 ?c5 ?_)
  case c3 => unfold maxLen; omega
  case c4 => omega
  case c5 => have := hb1.size; omega
  intro v' w2 hown' hgrow _
  have hlt : b < w1.heap.size := by
    rcases Nat.lt_or_ge b w1.heap.size with h' | h'
    · exact h'
    · simp [Array.getElem?_eq_none h'] at hbk
  have hb2 : w2.heap[b]? = some (.cells #[.pointer (some ⟨b, 0, none⟩), v] 95 (0, 0)) := by
    rw [hgrow.block b hlt (fun e => hne e.symm)]
    exact hbk
  have d0 : w2.cell? ⟨b, 0, none⟩ = some (.pointer (some ⟨b, 0, none⟩)) := by rw [Lib.cell_of_heap hb2]; rfl
  have d1 : w2.cell? ⟨b, 1, none⟩ = some v := by rw [Lib.cell_of_heap hb2]; rfl
  have f1 : w2.frozen? ⟨b, 1, none⟩ = false := Lib.frozen_of_heap hb2 1
  obtain ⟨ao, n', cap, rfl⟩ : ∃ ao n' cap, v' = .slice ao n' cap := by
    rcases hown'.2 with ⟨hv, _⟩ | ⟨g, cap, cur, fz, hv, _⟩
    · exact ⟨_, _, _, hv⟩
    · exact ⟨_, _, _, hv⟩
  go_wp2
  go_ret2
  refine ⟨rfl, ?_, ?_⟩
  · exact Lib.BuilderAtF.put (T := 95) (e := 5) hB hb2 (bs' := bs ++ Lib.strCells s) (by simpa [Lib.strCells_length] using hown') (by decide)
  · exact (hb1.grown hgrow (by have := hb1.size; omega) (fun k hk => (hown.lt k hk).1)).setCell (p := ⟨b, 1, none⟩) hB _

end Go.Proofs.YtakodkjcmacofaaDoor

/- Function 141 (strconv.FormatInt): its contract, off what is known of the library. -/
set_option linter.unusedVariables false
set_option linter.unusedSimpArgs false
set_option maxRecDepth 100000
namespace Go.Proofs.YtakodkjcmacofaaDoor
open Go Go.Am Go.Proofs

def sig141 : List AT := [AT.v (Ty.int .i64), AT.v (Ty.int .i64)]
def g141_0 (x0 x1 : Int) : ByteArray := numB x0
def P141 (x0 x1 : Int) : Prop := x1 = 10
def S141 : Am.Spec := { sig := sig141, pre := fun ⟨x0, x1, _⟩ => P141 x0 x1, res := fun ⟨x0, x1, _⟩ => [⟨Ty.str, g141_0 x0 x1⟩] }
theorem con141 : Contract Tryd.prog 141 S141 := contract_flat rfl fun w ⟨x0, x1, _⟩ vs bss hg hp hw ha => by
  obtain ⟨v0, s0, _, _, rfl, _, ⟨_, rfl, hi⟩, v1, s1, _, _, rfl, _, ⟨_, rfl, _⟩, rfl, _⟩ := ha
  obtain rfl : x1 = 10 := hp
  have hi : InR .i64 x0 := hi
  rw [i64_iff] at hi
  refine ⟨fun d hd => ?_, ?_⟩
  · rw [List.mem_singleton.1 hd]
    refine ⟨rfl, ?_⟩
    show (numB x0).size ≤ maxLen
    have := numB_size x0 hi.1 hi.2
    unfold maxLen; omega
  · refine (Tryd.strconv_FormatInt_10 x0 hi.1 hi.2 w (pow10G hg)).mono ?_
    rintro e w' ⟨rfl, n, os, rfl⟩
    exact ⟨rfl, kept_grow _ _ _⟩

end Go.Proofs.YtakodkjcmacofaaDoor

/- Function 94 (impl.Decimal): its runs between cut points. Written by a program of this repo (gen). -/
set_option linter.unusedVariables false
set_option linter.unusedSimpArgs false
set_option maxRecDepth 100000
namespace Go.Proofs.YtakodkjcmacofaaDoor
open Go Go.Am Go.Proofs
def ext94 : Ext := [(141, S141)]
theorem call94_141 : Callable Tryd.prog 141 := ⟨Tryd.f141, Tryd.func141, by kernel_rfl, by kernel_rfl⟩
theorem ext94Ok : ExtOk Tryd.prog ext94 := ⟨⟨call94_141, con141⟩, trivial⟩
/-! Function 94. -/
noncomputable def b94 : Code := bodyOf Tryd.f94
theorem hb94 : Tryd.f94.body = some b94 := by kernel_rfl
def sig94 : List AT := [AT.v (Ty.int IntKind.i64)]
def tys94 : List Ty := [Ty.str]
def P94 (x0 : Int) : Prop := ((P141 x0 10) ∧ True)
def g94_0 (x0 : Int) : ByteArray := g141_0 x0 10
theorem p94_0 (x0 : Int) : runF tab ext94 false 5 [] 2000 [] tys94 Tryd.f94.results [] [.code b94] (entE 0 0 sig94 (x0, ())) (entL sig94 (x0, ())) = some ([Dyn.mk Ty.str (g141_0 x0 10)], [], [P141 x0 10]) := by kernel_rfl
theorem at94 (x0 : Int) (h : P94 x0) (w0 : World) (O : List Nat) (q : Nat → Value) : AtV Tryd.prog 94 (PostR [⟨Ty.str, g94_0 x0⟩] [] [] q w0 O) 5 w0 O q [] [.code b94] (entE 0 0 sig94 (x0, ())) (entL sig94 (x0, ())) := by
  unfold P94 at h
  unfold g94_0
  obtain ⟨s0, h⟩ := h
  exact AtV.fin Tryd.func94 tabOk ext94Ok mixed (p94_0 x0) ⟨s0, trivial⟩

def S94 : Am.Spec := { sig := sig94, pre := fun ⟨x0, _⟩ => P94 x0, res := fun ⟨x0, _⟩ => [⟨Ty.str, g94_0 x0⟩] }
theorem con94 : Contract Tryd.prog 94 S94 := contract_of Tryd.func94 hb94 (Nat.le_of_ble_eq_true (by kernel_rfl)) (fun ⟨x0, _⟩ h _ w0 O q => at94 x0 h w0 O q)


end Go.Proofs.YtakodkjcmacofaaDoor

/- Function 95 (impl.size[impl.Block]): its runs between cut points. Written by a program of this repo (gen). -/
set_option linter.unusedVariables false
set_option linter.unusedSimpArgs false
set_option maxRecDepth 100000
namespace Go.Proofs.YtakodkjcmacofaaDoor
open Go Go.Am Go.Proofs
def ext95 : Ext := []
theorem ext95Ok : ExtOk Tryd.prog ext95 := trivial
/-! Function 95. -/
noncomputable def b95 : Code := bodyOf Tryd.f95
theorem hb95 : Tryd.f95.body = some b95 := by kernel_rfl
def sig95 : List AT := [AT.v (Ty.sl (Ty.cons Ty.str (Ty.cons Ty.str (Ty.cons Ty.str Ty.unit))))]
def tys95 : List Ty := [Ty.int IntKind.i64]
def P95 (x0 : List (ByteArray × ByteArray × ByteArray × Unit)) : Prop := True
def g95_0 (x0 : List (ByteArray × ByteArray × ByteArray × Unit)) : Int := (↑(List.length x0) : Int)
theorem p95_0 (x0 : List (ByteArray × ByteArray × ByteArray × Unit)) : runF tab ext95 false 5 [] 2000 [] tys95 Tryd.f95.results [] [.code b95] (entE 0 0 sig95 (x0, ())) (entL sig95 (x0, ())) = some ([Dyn.mk (Ty.int IntKind.i64) (↑(List.length x0) : Int)], [], []) := by kernel_rfl
theorem at95 (x0 : List (ByteArray × ByteArray × ByteArray × Unit)) (h : P95 x0) (w0 : World) (O : List Nat) (q : Nat → Value) : AtV Tryd.prog 95 (PostR [⟨Ty.int IntKind.i64, g95_0 x0⟩] [] [] q w0 O) 5 w0 O q [] [.code b95] (entE 0 0 sig95 (x0, ())) (entL sig95 (x0, ())) := by
  unfold P95 at h
  unfold g95_0
  exact AtV.fin Tryd.func95 tabOk ext95Ok mixed (p95_0 x0) trivial

def S95 : Am.Spec := { sig := sig95, pre := fun ⟨x0, _⟩ => P95 x0, res := fun ⟨x0, _⟩ => [⟨Ty.int IntKind.i64, g95_0 x0⟩] }
theorem con95 : Contract Tryd.prog 95 S95 := contract_of Tryd.func95 hb95 (Nat.le_of_ble_eq_true (by kernel_rfl)) (fun ⟨x0, _⟩ h _ w0 O q => at95 x0 h w0 O q)


end Go.Proofs.YtakodkjcmacofaaDoor

/- Function 102 (impl.within): its runs between cut points. Written by a program of this repo (gen). -/
set_option linter.unusedVariables false
set_option linter.unusedSimpArgs false
set_option maxRecDepth 100000
namespace Go.Proofs.YtakodkjcmacofaaDoor
open Go Go.Am Go.Proofs
def ext102 : Ext := []
theorem ext102Ok : ExtOk Tryd.prog ext102 := trivial
/-! Function 102. -/
noncomputable def b102 : Code := bodyOf Tryd.f102
theorem hb102 : Tryd.f102.body = some b102 := by kernel_rfl
def sig102 : List AT := [AT.v (Ty.int IntKind.i64), AT.v (Ty.int IntKind.i64), AT.v (Ty.int IntKind.i64)]
def tys102 : List Ty := [Ty.bool]
def P102 (x0 : Int) (x1 : Int) (x2 : Int) : Prop := True
def g102_0 (x0 : Int) (x1 : Int) (x2 : Int) : Bool := (if (Decidable.decide (x0 ≥ x1)) = true then Decidable.decide (x0 ≤ x2) else Bool.false)
theorem p102_0 (x0 : Int) (x1 : Int) (x2 : Int) : runF tab ext102 false 15 [] 2000 [] tys102 Tryd.f102.results [true] [.code b102] (entE 0 0 sig102 (x0, x1, x2, ())) (entL sig102 (x0, x1, x2, ())) = some ([Dyn.mk Ty.bool (Decidable.decide (x0 ≤ x2))], [], [Decidable.decide (x0 ≥ x1) = Bool.true]) := by kernel_rfl
theorem p102_1 (x0 : Int) (x1 : Int) (x2 : Int) : runF tab ext102 false 15 [] 2000 [] tys102 Tryd.f102.results [false] [.code b102] (entE 0 0 sig102 (x0, x1, x2, ())) (entL sig102 (x0, x1, x2, ())) = some ([Dyn.mk Ty.bool Bool.false], [], [Decidable.decide (x0 ≥ x1) = Bool.false]) := by kernel_rfl
theorem at102 (x0 : Int) (x1 : Int) (x2 : Int) (h : P102 x0 x1 x2) (w0 : World) (O : List Nat) (q : Nat → Value) : AtV Tryd.prog 102 (PostR [⟨Ty.bool, g102_0 x0 x1 x2⟩] [] [] q w0 O) 15 w0 O q [] [.code b102] (entE 0 0 sig102 (x0, x1, x2, ())) (entL sig102 (x0, x1, x2, ())) := by
  unfold P102 at h
  unfold g102_0
  by_cases b0 : (Decidable.decide (x0 ≥ x1)) = true
  · try simp only [if_pos b0] at h ⊢
    exact AtV.fin Tryd.func102 tabOk ext102Ok mixed (p102_0 x0 x1 x2) ⟨b0, trivial⟩
  · try simp only [if_neg b0] at h ⊢
    replace b0 := Bool.eq_false_iff.2 b0
    exact AtV.fin Tryd.func102 tabOk ext102Ok mixed (p102_1 x0 x1 x2) ⟨b0, trivial⟩

def S102 : Am.Spec := { sig := sig102, pre := fun ⟨x0, x1, x2, _⟩ => P102 x0 x1 x2, res := fun ⟨x0, x1, x2, _⟩ => [⟨Ty.bool, g102_0 x0 x1 x2⟩] }
theorem con102 : Contract Tryd.prog 102 S102 := contract_of Tryd.func102 hb102 (Nat.le_of_ble_eq_true (by kernel_rfl)) (fun ⟨x0, x1, x2, _⟩ h _ w0 O q => at102 x0 x1 x2 h w0 O q)


end Go.Proofs.YtakodkjcmacofaaDoor

/- Function 142 (impl.Crc16): its runs between cut points. Written by a program of this repo (gen). -/
set_option linter.unusedVariables false
set_option linter.unusedSimpArgs false
set_option maxRecDepth 100000
namespace Go.Proofs.YtakodkjcmacofaaDoor
open Go Go.Am Go.Proofs
def ext142 : Ext := [(102, S102)]
theorem call142_102 : Callable Tryd.prog 102 := ⟨Tryd.f102, Tryd.func102, by kernel_rfl, by kernel_rfl⟩
theorem ext142Ok : ExtOk Tryd.prog ext142 := ⟨⟨call142_102, con102⟩, trivial⟩
/-! Function 142. -/
noncomputable def b142 : Code := bodyOf Tryd.f142
theorem hb142 : Tryd.f142.body = some b142 := by kernel_rfl
def sig142 : List AT := [AT.v (Ty.str), AT.v (Ty.int IntKind.i64)]
def tys142 : List Ty := [Ty.int IntKind.i64]
def E142_5 (v15 : Int) (x1 : Int) (x0 : ByteArray) : Env := [(5, PV.a (Atom.val (Value.int IntKind.i64 x1))), (13, PV.a (Atom.osl 0 Option.none)), (14, PV.a (Atom.val (Value.int IntKind.i64 (↑(List.length (bytesOf x0)) : Int)))), (15, PV.a (Atom.val (Value.int IntKind.i64 v15)))]
def L142_5 (v15 : Int) (x1 : Int) (x0 : ByteArray) : Heap := [Option.some (Arr.mk (Ty.int IntKind.u8) (bytesOf x0) Bool.false)]
def E142_9 (v5 : Int) (v24 : Int) (x0 : ByteArray) (v15 : Int) : Env := [(5, PV.a (Atom.val (Value.int IntKind.i64 v5))), (13, PV.a (Atom.osl 0 Option.none)), (14, PV.a (Atom.val (Value.int IntKind.i64 (↑(List.length (bytesOf x0)) : Int)))), (15, PV.a (Atom.val (Value.int IntKind.i64 v15))), (24, PV.a (Atom.val (Value.int IntKind.i64 v24)))]
def L142_9 (v5 : Int) (v24 : Int) (x0 : ByteArray) (v15 : Int) : Heap := [Option.some (Arr.mk (Ty.int IntKind.u8) (bytesOf x0) Bool.false)]
mutual
def R142 : Nat → ByteArray → Int → List Dyn → Prop
  | 0, _, _, _ => False
  | n + 1, x0, x1, ds => (if (!g102_0 x1 0 65535) = true then (ds = [Dyn.mk (Ty.int IntKind.i64) 0]) else (R142_5 n (0) (x1) (x0) ds))
def R142_5 : Nat → Int → Int → ByteArray → List Dyn → Prop
  | 0, _, _, _, _ => False
  | n + 1, v15, x1, x0, ds => (if (Decidable.decide (v15 < (↑(List.length (bytesOf x0)) : Int))) = true then ((0 ≤ v15) ∧ (v15 < (↑(List.length (bytesOf x0)) : Int)) ∧ ((InR IntKind.i64 (List.getD (bytesOf x0) (Int.toNat v15) 0)) ∧ (R142_9 n (IntKind.wrap IntKind.i64 (↑(BitVec.toNat (BitVec.ofInt 64 x1 ^^^ BitVec.ofInt 64 (IntKind.wrap IntKind.i64 (List.getD (bytesOf x0) (Int.toNat v15) 0 * 256)))) : Int)) (0) (x0) (v15) ds))) else (ds = [Dyn.mk (Ty.int IntKind.i64) x1]))
def R142_9 : Nat → Int → Int → ByteArray → Int → List Dyn → Prop
  | 0, _, _, _, _, _ => False
  | n + 1, v5, v24, x0, v15, ds => (if (Decidable.decide (v24 < 8)) = true then (if (Decidable.decide (IntKind.wrap IntKind.i64 (v5 * 2) > 65535)) = true then ((InR IntKind.i64 (v24 + 1)) ∧ (R142_9 n (IntKind.wrap IntKind.i64 (↑(BitVec.toNat (BitVec.ofInt 64 (IntKind.wrap IntKind.i64 (↑(BitVec.toNat (BitVec.ofInt 64 (IntKind.wrap IntKind.i64 (v5 * 2)) &&& BitVec.ofInt 64 65535)) : Int)) ^^^ BitVec.ofInt 64 4129)) : Int)) (v24 + 1) (x0) (v15) ds)) else ((InR IntKind.i64 (v24 + 1)) ∧ (R142_9 n (IntKind.wrap IntKind.i64 (v5 * 2)) (v24 + 1) (x0) (v15) ds))) else ((InR IntKind.i64 (v15 + 1)) ∧ (R142_5 n (v15 + 1) (v5) (x0) ds)))
end
theorem p142_0 (x0 : ByteArray) (x1 : Int) : runF tab ext142 false 36 [] 2000 [] tys142 Tryd.f142.results [true] [.code b142] (entE 0 0 sig142 (x0, x1, ())) (entL sig142 (x0, x1, ())) = some ([Dyn.mk (Ty.int IntKind.i64) 0], [], [True, (!g102_0 x1 0 65535) = Bool.true]) := by kernel_rfl
theorem p142_1 (x0 : ByteArray) (x1 : Int) : Am.runN tab ext142 false 36 [] 2000 [] [] [5, 13, 14, 15] [0] [false] [.code b142] (entE 0 0 sig142 (x0, x1, ())) (entL sig142 (x0, x1, ())) = some (cutAt b142 5, E142_5 (0) (x1) (x0), L142_5 (0) (x1) (x0), [True, (!g102_0 x1 0 65535) = Bool.false]) := by kernel_rfl
theorem p142_2 (v15 : Int) (x1 : Int) (x0 : ByteArray) : Am.runN tab ext142 false 36 [] 2000 [] [] [5, 13, 14, 15, 24] [0] [true] (cutAt b142 5) (E142_5 v15 x1 x0) (L142_5 v15 x1 x0) = some (cutAt b142 9, E142_9 (IntKind.wrap IntKind.i64 (↑(BitVec.toNat (BitVec.ofInt 64 x1 ^^^ BitVec.ofInt 64 (IntKind.wrap IntKind.i64 (List.getD (bytesOf x0) (Int.toNat v15) 0 * 256)))) : Int)) (0) (x0) (v15), L142_9 (IntKind.wrap IntKind.i64 (↑(BitVec.toNat (BitVec.ofInt 64 x1 ^^^ BitVec.ofInt 64 (IntKind.wrap IntKind.i64 (List.getD (bytesOf x0) (Int.toNat v15) 0 * 256)))) : Int)) (0) (x0) (v15), [Decidable.decide (v15 < (↑(List.length (bytesOf x0)) : Int)) = Bool.true, 0 ≤ v15, v15 < (↑(List.length (bytesOf x0)) : Int), InR IntKind.i64 (List.getD (bytesOf x0) (Int.toNat v15) 0), (0 : Int) ≤ (8 : Int)]) := by kernel_rfl
theorem p142_3 (v15 : Int) (x1 : Int) (x0 : ByteArray) : runF tab ext142 false 36 [] 2000 [] tys142 Tryd.f142.results [false] (cutAt b142 5) (E142_5 v15 x1 x0) (L142_5 v15 x1 x0) = some ([Dyn.mk (Ty.int IntKind.i64) x1], [], [Decidable.decide (v15 < (↑(List.length (bytesOf x0)) : Int)) = Bool.false]) := by kernel_rfl
theorem p142_4 (v5 : Int) (v24 : Int) (x0 : ByteArray) (v15 : Int) : Am.runN tab ext142 false 36 [] 2000 [] [] [5, 13, 14, 15, 24] [0] [true, true] (cutAt b142 9) (E142_9 v5 v24 x0 v15) (L142_9 v5 v24 x0 v15) = some (cutAt b142 9, E142_9 (IntKind.wrap IntKind.i64 (↑(BitVec.toNat (BitVec.ofInt 64 (IntKind.wrap IntKind.i64 (↑(BitVec.toNat (BitVec.ofInt 64 (IntKind.wrap IntKind.i64 (v5 * 2)) &&& BitVec.ofInt 64 65535)) : Int)) ^^^ BitVec.ofInt 64 4129)) : Int)) (v24 + 1) (x0) (v15), L142_9 (IntKind.wrap IntKind.i64 (↑(BitVec.toNat (BitVec.ofInt 64 (IntKind.wrap IntKind.i64 (↑(BitVec.toNat (BitVec.ofInt 64 (IntKind.wrap IntKind.i64 (v5 * 2)) &&& BitVec.ofInt 64 65535)) : Int)) ^^^ BitVec.ofInt 64 4129)) : Int)) (v24 + 1) (x0) (v15), [Decidable.decide (v24 < 8) = Bool.true, (0 : Int) ≤ (1 : Int), Decidable.decide (IntKind.wrap IntKind.i64 (v5 * 2) > 65535) = Bool.true, InR IntKind.i64 (v24 + 1)]) := by kernel_rfl
theorem p142_5 (v5 : Int) (v24 : Int) (x0 : ByteArray) (v15 : Int) : Am.runN tab ext142 false 36 [] 2000 [] [] [5, 13, 14, 15, 24] [0] [true, false] (cutAt b142 9) (E142_9 v5 v24 x0 v15) (L142_9 v5 v24 x0 v15) = some (cutAt b142 9, E142_9 (IntKind.wrap IntKind.i64 (v5 * 2)) (v24 + 1) (x0) (v15), L142_9 (IntKind.wrap IntKind.i64 (v5 * 2)) (v24 + 1) (x0) (v15), [Decidable.decide (v24 < 8) = Bool.true, (0 : Int) ≤ (1 : Int), Decidable.decide (IntKind.wrap IntKind.i64 (v5 * 2) > 65535) = Bool.false, InR IntKind.i64 (v24 + 1)]) := by kernel_rfl
theorem p142_6 (v5 : Int) (v24 : Int) (x0 : ByteArray) (v15 : Int) : Am.runN tab ext142 false 36 [] 2000 [] [] [5, 13, 14, 15] [0] [false] (cutAt b142 9) (E142_9 v5 v24 x0 v15) (L142_9 v5 v24 x0 v15) = some (cutAt b142 5, E142_5 (v15 + 1) (v5) (x0), L142_5 (v15 + 1) (v5) (x0), [Decidable.decide (v24 < 8) = Bool.false, InR IntKind.i64 (v15 + 1)]) := by kernel_rfl
theorem snd142 : ∀ n, (∀ (x0 : ByteArray) (x1 : Int) ds, R142 n x0 x1 ds → ∀ w0 O q, AtV Tryd.prog 142 (PostR ds [] [] q w0 O) 36 w0 O q [] [.code b142] (entE 0 0 sig142 (x0, x1, ())) (entL sig142 (x0, x1, ()))) ∧ (∀ (v15 : Int) (x1 : Int) (x0 : ByteArray) ds, R142_5 n v15 x1 x0 ds → ∀ w0 O q, AtV Tryd.prog 142 (PostR ds [] [] q w0 O) 36 w0 O q [] (cutAt b142 5) (E142_5 v15 x1 x0) (L142_5 v15 x1 x0)) ∧ (∀ (v5 : Int) (v24 : Int) (x0 : ByteArray) (v15 : Int) ds, R142_9 n v5 v24 x0 v15 ds → ∀ w0 O q, AtV Tryd.prog 142 (PostR ds [] [] q w0 O) 36 w0 O q [] (cutAt b142 9) (E142_9 v5 v24 x0 v15) (L142_9 v5 v24 x0 v15)) := by
  intro n
  induction n with
  | zero => exact ⟨fun _ _ _ h => by simp only [R142] at h, fun _ _ _ _ h => by simp only [R142_5] at h, fun _ _ _ _ _ h => by simp only [R142_9] at h⟩
  | succ n ih =>
  obtain ⟨ih, ih5, ih9⟩ := ih
  refine ⟨?_, ?_, ?_⟩
  · intro x0 x1 ds h w0 O q
    rw [R142] at h
    by_cases b0 : (!g102_0 x1 0 65535) = true
    · rw [if_pos b0] at h
      subst h
      exact AtV.fin Tryd.func142 tabOk ext142Ok mixed (p142_0 x0 x1) ⟨trivial, b0, trivial⟩
    · rw [if_neg b0] at h
      replace b0 := Bool.eq_false_iff.2 b0
      exact AtV.runN tabOk ext142Ok mixed (p142_1 x0 x1) ⟨trivial, b0, trivial⟩ (ih5 _ _ _ _ h w0 O q)

  · intro v15 x1 x0 ds h w0 O q
    rw [R142_5] at h
    by_cases b0 : (Decidable.decide (v15 < (↑(List.length (bytesOf x0)) : Int))) = true
    · rw [if_pos b0] at h
      obtain ⟨s0, s1, h⟩ := h
      obtain ⟨s2, h⟩ := h
      exact AtV.runN tabOk ext142Ok mixed (p142_2 v15 x1 x0) ⟨b0, s0, s1, s2, (by decide), trivial⟩ (ih9 _ _ _ _ _ h w0 O q)
    · rw [if_neg b0] at h
      replace b0 := Bool.eq_false_iff.2 b0
      subst h
      exact AtV.fin Tryd.func142 tabOk ext142Ok mixed (p142_3 v15 x1 x0) ⟨b0, trivial⟩

  · intro v5 v24 x0 v15 ds h w0 O q
    rw [R142_9] at h
    by_cases b0 : (Decidable.decide (v24 < 8)) = true
    · rw [if_pos b0] at h
      by_cases b1 : (Decidable.decide (IntKind.wrap IntKind.i64 (v5 * 2) > 65535)) = true
      · rw [if_pos b1] at h
        obtain ⟨s0, h⟩ := h
        exact AtV.runN tabOk ext142Ok mixed (p142_4 v5 v24 x0 v15) ⟨b0, (by decide), b1, s0, trivial⟩ (ih9 _ _ _ _ _ h w0 O q)
      · rw [if_neg b1] at h
        replace b1 := Bool.eq_false_iff.2 b1
        obtain ⟨s0, h⟩ := h
        exact AtV.runN tabOk ext142Ok mixed (p142_5 v5 v24 x0 v15) ⟨b0, (by decide), b1, s0, trivial⟩ (ih9 _ _ _ _ _ h w0 O q)
    · rw [if_neg b0] at h
      replace b0 := Bool.eq_false_iff.2 b0
      obtain ⟨s0, h⟩ := h
      exact AtV.runN tabOk ext142Ok mixed (p142_6 v5 v24 x0 v15) ⟨b0, s0, trivial⟩ (ih5 _ _ _ _ h w0 O q)



def bit142 (s : Int) : Int := if (Decidable.decide (IntKind.wrap IntKind.i64 (s * 2) > 65535)) = true then (IntKind.wrap IntKind.i64 (↑(BitVec.toNat (BitVec.ofInt 64 (IntKind.wrap IntKind.i64 (↑(BitVec.toNat (BitVec.ofInt 64 (IntKind.wrap IntKind.i64 (s * 2)) &&& BitVec.ofInt 64 65535)) : Int)) ^^^ BitVec.ofInt 64 4129)) : Int)) else (IntKind.wrap IntKind.i64 (s * 2))
def bits142 : Nat → Int → Int
  | 0, s => s
  | k + 1, s => bits142 k (bit142 s)
def byte142 (s c : Int) : Int := bits142 8 (IntKind.wrap IntKind.i64 (↑(BitVec.toNat (BitVec.ofInt 64 s ^^^ BitVec.ofInt 64 (IntKind.wrap IntKind.i64 (c * 256)))) : Int))
def g142_0 (x0 : ByteArray) (x1 : Int) : Int := if (!g102_0 x1 0 65535) = true then 0 else (bytesOf x0).foldl byte142 x1
def P142 (x0 : ByteArray) (x1 : Int) : Prop := True

theorem inner142 (x0 : ByteArray) (hm : (bytesOf x0).length ≤ maxLen) (i n : Nat) (hi : i < (bytesOf x0).length) (ds : List Dyn) : ∀ (k j : Nat) (s : Int), j + k = 8 → R142_5 n ((i : Int) + 1) (bits142 k s) x0 ds → R142_9 (n + 1 + k) s (j : Int) x0 (i : Int) ds := by
  intro k
  induction k with
  | zero =>
    intro j s hj hr
    rw [R142_9, if_neg (by simp; omega)]
    exact ⟨inR_up hm hi, hr⟩
  | succ k ih =>
    intro j s hj hr
    have e2 : (j : Int) + 1 = ((j + 1 : Nat) : Int) := by omega
    rw [show n + 1 + (k + 1) = (n + 1 + k) + 1 by omega, R142_9, if_pos (by simp; omega)]
    unfold bits142 bit142 at hr
    by_cases hc : (Decidable.decide (IntKind.wrap IntKind.i64 (s * 2) > 65535)) = true
    · rw [if_pos hc] at hr ⊢
      rw [e2]
      exact ⟨by rw [i64_iff]; omega, ih (j + 1) _ (by omega) hr⟩
    · rw [if_neg hc] at hr ⊢
      rw [e2]
      exact ⟨by rw [i64_iff]; omega, ih (j + 1) _ (by omega) hr⟩

theorem run142 (x0 : ByteArray) (hm : x0.size ≤ maxLen) : ∀ (k i : Nat) (s : Int), i + k = x0.size → ∃ n, R142_5 n (i : Int) s x0 [⟨.int .i64, ((bytesOf x0).drop i).foldl byte142 s⟩] := by
  intro k
  have hl := bytesOf_length x0
  induction k with
  | zero =>
    intro i s hi
    refine ⟨1, ?_⟩
    rw [R142_5, if_neg (by rw [hl]; simp; omega), List.drop_of_length_le (by omega)]
    rfl
  | succ k ih =>
    intro i s hi
    have hlt : i < (bytesOf x0).length := by omega
    have hcons := drop_get (bytesOf x0) i 0 hlt
    obtain ⟨n, hn⟩ := ih (i + 1) (byte142 s ((bytesOf x0).getD i 0)) (by omega)
    refine ⟨n + 1 + 8 + 1, ?_⟩
    have hb := bytesOf_range x0 _ (mem_getD (bytesOf x0) i 0 hlt)
    rw [R142_5, if_pos (by rw [hl]; simp; omega)]
    simp only [Int.toNat_natCast]
    rw [hcons, List.foldl_cons]
    exact ⟨by omega, by omega, by rw [i64_iff]; omega, inner142 x0 (by rw [hl]; exact hm) i n hlt _ 8 0 _ (by omega) hn⟩

theorem top142 (x0 : ByteArray) (x1 : Int) (hm : x0.size ≤ maxLen) : ∃ n, R142 n x0 x1 [⟨.int .i64, g142_0 x0 x1⟩] := by
  obtain ⟨n, hn⟩ := run142 x0 hm x0.size 0 x1 (by omega)
  refine ⟨n + 1, ?_⟩
  rw [R142]
  unfold g142_0
  by_cases hc : (!g102_0 x1 0 65535) = true
  · rw [if_pos hc, if_pos hc]
  · rw [if_neg hc, if_neg hc]
    exact hn

def S142 : Am.Spec := { sig := sig142, pre := fun ⟨x0, x1, _⟩ => P142 x0 x1, res := fun ⟨x0, x1, _⟩ => [⟨Ty.int .i64, g142_0 x0 x1⟩] }
theorem con142 : Contract Tryd.prog 142 S142 := contract_of Tryd.func142 hb142 (Nat.le_of_ble_eq_true (by kernel_rfl)) (fun ⟨x0, x1, _⟩ h hwf w0 O q =>
  let ⟨n, hn⟩ := top142 x0 x1 hwf.1
  (snd142 n).1 x0 x1 _ hn w0 O q)

end Go.Proofs.YtakodkjcmacofaaDoor

/- Function 143 (strings.Repeat): its contract, off what is known of the library. -/
set_option linter.unusedVariables false
set_option linter.unusedSimpArgs false
set_option maxRecDepth 100000
namespace Go.Proofs.YtakodkjcmacofaaDoor
open Go Go.Am Go.Proofs

def sig143 : List AT := [AT.v Ty.str, AT.v (Ty.int .i64)]
def g143_0 (x0 : ByteArray) (x1 : Int) : ByteArray := ⟨(Lib.repeatL x0.data.toList x1.toNat).toArray⟩
def P143 (x0 : ByteArray) (x1 : Int) : Prop := 0 ≤ x1 ∧ (x0.size : Int) * x1 ≤ 140737488355328
def S143 : Am.Spec := { sig := sig143, pre := fun ⟨x0, x1, _⟩ => P143 x0 x1, res := fun ⟨x0, x1, _⟩ => [⟨Ty.str, g143_0 x0 x1⟩] }
theorem con143 : Contract Tryd.prog 143 S143 := contract_flat rfl fun w ⟨x0, x1, _⟩ vs bss hg hp hw ha => by
  obtain ⟨v0, s0, _, _, rfl, _, ⟨_, rfl, _⟩, v1, s1, _, _, rfl, _, ⟨_, rfl, _⟩, rfl, _⟩ := ha
  obtain ⟨h0, h1⟩ := hp
  obtain ⟨c, rfl⟩ : ∃ c : Nat, x1 = (c : Int) := Int.eq_ofNat_of_zero_le h0
  have hi : InR .i64 (c : Int) := hw.2.1
  rw [i64_iff] at hi
  have hm : x0.size * c ≤ 140737488355328 := by
    have : ((x0.size * c : Nat) : Int) = (x0.size : Int) * (c : Int) := Int.natCast_mul _ _
    omega
  refine ⟨fun d hd => ?_, ?_⟩
  · rw [List.mem_singleton.1 hd]
    refine ⟨rfl, ?_⟩
    show (ByteArray.mk (Lib.repeatL x0.data.toList c).toArray).size ≤ maxLen
    have : (ByteArray.mk (Lib.repeatL x0.data.toList c).toArray).size = c * x0.data.toList.length := by
      show (Lib.repeatL x0.data.toList c).toArray.size = _
      rw [List.size_toArray, Lib.repeatL_length]
    rw [this, Nat.mul_comm]
    have e : x0.data.toList.length = x0.size := rfl
    rw [e]
    unfold maxLen
    omega
  · refine (Tryd.strings_Repeat x0 c w (by omega) hm).mono ?_
    rintro e w' ⟨rfl, hb⟩
    exact ⟨rfl, Kept.of_below hb⟩

end Go.Proofs.YtakodkjcmacofaaDoor

/- Function 96 (impl.lineOfBlock): its runs between cut points. Written by a program of this repo (gen). -/
set_option linter.unusedVariables false
set_option linter.unusedSimpArgs false
set_option maxRecDepth 100000
namespace Go.Proofs.YtakodkjcmacofaaDoor
open Go Go.Am Go.Proofs
def ext96 : Ext := [(142, S142), (94, S94), (143, S143)]
theorem call96_142 : Callable Tryd.prog 142 := ⟨Tryd.f142, Tryd.func142, by kernel_rfl, by kernel_rfl⟩
theorem call96_94 : Callable Tryd.prog 94 := ⟨Tryd.f94, Tryd.func94, by kernel_rfl, by kernel_rfl⟩
theorem call96_143 : Callable Tryd.prog 143 := ⟨Tryd.f143, Tryd.func143, by kernel_rfl, by kernel_rfl⟩
theorem ext96Ok : ExtOk Tryd.prog ext96 := ⟨⟨call96_142, con142⟩, ⟨call96_94, con94⟩, ⟨call96_143, con143⟩, trivial⟩
/-! Function 96. -/
noncomputable def b96 : Code := bodyOf Tryd.f96
theorem hb96 : Tryd.f96.body = some b96 := by kernel_rfl
def sig96 : List AT := [AT.v (Ty.cons Ty.str (Ty.cons Ty.str (Ty.cons Ty.str Ty.unit)))]
def tys96 : List Ty := [Ty.str]
def P96 (x0 : ByteArray × ByteArray × ByteArray × Unit) : Prop := ((ByteArray.size (Prod.fst x0) + 1 ≤ 9223372036854775807) ∧ ((ByteArray.size (Prod.fst x0 ++ ByteArray.mk #[32]) + ByteArray.size (Prod.fst (Prod.snd x0)) ≤ 9223372036854775807) ∧ ((ByteArray.size (Prod.fst x0 ++ ByteArray.mk #[32] ++ Prod.fst (Prod.snd x0)) + 1 ≤ 9223372036854775807) ∧ ((ByteArray.size (Prod.fst x0 ++ ByteArray.mk #[32] ++ Prod.fst (Prod.snd x0) ++ ByteArray.mk #[32]) + ByteArray.size (Prod.fst (Prod.snd (Prod.snd x0))) ≤ 9223372036854775807) ∧ ((P94 (g142_0 (Prod.fst x0 ++ ByteArray.mk #[32] ++ Prod.fst (Prod.snd x0) ++ ByteArray.mk #[32] ++ Prod.fst (Prod.snd (Prod.snd x0))) 65535)) ∧ ((InR IntKind.i64 (5 - (↑(ByteArray.size (g94_0 (g142_0 (Prod.fst x0 ++ ByteArray.mk #[32] ++ Prod.fst (Prod.snd x0) ++ ByteArray.mk #[32] ++ Prod.fst (Prod.snd (Prod.snd x0))) 65535))) : Int))) ∧ ((P143 (ByteArray.mk #[48]) (5 - (↑(ByteArray.size (g94_0 (g142_0 (Prod.fst x0 ++ ByteArray.mk #[32] ++ Prod.fst (Prod.snd x0) ++ ByteArray.mk #[32] ++ Prod.fst (Prod.snd (Prod.snd x0))) 65535))) : Int))) ∧ ((ByteArray.size (g143_0 (ByteArray.mk #[48]) (5 - (↑(ByteArray.size (g94_0 (g142_0 (Prod.fst x0 ++ ByteArray.mk #[32] ++ Prod.fst (Prod.snd x0) ++ ByteArray.mk #[32] ++ Prod.fst (Prod.snd (Prod.snd x0))) 65535))) : Int))) + ByteArray.size (g94_0 (g142_0 (Prod.fst x0 ++ ByteArray.mk #[32] ++ Prod.fst (Prod.snd x0) ++ ByteArray.mk #[32] ++ Prod.fst (Prod.snd (Prod.snd x0))) 65535)) ≤ 9223372036854775807) ∧ ((ByteArray.size (g143_0 (ByteArray.mk #[48]) (5 - (↑(ByteArray.size (g94_0 (g142_0 (Prod.fst x0 ++ ByteArray.mk #[32] ++ Prod.fst (Prod.snd x0) ++ ByteArray.mk #[32] ++ Prod.fst (Prod.snd (Prod.snd x0))) 65535))) : Int)) ++ g94_0 (g142_0 (Prod.fst x0 ++ ByteArray.mk #[32] ++ Prod.fst (Prod.snd x0) ++ ByteArray.mk #[32] ++ Prod.fst (Prod.snd (Prod.snd x0))) 65535)) + 1 ≤ 9223372036854775807) ∧ ((ByteArray.size (g143_0 (ByteArray.mk #[48]) (5 - (↑(ByteArray.size (g94_0 (g142_0 (Prod.fst x0 ++ ByteArray.mk #[32] ++ Prod.fst (Prod.snd x0) ++ ByteArray.mk #[32] ++ Prod.fst (Prod.snd (Prod.snd x0))) 65535))) : Int)) ++ g94_0 (g142_0 (Prod.fst x0 ++ ByteArray.mk #[32] ++ Prod.fst (Prod.snd x0) ++ ByteArray.mk #[32] ++ Prod.fst (Prod.snd (Prod.snd x0))) 65535) ++ ByteArray.mk #[32]) + ByteArray.size (Prod.fst x0 ++ ByteArray.mk #[32] ++ Prod.fst (Prod.snd x0) ++ ByteArray.mk #[32] ++ Prod.fst (Prod.snd (Prod.snd x0))) ≤ 9223372036854775807) ∧ True))))))))))
def g96_0 (x0 : ByteArray × ByteArray × ByteArray × Unit) : ByteArray := g143_0 (ByteArray.mk #[48]) (5 - (↑(ByteArray.size (g94_0 (g142_0 (Prod.fst x0 ++ ByteArray.mk #[32] ++ Prod.fst (Prod.snd x0) ++ ByteArray.mk #[32] ++ Prod.fst (Prod.snd (Prod.snd x0))) 65535))) : Int)) ++ g94_0 (g142_0 (Prod.fst x0 ++ ByteArray.mk #[32] ++ Prod.fst (Prod.snd x0) ++ ByteArray.mk #[32] ++ Prod.fst (Prod.snd (Prod.snd x0))) 65535) ++ ByteArray.mk #[32] ++ (Prod.fst x0 ++ ByteArray.mk #[32] ++ Prod.fst (Prod.snd x0) ++ ByteArray.mk #[32] ++ Prod.fst (Prod.snd (Prod.snd x0)))
theorem p96_0 (x0 : ByteArray × ByteArray × ByteArray × Unit) : runF tab ext96 false 27 [] 2000 [] tys96 Tryd.f96.results [] [.code b96] (entE 0 0 sig96 (x0, ())) (entL sig96 (x0, ())) = some ([Dyn.mk Ty.str (g143_0 (ByteArray.mk #[48]) (5 - (↑(ByteArray.size (g94_0 (g142_0 (Prod.fst x0 ++ ByteArray.mk #[32] ++ Prod.fst (Prod.snd x0) ++ ByteArray.mk #[32] ++ Prod.fst (Prod.snd (Prod.snd x0))) 65535))) : Int)) ++ g94_0 (g142_0 (Prod.fst x0 ++ ByteArray.mk #[32] ++ Prod.fst (Prod.snd x0) ++ ByteArray.mk #[32] ++ Prod.fst (Prod.snd (Prod.snd x0))) 65535) ++ ByteArray.mk #[32] ++ (Prod.fst x0 ++ ByteArray.mk #[32] ++ Prod.fst (Prod.snd x0) ++ ByteArray.mk #[32] ++ Prod.fst (Prod.snd (Prod.snd x0))))], [], [ByteArray.size (Prod.fst x0) + 1 ≤ 9223372036854775807, ByteArray.size (Prod.fst x0 ++ ByteArray.mk #[32]) + ByteArray.size (Prod.fst (Prod.snd x0)) ≤ 9223372036854775807, ByteArray.size (Prod.fst x0 ++ ByteArray.mk #[32] ++ Prod.fst (Prod.snd x0)) + 1 ≤ 9223372036854775807, ByteArray.size (Prod.fst x0 ++ ByteArray.mk #[32] ++ Prod.fst (Prod.snd x0) ++ ByteArray.mk #[32]) + ByteArray.size (Prod.fst (Prod.snd (Prod.snd x0))) ≤ 9223372036854775807, True, P94 (g142_0 (Prod.fst x0 ++ ByteArray.mk #[32] ++ Prod.fst (Prod.snd x0) ++ ByteArray.mk #[32] ++ Prod.fst (Prod.snd (Prod.snd x0))) 65535), InR IntKind.i64 (5 - (↑(ByteArray.size (g94_0 (g142_0 (Prod.fst x0 ++ ByteArray.mk #[32] ++ Prod.fst (Prod.snd x0) ++ ByteArray.mk #[32] ++ Prod.fst (Prod.snd (Prod.snd x0))) 65535))) : Int)), P143 (ByteArray.mk #[48]) (5 - (↑(ByteArray.size (g94_0 (g142_0 (Prod.fst x0 ++ ByteArray.mk #[32] ++ Prod.fst (Prod.snd x0) ++ ByteArray.mk #[32] ++ Prod.fst (Prod.snd (Prod.snd x0))) 65535))) : Int)), ByteArray.size (g143_0 (ByteArray.mk #[48]) (5 - (↑(ByteArray.size (g94_0 (g142_0 (Prod.fst x0 ++ ByteArray.mk #[32] ++ Prod.fst (Prod.snd x0) ++ ByteArray.mk #[32] ++ Prod.fst (Prod.snd (Prod.snd x0))) 65535))) : Int))) + ByteArray.size (g94_0 (g142_0 (Prod.fst x0 ++ ByteArray.mk #[32] ++ Prod.fst (Prod.snd x0) ++ ByteArray.mk #[32] ++ Prod.fst (Prod.snd (Prod.snd x0))) 65535)) ≤ 9223372036854775807, ByteArray.size (g143_0 (ByteArray.mk #[48]) (5 - (↑(ByteArray.size (g94_0 (g142_0 (Prod.fst x0 ++ ByteArray.mk #[32] ++ Prod.fst (Prod.snd x0) ++ ByteArray.mk #[32] ++ Prod.fst (Prod.snd (Prod.snd x0))) 65535))) : Int)) ++ g94_0 (g142_0 (Prod.fst x0 ++ ByteArray.mk #[32] ++ Prod.fst (Prod.snd x0) ++ ByteArray.mk #[32] ++ Prod.fst (Prod.snd (Prod.snd x0))) 65535)) + 1 ≤ 9223372036854775807, ByteArray.size (g143_0 (ByteArray.mk #[48]) (5 - (↑(ByteArray.size (g94_0 (g142_0 (Prod.fst x0 ++ ByteArray.mk #[32] ++ Prod.fst (Prod.snd x0) ++ ByteArray.mk #[32] ++ Prod.fst (Prod.snd (Prod.snd x0))) 65535))) : Int)) ++ g94_0 (g142_0 (Prod.fst x0 ++ ByteArray.mk #[32] ++ Prod.fst (Prod.snd x0) ++ ByteArray.mk #[32] ++ Prod.fst (Prod.snd (Prod.snd x0))) 65535) ++ ByteArray.mk #[32]) + ByteArray.size (Prod.fst x0 ++ ByteArray.mk #[32] ++ Prod.fst (Prod.snd x0) ++ ByteArray.mk #[32] ++ Prod.fst (Prod.snd (Prod.snd x0))) ≤ 9223372036854775807]) := by kernel_rfl
theorem at96 (x0 : ByteArray × ByteArray × ByteArray × Unit) (h : P96 x0) (w0 : World) (O : List Nat) (q : Nat → Value) : AtV Tryd.prog 96 (PostR [⟨Ty.str, g96_0 x0⟩] [] [] q w0 O) 27 w0 O q [] [.code b96] (entE 0 0 sig96 (x0, ())) (entL sig96 (x0, ())) := by
  unfold P96 at h
  unfold g96_0
  obtain ⟨s0, h⟩ := h
  obtain ⟨s1, h⟩ := h
  obtain ⟨s2, h⟩ := h
  obtain ⟨s3, h⟩ := h
  obtain ⟨s4, h⟩ := h
  obtain ⟨s5, h⟩ := h
  obtain ⟨s6, h⟩ := h
  obtain ⟨s7, h⟩ := h
  obtain ⟨s8, h⟩ := h
  obtain ⟨s9, h⟩ := h
  exact AtV.fin Tryd.func96 tabOk ext96Ok mixed (p96_0 x0) ⟨s0, s1, s2, s3, trivial, s4, s5, s6, s7, s8, s9, trivial⟩

def S96 : Am.Spec := { sig := sig96, pre := fun ⟨x0, _⟩ => P96 x0, res := fun ⟨x0, _⟩ => [⟨Ty.str, g96_0 x0⟩] }
theorem con96 : Contract Tryd.prog 96 S96 := contract_of Tryd.func96 hb96 (Nat.le_of_ble_eq_true (by kernel_rfl)) (fun ⟨x0, _⟩ h _ w0 O q => at96 x0 h w0 O q)


end Go.Proofs.YtakodkjcmacofaaDoor

/- Function 97 ((*strings.Builder).String): its contract, off what is known of the library. -/
set_option linter.unusedVariables false
set_option linter.unusedSimpArgs false
set_option maxRecDepth 100000
namespace Go.Proofs.YtakodkjcmacofaaDoor
open Go Go.Am Go.Proofs

open Go.RowKit
theorem stringB (B b : Nat) (l : List UInt8) (w : World) (h : Lib.IsBuilderF 95 5 B b (Lib.byteCells l) w) (hBw : B ≤ w.heap.size) :
    Calls Tryd.prog 97 #[.pointer (some ⟨b, 0, none⟩)] w fun e w' => e = .returned (.string ⟨l.toArray⟩) ∧ Below B w w' := by
  refine (Tryd.Builder_String_any_k B b l w h hBw).mono ?_
  rintro e w' ⟨rfl, _, h2, _⟩
  exact ⟨rfl, h2⟩

end Go.Proofs.YtakodkjcmacofaaDoor
