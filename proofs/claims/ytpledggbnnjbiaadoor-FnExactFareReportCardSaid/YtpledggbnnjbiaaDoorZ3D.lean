/- Several texts in one: the functions that this law reaches, and their laws. -/
import Derived.Test.YtpledggbnnjbiaaDoorZ3A
import Derived.Test.YtpledggbnnjbiaaDoorZ3B
import Derived.Test.YtpledggbnnjbiaaDoorZ3C
import Derived.Lib.TrimByte
import Derived.Shelf.Strings.Builder1
import Derived.Shelf.Strings.Builder2
import Derived.Shelf.Strings.OnBuilder
import Derived.Shelf.Strings.Trim
import Derived.Shelf.Small.Utf8
import Derived.Shelf.Small.Strs
import Derived.Shelf.Strings.BuilderF
import Derived.Shelf.Strings.BuilderK
import Derived.Shelf.Strings.Builder2Cap
import Derived.Shelf.Strconv.Itoa0
import Derived.Shelf.Strconv.Itoa1
import Derived.Shelf.LaysM
import Derived.Shelf.Strconv.Itoa2
import Derived.Shelf.Strconv.Itoa3
import Derived.Shelf.Strconv.Itoa4
import Derived.Shelf.Strings.Search1
import Derived.Shelf.Strings.Prefix
import Derived.Shelf.Unicode.Decode
import Derived.Shelf.Strings.Runes
import Derived.Shelf.Strings.AsciiSet
import Derived.Shelf.Bits.Mul64
import Derived.Shelf.Strings.Repeat
import Derived.Shelf.Unicode.DecodeSlow
import Derived.Shelf.Unicode.DecodeAny
import Derived.Shelf.Unicode.DecodeLast

/- Function 15 (spec.l02Fixed): its runs between cut points. Written by a program of this repo (gen). -/
set_option linter.unusedVariables false
set_option linter.unusedSimpArgs false
set_option maxRecDepth 100000
namespace Go.Proofs.YtpledggbnnjbiaaDoor
open Go Go.Am Go.Proofs
noncomputable section
def ext15 : Ext := [(27, S27), (16, S16)]
theorem call15_27 : Callable Tryd.prog 27 := ⟨Tryd.f27, Tryd.func27, by kernel_rfl, by kernel_rfl⟩
theorem call15_16 : Callable Tryd.prog 16 := ⟨Tryd.f16, Tryd.func16, by kernel_rfl, by kernel_rfl⟩
theorem ext15Ok : ExtOk Tryd.prog ext15 := ⟨⟨call15_27, con27⟩, ⟨call15_16, con16⟩, trivial⟩

noncomputable def b15 : Code := bodyOf Tryd.f15
theorem hb15 : Tryd.f15.body = some b15 := by kernel_rfl
def sig15 : List AT := [AT.v (Ty.int IntKind.i64), AT.v (Ty.int IntKind.i64)]
def tys15 : List Ty := [Ty.str]
def kds15 : List RK := []
def oks15 : List AT := owns sig15
def P15 (x0 : Int) (x1 : Int) : Prop := (if (Decidable.decide (x0 < 0)) = true then ((InR IntKind.i64 (0 - x0)) ∧ ((P27 x1) ∧ ((g27_0 x1 ≠ 0) ∧ (InR IntKind.i64 (Int.tmod (0 - x0) (g27_0 x1))) ∧ ((InR IntKind.i64 (Int.tmod (0 - x0) (g27_0 x1) + g27_0 x1)) ∧ ((g27_0 x1 ≠ 0) ∧ (InR IntKind.i64 (Int.tdiv (0 - x0) (g27_0 x1))) ∧ ((1 + ByteArray.size (g16_0 (Int.tdiv (0 - x0) (g27_0 x1))) ≤ 9223372036854775807) ∧ ((ByteArray.size (ByteArray.mk #[45] ++ g16_0 (Int.tdiv (0 - x0) (g27_0 x1))) + 1 ≤ 9223372036854775807) ∧ ((1 ≤ (↑(ByteArray.size (g16_0 (Int.tmod (0 - x0) (g27_0 x1) + g27_0 x1))) : Int)) ∧ ((ByteArray.size (ByteArray.mk #[45] ++ g16_0 (Int.tdiv (0 - x0) (g27_0 x1)) ++ ByteArray.mk #[46]) + ByteArray.size (ByteArray.extract (g16_0 (Int.tmod (0 - x0) (g27_0 x1) + g27_0 x1)) 1 (Int.toNat (↑(ByteArray.size (g16_0 (Int.tmod (0 - x0) (g27_0 x1) + g27_0 x1))) : Int))) ≤ 9223372036854775807) ∧ True))))))))) else ((P27 x1) ∧ ((g27_0 x1 ≠ 0) ∧ (InR IntKind.i64 (Int.tmod x0 (g27_0 x1))) ∧ ((InR IntKind.i64 (Int.tmod x0 (g27_0 x1) + g27_0 x1)) ∧ ((g27_0 x1 ≠ 0) ∧ (InR IntKind.i64 (Int.tdiv x0 (g27_0 x1))) ∧ ((0 + ByteArray.size (g16_0 (Int.tdiv x0 (g27_0 x1))) ≤ 9223372036854775807) ∧ ((ByteArray.size (ByteArray.mk #[] ++ g16_0 (Int.tdiv x0 (g27_0 x1))) + 1 ≤ 9223372036854775807) ∧ ((1 ≤ (↑(ByteArray.size (g16_0 (Int.tmod x0 (g27_0 x1) + g27_0 x1))) : Int)) ∧ ((ByteArray.size (ByteArray.mk #[] ++ g16_0 (Int.tdiv x0 (g27_0 x1)) ++ ByteArray.mk #[46]) + ByteArray.size (ByteArray.extract (g16_0 (Int.tmod x0 (g27_0 x1) + g27_0 x1)) 1 (Int.toNat (↑(ByteArray.size (g16_0 (Int.tmod x0 (g27_0 x1) + g27_0 x1))) : Int))) ≤ 9223372036854775807) ∧ True)))))))))
def g15_0 (x0 : Int) (x1 : Int) : ByteArray := (if (Decidable.decide (x0 < 0)) = true then ByteArray.mk #[45] ++ g16_0 (Int.tdiv (0 - x0) (g27_0 x1)) ++ ByteArray.mk #[46] ++ ByteArray.extract (g16_0 (Int.tmod (0 - x0) (g27_0 x1) + g27_0 x1)) 1 (Int.toNat (↑(ByteArray.size (g16_0 (Int.tmod (0 - x0) (g27_0 x1) + g27_0 x1))) : Int)) else ByteArray.mk #[] ++ g16_0 (Int.tdiv x0 (g27_0 x1)) ++ ByteArray.mk #[46] ++ ByteArray.extract (g16_0 (Int.tmod x0 (g27_0 x1) + g27_0 x1)) 1 (Int.toNat (↑(ByteArray.size (g16_0 (Int.tmod x0 (g27_0 x1) + g27_0 x1))) : Int)))
theorem p15_0 (x0 : Int) (x1 : Int) : runF tab ext15 false 30 [] 2000 [] oks15 kds15 tys15 Tryd.f15.results [true] [.code b15] (entE 0 0 sig15 (x0, x1, ())) (entL sig15 (x0, x1, ())) = some ([Dyn.mk Ty.str (ByteArray.mk #[45] ++ g16_0 (Int.tdiv (0 - x0) (g27_0 x1)) ++ ByteArray.mk #[46] ++ ByteArray.extract (g16_0 (Int.tmod (0 - x0) (g27_0 x1) + g27_0 x1)) 1 (Int.toNat (↑(ByteArray.size (g16_0 (Int.tmod (0 - x0) (g27_0 x1) + g27_0 x1))) : Int)))], [], [Decidable.decide (x0 < 0) = Bool.true, InR IntKind.i64 (0 - x0), P27 x1, g27_0 x1 ≠ 0, InR IntKind.i64 (Int.tmod (0 - x0) (g27_0 x1)), InR IntKind.i64 (Int.tmod (0 - x0) (g27_0 x1) + g27_0 x1), True, g27_0 x1 ≠ 0, InR IntKind.i64 (Int.tdiv (0 - x0) (g27_0 x1)), True, 1 + ByteArray.size (g16_0 (Int.tdiv (0 - x0) (g27_0 x1))) ≤ 9223372036854775807, ByteArray.size (ByteArray.mk #[45] ++ g16_0 (Int.tdiv (0 - x0) (g27_0 x1))) + 1 ≤ 9223372036854775807, (0 : Int) ≤ (1 : Int), 1 ≤ (↑(ByteArray.size (g16_0 (Int.tmod (0 - x0) (g27_0 x1) + g27_0 x1))) : Int), ByteArray.size (ByteArray.mk #[45] ++ g16_0 (Int.tdiv (0 - x0) (g27_0 x1)) ++ ByteArray.mk #[46]) + ByteArray.size (ByteArray.extract (g16_0 (Int.tmod (0 - x0) (g27_0 x1) + g27_0 x1)) 1 (Int.toNat (↑(ByteArray.size (g16_0 (Int.tmod (0 - x0) (g27_0 x1) + g27_0 x1))) : Int))) ≤ 9223372036854775807]) := by kernel_rfl
theorem p15_1 (x0 : Int) (x1 : Int) : runF tab ext15 false 30 [] 2000 [] oks15 kds15 tys15 Tryd.f15.results [false] [.code b15] (entE 0 0 sig15 (x0, x1, ())) (entL sig15 (x0, x1, ())) = some ([Dyn.mk Ty.str (ByteArray.mk #[] ++ g16_0 (Int.tdiv x0 (g27_0 x1)) ++ ByteArray.mk #[46] ++ ByteArray.extract (g16_0 (Int.tmod x0 (g27_0 x1) + g27_0 x1)) 1 (Int.toNat (↑(ByteArray.size (g16_0 (Int.tmod x0 (g27_0 x1) + g27_0 x1))) : Int)))], [], [Decidable.decide (x0 < 0) = Bool.false, P27 x1, g27_0 x1 ≠ 0, InR IntKind.i64 (Int.tmod x0 (g27_0 x1)), InR IntKind.i64 (Int.tmod x0 (g27_0 x1) + g27_0 x1), True, g27_0 x1 ≠ 0, InR IntKind.i64 (Int.tdiv x0 (g27_0 x1)), True, 0 + ByteArray.size (g16_0 (Int.tdiv x0 (g27_0 x1))) ≤ 9223372036854775807, ByteArray.size (ByteArray.mk #[] ++ g16_0 (Int.tdiv x0 (g27_0 x1))) + 1 ≤ 9223372036854775807, (0 : Int) ≤ (1 : Int), 1 ≤ (↑(ByteArray.size (g16_0 (Int.tmod x0 (g27_0 x1) + g27_0 x1))) : Int), ByteArray.size (ByteArray.mk #[] ++ g16_0 (Int.tdiv x0 (g27_0 x1)) ++ ByteArray.mk #[46]) + ByteArray.size (ByteArray.extract (g16_0 (Int.tmod x0 (g27_0 x1) + g27_0 x1)) 1 (Int.toNat (↑(ByteArray.size (g16_0 (Int.tmod x0 (g27_0 x1) + g27_0 x1))) : Int))) ≤ 9223372036854775807]) := by kernel_rfl
theorem at15 (x0 : Int) (x1 : Int) (h : P15 x0 x1) (K : Ctx) (q : Nat → Value) : AtV Tryd.prog 15 (PostR kds15 oks15 [⟨Ty.str, g15_0 x0 x1⟩] [] [] q K) 30 K q [] [.code b15] (entE 0 0 sig15 (x0, x1, ())) (entL sig15 (x0, x1, ())) := by
  unfold P15 at h
  unfold g15_0
  by_cases b0 : (Decidable.decide (x0 < 0)) = true
  · try simp only [if_pos b0] at h ⊢
    obtain ⟨s0, h⟩ := h
    obtain ⟨s1, h⟩ := h
    obtain ⟨s2, s3, h⟩ := h
    obtain ⟨s4, h⟩ := h
    obtain ⟨s5, s6, h⟩ := h
    obtain ⟨s7, h⟩ := h
    obtain ⟨s8, h⟩ := h
    obtain ⟨s9, h⟩ := h
    obtain ⟨s10, h⟩ := h
    exact AtV.fin Tryd.func15 tabOk ext15Ok mixed (p15_0 x0 x1) ⟨b0, s0, s1, s2, s3, s4, trivial, s5, s6, trivial, s7, s8, (by decide), s9, s10, trivial⟩
  · try simp only [if_neg b0] at h ⊢
    replace b0 := Bool.eq_false_iff.2 b0
    obtain ⟨s0, h⟩ := h
    obtain ⟨s1, s2, h⟩ := h
    obtain ⟨s3, h⟩ := h
    obtain ⟨s4, s5, h⟩ := h
    obtain ⟨s6, h⟩ := h
    obtain ⟨s7, h⟩ := h
    obtain ⟨s8, h⟩ := h
    obtain ⟨s9, h⟩ := h
    exact AtV.fin Tryd.func15 tabOk ext15Ok mixed (p15_1 x0 x1) ⟨b0, s0, s1, s2, s3, trivial, s4, s5, trivial, s6, s7, (by decide), s8, s9, trivial⟩

def S15 : Am.Spec := { sig := sig15, pre := fun ⟨x0, x1, _⟩ => P15 x0 x1, res := fun ⟨x0, x1, _⟩ => [⟨Ty.str, g15_0 x0 x1⟩], kds := kds15 }
theorem con15 : Contract Tryd.prog 15 S15 := contract_of Tryd.func15 hb15 (Nat.le_of_ble_eq_true (by kernel_rfl)) (fun ⟨x0, x1, _⟩ h _ K q => at15 x0 x1 h K q)


end
end Go.Proofs.YtpledggbnnjbiaaDoor

/- Function 18 (spec.l30Table): its runs between cut points. Written by a program of this repo (gen). -/
set_option linter.unusedVariables false
set_option linter.unusedSimpArgs false
set_option maxRecDepth 100000
namespace Go.Proofs.YtpledggbnnjbiaaDoor
open Go Go.Am Go.Proofs
noncomputable section
def ext18 : Ext := []
theorem ext18Ok : ExtOk Tryd.prog ext18 := trivial

noncomputable def b18 : Code := bodyOf Tryd.f18
theorem hb18 : Tryd.f18.body = some b18 := by kernel_rfl
def sig18 : List AT := [AT.v (Ty.sl (Ty.sl Ty.str))]
def tys18 : List Ty := [Ty.sl Ty.str]
def kds18 : List RK := []
def oks18 : List AT := owns sig18
def E18_3 (v4 : Int) (h0 : List Int) (x0 : List (List ByteArray)) : Env := [(0, PV.a (Atom.sl (Ty.sl Ty.str) x0)), (3, PV.a (Atom.osl 0 Option.none)), (4, PV.a (Atom.val (Value.int IntKind.i64 v4)))]
def L18_3 (v4 : Int) (h0 : List Int) (x0 : List (List ByteArray)) : Heap := [Option.some (Arr.mk (Ty.int IntKind.i64) h0 Bool.false Option.none Option.none)]
def E18_6 (v5 : Int) (h0 : List Int) (x0 : List (List ByteArray)) (v4 : Int) : Env := [(0, PV.a (Atom.sl (Ty.sl Ty.str) x0)), (3, PV.a (Atom.osl 0 Option.none)), (4, PV.a (Atom.val (Value.int IntKind.i64 v4))), (5, PV.a (Atom.val (Value.int IntKind.i64 v5)))]
def L18_6 (v5 : Int) (h0 : List Int) (x0 : List (List ByteArray)) (v4 : Int) : Heap := [Option.some (Arr.mk (Ty.int IntKind.i64) h0 Bool.false Option.none Option.none)]
def E18_12 (v7 : Int) (h1 : List ByteArray) (x0 : List (List ByteArray)) (h0 : List Int) : Env := [(0, PV.a (Atom.sl (Ty.sl Ty.str) x0)), (3, PV.a (Atom.osl 0 Option.none)), (6, PV.a (Atom.osl 1 Option.none)), (7, PV.a (Atom.val (Value.int IntKind.i64 v7)))]
def L18_12 (v7 : Int) (h1 : List ByteArray) (x0 : List (List ByteArray)) (h0 : List Int) : Heap := [Option.some (Arr.mk (Ty.int IntKind.i64) h0 Bool.false Option.none Option.none), Option.some (Arr.mk Ty.str h1 Bool.false Option.none Option.none)]
def E18_16 (v8 : ByteArray) (v9 : Int) (x0 : List (List ByteArray)) (v7 : Int) (h0 : List Int) (h1 : List ByteArray) : Env := [(0, PV.a (Atom.sl (Ty.sl Ty.str) x0)), (3, PV.a (Atom.osl 0 Option.none)), (6, PV.a (Atom.osl 1 Option.none)), (7, PV.a (Atom.val (Value.int IntKind.i64 v7))), (8, PV.a (Atom.val (Value.string v8))), (9, PV.a (Atom.val (Value.int IntKind.i64 v9)))]
def L18_16 (v8 : ByteArray) (v9 : Int) (x0 : List (List ByteArray)) (v7 : Int) (h0 : List Int) (h1 : List ByteArray) : Heap := [Option.some (Arr.mk (Ty.int IntKind.i64) h0 Bool.false Option.none Option.none), Option.some (Arr.mk Ty.str h1 Bool.false Option.none Option.none)]
def E18_22 (v8 : ByteArray) (v10 : Int) (x0 : List (List ByteArray)) (v7 : Int) (v9 : Int) (h0 : List Int) (h1 : List ByteArray) : Env := [(0, PV.a (Atom.sl (Ty.sl Ty.str) x0)), (3, PV.a (Atom.osl 0 Option.none)), (6, PV.a (Atom.osl 1 Option.none)), (7, PV.a (Atom.val (Value.int IntKind.i64 v7))), (8, PV.a (Atom.val (Value.string v8))), (9, PV.a (Atom.val (Value.int IntKind.i64 v9))), (10, PV.a (Atom.val (Value.int IntKind.i64 v10)))]
def L18_22 (v8 : ByteArray) (v10 : Int) (x0 : List (List ByteArray)) (v7 : Int) (v9 : Int) (h0 : List Int) (h1 : List ByteArray) : Heap := [Option.some (Arr.mk (Ty.int IntKind.i64) h0 Bool.false Option.none Option.none), Option.some (Arr.mk Ty.str h1 Bool.false Option.none Option.none)]
def E18_25 (x0 : List (List ByteArray)) (v7 : Int) (v8 : ByteArray) (h0 : List Int) (h1 : List ByteArray) : Env := [(0, PV.a (Atom.sl (Ty.sl Ty.str) x0)), (3, PV.a (Atom.osl 0 Option.none)), (6, PV.a (Atom.osl 1 Option.none)), (7, PV.a (Atom.val (Value.int IntKind.i64 v7))), (8, PV.a (Atom.val (Value.string v8)))]
def L18_25 (x0 : List (List ByteArray)) (v7 : Int) (v8 : ByteArray) (h0 : List Int) (h1 : List ByteArray) : Heap := [Option.some (Arr.mk (Ty.int IntKind.i64) h0 Bool.false Option.none Option.none), Option.some (Arr.mk Ty.str h1 Bool.false Option.none Option.none)]
mutual
def R18 : Nat → List (List ByteArray) → List Dyn → Prop
  | 0, _, _ => False
  | n + 1, x0, ds => (R18_3 n (0) ([0, 0, 0, 0, 0, 0, 0, 0, 0, 0, 0, 0]) (x0) ds)
def R18_3 : Nat → Int → List Int → List (List ByteArray) → List Dyn → Prop
  | 0, _, _, _, _ => False
  | n + 1, v4, h0, x0, ds => (if (Decidable.decide (v4 < (↑(List.length x0) : Int))) = true then (R18_6 n (0) (h0) (x0) (v4) ds) else (R18_12 n (0) ([]) (x0) (h0) ds))
def R18_6 : Nat → Int → List Int → List (List ByteArray) → Int → List Dyn → Prop
  | 0, _, _, _, _, _ => False
  | n + 1, v5, h0, x0, v4, ds => ((0 ≤ v4) ∧ (v4 < (↑(List.length x0) : Int)) ∧ (if (Decidable.decide (v5 < (↑(List.length (List.getD x0 (Int.toNat v4) [])) : Int))) = true then ((0 ≤ v4) ∧ (v4 < (↑(List.length x0) : Int)) ∧ ((0 ≤ v5) ∧ (v5 < (↑(List.length (List.getD x0 (Int.toNat v4) [])) : Int)) ∧ ((0 ≤ v5) ∧ (v5 < (↑(List.length h0) : Int)) ∧ (if (Decidable.decide ((↑(ByteArray.size (List.getD (List.getD x0 (Int.toNat v4) []) (Int.toNat v5) ByteArray.empty)) : Int) > List.getD h0 (Int.toNat v5) 0)) = true then ((0 ≤ v4) ∧ (v4 < (↑(List.length x0) : Int)) ∧ ((0 ≤ v5) ∧ (v5 < (↑(List.length (List.getD x0 (Int.toNat v4) [])) : Int)) ∧ ((0 ≤ v5) ∧ (v5 < (↑(List.length h0) : Int)) ∧ ((InR IntKind.i64 (v5 + 1)) ∧ (R18_6 n (v5 + 1) (List.set h0 (Int.toNat v5) (↑(ByteArray.size (List.getD (List.getD x0 (Int.toNat v4) []) (Int.toNat v5) ByteArray.empty)) : Int)) (x0) (v4) ds))))) else ((InR IntKind.i64 (v5 + 1)) ∧ (R18_6 n (v5 + 1) (h0) (x0) (v4) ds)))))) else ((InR IntKind.i64 (v4 + 1)) ∧ (R18_3 n (v4 + 1) (h0) (x0) ds))))
def R18_12 : Nat → Int → List ByteArray → List (List ByteArray) → List Int → List Dyn → Prop
  | 0, _, _, _, _, _ => False
  | n + 1, v7, h1, x0, h0, ds => (if (Decidable.decide (v7 < (↑(List.length x0) : Int))) = true then (R18_16 n (ByteArray.mk #[]) (0) (x0) (v7) (h0) (h1) ds) else (ds = [Dyn.mk (Ty.sl Ty.str) h1]))
def R18_16 : Nat → ByteArray → Int → List (List ByteArray) → Int → List Int → List ByteArray → List Dyn → Prop
  | 0, _, _, _, _, _, _, _ => False
  | n + 1, v8, v9, x0, v7, h0, h1, ds => ((0 ≤ v7) ∧ (v7 < (↑(List.length x0) : Int)) ∧ (if (Decidable.decide (v9 < (↑(List.length (List.getD x0 (Int.toNat v7) [])) : Int))) = true then (if (Decidable.decide (v9 > 0)) = true then ((ByteArray.size v8 + 2 ≤ 9223372036854775807) ∧ ((0 ≤ v7) ∧ (v7 < (↑(List.length x0) : Int)) ∧ ((0 ≤ v9) ∧ (v9 < (↑(List.length (List.getD x0 (Int.toNat v7) [])) : Int)) ∧ ((ByteArray.size (v8 ++ ByteArray.mk #[32, 32]) + ByteArray.size (List.getD (List.getD x0 (Int.toNat v7) []) (Int.toNat v9) ByteArray.empty) ≤ 9223372036854775807) ∧ ((0 ≤ v7) ∧ (v7 < (↑(List.length x0) : Int)) ∧ ((0 ≤ v9) ∧ (v9 < (↑(List.length (List.getD x0 (Int.toNat v7) [])) : Int)) ∧ (R18_22 n (v8 ++ ByteArray.mk #[32, 32] ++ List.getD (List.getD x0 (Int.toNat v7) []) (Int.toNat v9) ByteArray.empty) ((↑(ByteArray.size (List.getD (List.getD x0 (Int.toNat v7) []) (Int.toNat v9) ByteArray.empty)) : Int)) (x0) (v7) (v9) (h0) (h1) ds))))))) else ((0 ≤ v7) ∧ (v7 < (↑(List.length x0) : Int)) ∧ ((0 ≤ v9) ∧ (v9 < (↑(List.length (List.getD x0 (Int.toNat v7) [])) : Int)) ∧ ((ByteArray.size v8 + ByteArray.size (List.getD (List.getD x0 (Int.toNat v7) []) (Int.toNat v9) ByteArray.empty) ≤ 9223372036854775807) ∧ ((0 ≤ v7) ∧ (v7 < (↑(List.length x0) : Int)) ∧ ((0 ≤ v9) ∧ (v9 < (↑(List.length (List.getD x0 (Int.toNat v7) [])) : Int)) ∧ (R18_22 n (v8 ++ List.getD (List.getD x0 (Int.toNat v7) []) (Int.toNat v9) ByteArray.empty) ((↑(ByteArray.size (List.getD (List.getD x0 (Int.toNat v7) []) (Int.toNat v9) ByteArray.empty)) : Int)) (x0) (v7) (v9) (h0) (h1) ds))))))) else (R18_25 n (x0) (v7) (v8) (h0) (h1) ds)))
def R18_22 : Nat → ByteArray → Int → List (List ByteArray) → Int → Int → List Int → List ByteArray → List Dyn → Prop
  | 0, _, _, _, _, _, _, _, _ => False
  | n + 1, v8, v10, x0, v7, v9, h0, h1, ds => ((0 ≤ v9) ∧ (v9 < (↑(List.length h0) : Int)) ∧ (if (Decidable.decide (v10 < List.getD h0 (Int.toNat v9) 0)) = true then ((ByteArray.size v8 + 1 ≤ 9223372036854775807) ∧ ((InR IntKind.i64 (v10 + 1)) ∧ (R18_22 n (v8 ++ ByteArray.mk #[32]) (v10 + 1) (x0) (v7) (v9) (h0) (h1) ds))) else ((InR IntKind.i64 (v9 + 1)) ∧ (R18_16 n (v8) (v9 + 1) (x0) (v7) (h0) (h1) ds))))
def R18_25 : Nat → List (List ByteArray) → Int → ByteArray → List Int → List ByteArray → List Dyn → Prop
  | 0, _, _, _, _, _, _ => False
  | n + 1, x0, v7, v8, h0, h1, ds => (if (Decidable.decide ((↑(ByteArray.size v8) : Int) > 0)) = true then ((InR IntKind.i64 ((↑(ByteArray.size v8) : Int) - 1)) ∧ ((0 ≤ (↑(ByteArray.size v8) : Int) - 1) ∧ ((↑(ByteArray.size v8) : Int) - 1 < (↑(ByteArray.size v8) : Int)) ∧ (if ((↑(UInt8.toNat (List.getD (Array.toList (ByteArray.data v8)) (Int.toNat ((↑(ByteArray.size v8) : Int) - 1)) 0)) : Int) == 32) = true then ((InR IntKind.i64 ((↑(ByteArray.size v8) : Int) - 1)) ∧ ((0 ≤ (↑(ByteArray.size v8) : Int) - 1) ∧ ((↑(ByteArray.size v8) : Int) - 1 ≤ (↑(ByteArray.size v8) : Int)) ∧ (R18_25 n (x0) (v7) (ByteArray.extract v8 0 (Int.toNat ((↑(ByteArray.size v8) : Int) - 1))) (h0) (h1) ds))) else (((List.length h1 + 1) * 16 ≤ 140737488355328) ∧ ((InR IntKind.i64 (v7 + 1)) ∧ (R18_12 n (v7 + 1) (h1 ++ [v8]) (x0) (h0) ds)))))) else (((List.length h1 + 1) * 16 ≤ 140737488355328) ∧ ((InR IntKind.i64 (v7 + 1)) ∧ (R18_12 n (v7 + 1) (h1 ++ [v8]) (x0) (h0) ds))))
end
theorem p18_0 (x0 : List (List ByteArray)) : Am.runN tab ext18 false 119 [] 2000 [] [] [0, 3, 4] [0] [] [.code b18] (entE 0 0 sig18 (x0, ())) (entL sig18 (x0, ())) = some (cutAt b18 3, E18_3 (0) ([0, 0, 0, 0, 0, 0, 0, 0, 0, 0, 0, 0]) (x0), L18_3 (0) ([0, 0, 0, 0, 0, 0, 0, 0, 0, 0, 0, 0]) (x0), [(0 : Int) ≤ (12 : Int), (12 : Int) ≤ (12 : Int), (96 : Int) ≤ (281474976710656 : Int)]) := by kernel_rfl
theorem p18_1 (v4 : Int) (h0 : List Int) (x0 : List (List ByteArray)) : Am.runN tab ext18 false 119 [] 2000 [] [] [0, 3, 4, 5] [0] [true] (cutAt b18 3) (E18_3 v4 h0 x0) (L18_3 v4 h0 x0) = some (cutAt b18 6, E18_6 (0) (h0) (x0) (v4), L18_6 (0) (h0) (x0) (v4), [Decidable.decide (v4 < (↑(List.length x0) : Int)) = Bool.true]) := by kernel_rfl
theorem p18_2 (v4 : Int) (h0 : List Int) (x0 : List (List ByteArray)) : Am.runN tab ext18 false 119 [] 2000 [] [] [0, 3, 6, 7] [0, 1] [false] (cutAt b18 3) (E18_3 v4 h0 x0) (L18_3 v4 h0 x0) = some (cutAt b18 12, E18_12 (0) ([]) (x0) (h0), L18_12 (0) ([]) (x0) (h0), [Decidable.decide (v4 < (↑(List.length x0) : Int)) = Bool.false]) := by kernel_rfl
theorem p18_3 (v5 : Int) (h0 : List Int) (x0 : List (List ByteArray)) (v4 : Int) : Am.runN tab ext18 false 119 [] 2000 [] [] [0, 3, 4, 5] [0] [true, true] (cutAt b18 6) (E18_6 v5 h0 x0 v4) (L18_6 v5 h0 x0 v4) = some (cutAt b18 6, E18_6 (v5 + 1) (List.set h0 (Int.toNat v5) (↑(ByteArray.size (List.getD (List.getD x0 (Int.toNat v4) []) (Int.toNat v5) ByteArray.empty)) : Int)) (x0) (v4), L18_6 (v5 + 1) (List.set h0 (Int.toNat v5) (↑(ByteArray.size (List.getD (List.getD x0 (Int.toNat v4) []) (Int.toNat v5) ByteArray.empty)) : Int)) (x0) (v4), [0 ≤ v4, v4 < (↑(List.length x0) : Int), Decidable.decide (v5 < (↑(List.length (List.getD x0 (Int.toNat v4) [])) : Int)) = Bool.true, 0 ≤ v4, v4 < (↑(List.length x0) : Int), 0 ≤ v5, v5 < (↑(List.length (List.getD x0 (Int.toNat v4) [])) : Int), 0 ≤ v5, v5 < (↑(List.length h0) : Int), Decidable.decide ((↑(ByteArray.size (List.getD (List.getD x0 (Int.toNat v4) []) (Int.toNat v5) ByteArray.empty)) : Int) > List.getD h0 (Int.toNat v5) 0) = Bool.true, 0 ≤ v4, v4 < (↑(List.length x0) : Int), 0 ≤ v5, v5 < (↑(List.length (List.getD x0 (Int.toNat v4) [])) : Int), 0 ≤ v5, v5 < (↑(List.length h0) : Int), InR IntKind.i64 (v5 + 1)]) := by kernel_rfl
theorem p18_4 (v5 : Int) (h0 : List Int) (x0 : List (List ByteArray)) (v4 : Int) : Am.runN tab ext18 false 119 [] 2000 [] [] [0, 3, 4, 5] [0] [true, false] (cutAt b18 6) (E18_6 v5 h0 x0 v4) (L18_6 v5 h0 x0 v4) = some (cutAt b18 6, E18_6 (v5 + 1) (h0) (x0) (v4), L18_6 (v5 + 1) (h0) (x0) (v4), [0 ≤ v4, v4 < (↑(List.length x0) : Int), Decidable.decide (v5 < (↑(List.length (List.getD x0 (Int.toNat v4) [])) : Int)) = Bool.true, 0 ≤ v4, v4 < (↑(List.length x0) : Int), 0 ≤ v5, v5 < (↑(List.length (List.getD x0 (Int.toNat v4) [])) : Int), 0 ≤ v5, v5 < (↑(List.length h0) : Int), Decidable.decide ((↑(ByteArray.size (List.getD (List.getD x0 (Int.toNat v4) []) (Int.toNat v5) ByteArray.empty)) : Int) > List.getD h0 (Int.toNat v5) 0) = Bool.false, InR IntKind.i64 (v5 + 1)]) := by kernel_rfl
theorem p18_5 (v5 : Int) (h0 : List Int) (x0 : List (List ByteArray)) (v4 : Int) : Am.runN tab ext18 false 119 [] 2000 [] [] [0, 3, 4] [0] [false] (cutAt b18 6) (E18_6 v5 h0 x0 v4) (L18_6 v5 h0 x0 v4) = some (cutAt b18 3, E18_3 (v4 + 1) (h0) (x0), L18_3 (v4 + 1) (h0) (x0), [0 ≤ v4, v4 < (↑(List.length x0) : Int), Decidable.decide (v5 < (↑(List.length (List.getD x0 (Int.toNat v4) [])) : Int)) = Bool.false, InR IntKind.i64 (v4 + 1)]) := by kernel_rfl
theorem p18_6 (v7 : Int) (h1 : List ByteArray) (x0 : List (List ByteArray)) (h0 : List Int) : Am.runN tab ext18 false 119 [] 2000 [] [] [0, 3, 6, 7, 8, 9] [0, 1] [true] (cutAt b18 12) (E18_12 v7 h1 x0 h0) (L18_12 v7 h1 x0 h0) = some (cutAt b18 16, E18_16 (ByteArray.mk #[]) (0) (x0) (v7) (h0) (h1), L18_16 (ByteArray.mk #[]) (0) (x0) (v7) (h0) (h1), [Decidable.decide (v7 < (↑(List.length x0) : Int)) = Bool.true]) := by kernel_rfl
theorem p18_7 (v7 : Int) (h1 : List ByteArray) (x0 : List (List ByteArray)) (h0 : List Int) : runF tab ext18 false 119 [] 2000 [] oks18 kds18 tys18 Tryd.f18.results [false] (cutAt b18 12) (E18_12 v7 h1 x0 h0) (L18_12 v7 h1 x0 h0) = some ([Dyn.mk (Ty.sl Ty.str) h1], [], [Decidable.decide (v7 < (↑(List.length x0) : Int)) = Bool.false]) := by kernel_rfl
theorem p18_8 (v8 : ByteArray) (v9 : Int) (x0 : List (List ByteArray)) (v7 : Int) (h0 : List Int) (h1 : List ByteArray) : Am.runN tab ext18 false 119 [] 2000 [] [] [0, 3, 6, 7, 8, 9, 10] [0, 1] [true, true] (cutAt b18 16) (E18_16 v8 v9 x0 v7 h0 h1) (L18_16 v8 v9 x0 v7 h0 h1) = some (cutAt b18 22, E18_22 (v8 ++ ByteArray.mk #[32, 32] ++ List.getD (List.getD x0 (Int.toNat v7) []) (Int.toNat v9) ByteArray.empty) ((↑(ByteArray.size (List.getD (List.getD x0 (Int.toNat v7) []) (Int.toNat v9) ByteArray.empty)) : Int)) (x0) (v7) (v9) (h0) (h1), L18_22 (v8 ++ ByteArray.mk #[32, 32] ++ List.getD (List.getD x0 (Int.toNat v7) []) (Int.toNat v9) ByteArray.empty) ((↑(ByteArray.size (List.getD (List.getD x0 (Int.toNat v7) []) (Int.toNat v9) ByteArray.empty)) : Int)) (x0) (v7) (v9) (h0) (h1), [0 ≤ v7, v7 < (↑(List.length x0) : Int), Decidable.decide (v9 < (↑(List.length (List.getD x0 (Int.toNat v7) [])) : Int)) = Bool.true, Decidable.decide (v9 > 0) = Bool.true, ByteArray.size v8 + 2 ≤ 9223372036854775807, 0 ≤ v7, v7 < (↑(List.length x0) : Int), 0 ≤ v9, v9 < (↑(List.length (List.getD x0 (Int.toNat v7) [])) : Int), ByteArray.size (v8 ++ ByteArray.mk #[32, 32]) + ByteArray.size (List.getD (List.getD x0 (Int.toNat v7) []) (Int.toNat v9) ByteArray.empty) ≤ 9223372036854775807, 0 ≤ v7, v7 < (↑(List.length x0) : Int), 0 ≤ v9, v9 < (↑(List.length (List.getD x0 (Int.toNat v7) [])) : Int)]) := by kernel_rfl
theorem p18_9 (v8 : ByteArray) (v9 : Int) (x0 : List (List ByteArray)) (v7 : Int) (h0 : List Int) (h1 : List ByteArray) : Am.runN tab ext18 false 119 [] 2000 [] [] [0, 3, 6, 7, 8, 9, 10] [0, 1] [true, false] (cutAt b18 16) (E18_16 v8 v9 x0 v7 h0 h1) (L18_16 v8 v9 x0 v7 h0 h1) = some (cutAt b18 22, E18_22 (v8 ++ List.getD (List.getD x0 (Int.toNat v7) []) (Int.toNat v9) ByteArray.empty) ((↑(ByteArray.size (List.getD (List.getD x0 (Int.toNat v7) []) (Int.toNat v9) ByteArray.empty)) : Int)) (x0) (v7) (v9) (h0) (h1), L18_22 (v8 ++ List.getD (List.getD x0 (Int.toNat v7) []) (Int.toNat v9) ByteArray.empty) ((↑(ByteArray.size (List.getD (List.getD x0 (Int.toNat v7) []) (Int.toNat v9) ByteArray.empty)) : Int)) (x0) (v7) (v9) (h0) (h1), [0 ≤ v7, v7 < (↑(List.length x0) : Int), Decidable.decide (v9 < (↑(List.length (List.getD x0 (Int.toNat v7) [])) : Int)) = Bool.true, Decidable.decide (v9 > 0) = Bool.false, 0 ≤ v7, v7 < (↑(List.length x0) : Int), 0 ≤ v9, v9 < (↑(List.length (List.getD x0 (Int.toNat v7) [])) : Int), ByteArray.size v8 + ByteArray.size (List.getD (List.getD x0 (Int.toNat v7) []) (Int.toNat v9) ByteArray.empty) ≤ 9223372036854775807, 0 ≤ v7, v7 < (↑(List.length x0) : Int), 0 ≤ v9, v9 < (↑(List.length (List.getD x0 (Int.toNat v7) [])) : Int)]) := by kernel_rfl
theorem p18_10 (v8 : ByteArray) (v9 : Int) (x0 : List (List ByteArray)) (v7 : Int) (h0 : List Int) (h1 : List ByteArray) : Am.runN tab ext18 false 119 [] 2000 [] [] [0, 3, 6, 7, 8] [0, 1] [false] (cutAt b18 16) (E18_16 v8 v9 x0 v7 h0 h1) (L18_16 v8 v9 x0 v7 h0 h1) = some (cutAt b18 25, E18_25 (x0) (v7) (v8) (h0) (h1), L18_25 (x0) (v7) (v8) (h0) (h1), [0 ≤ v7, v7 < (↑(List.length x0) : Int), Decidable.decide (v9 < (↑(List.length (List.getD x0 (Int.toNat v7) [])) : Int)) = Bool.false]) := by kernel_rfl
theorem p18_11 (v8 : ByteArray) (v10 : Int) (x0 : List (List ByteArray)) (v7 : Int) (v9 : Int) (h0 : List Int) (h1 : List ByteArray) : Am.runN tab ext18 false 119 [] 2000 [] [] [0, 3, 6, 7, 8, 9, 10] [0, 1] [true] (cutAt b18 22) (E18_22 v8 v10 x0 v7 v9 h0 h1) (L18_22 v8 v10 x0 v7 v9 h0 h1) = some (cutAt b18 22, E18_22 (v8 ++ ByteArray.mk #[32]) (v10 + 1) (x0) (v7) (v9) (h0) (h1), L18_22 (v8 ++ ByteArray.mk #[32]) (v10 + 1) (x0) (v7) (v9) (h0) (h1), [0 ≤ v9, v9 < (↑(List.length h0) : Int), Decidable.decide (v10 < List.getD h0 (Int.toNat v9) 0) = Bool.true, ByteArray.size v8 + 1 ≤ 9223372036854775807, InR IntKind.i64 (v10 + 1)]) := by kernel_rfl
theorem p18_12 (v8 : ByteArray) (v10 : Int) (x0 : List (List ByteArray)) (v7 : Int) (v9 : Int) (h0 : List Int) (h1 : List ByteArray) : Am.runN tab ext18 false 119 [] 2000 [] [] [0, 3, 6, 7, 8, 9] [0, 1] [false] (cutAt b18 22) (E18_22 v8 v10 x0 v7 v9 h0 h1) (L18_22 v8 v10 x0 v7 v9 h0 h1) = some (cutAt b18 16, E18_16 (v8) (v9 + 1) (x0) (v7) (h0) (h1), L18_16 (v8) (v9 + 1) (x0) (v7) (h0) (h1), [0 ≤ v9, v9 < (↑(List.length h0) : Int), Decidable.decide (v10 < List.getD h0 (Int.toNat v9) 0) = Bool.false, InR IntKind.i64 (v9 + 1)]) := by kernel_rfl
theorem p18_13 (x0 : List (List ByteArray)) (v7 : Int) (v8 : ByteArray) (h0 : List Int) (h1 : List ByteArray) : Am.runN tab ext18 false 119 [] 2000 [] [] [0, 3, 6, 7, 8] [0, 1] [true, true] (cutAt b18 25) (E18_25 x0 v7 v8 h0 h1) (L18_25 x0 v7 v8 h0 h1) = some (cutAt b18 25, E18_25 (x0) (v7) (ByteArray.extract v8 0 (Int.toNat ((↑(ByteArray.size v8) : Int) - 1))) (h0) (h1), L18_25 (x0) (v7) (ByteArray.extract v8 0 (Int.toNat ((↑(ByteArray.size v8) : Int) - 1))) (h0) (h1), [Decidable.decide ((↑(ByteArray.size v8) : Int) > 0) = Bool.true, InR IntKind.i64 ((↑(ByteArray.size v8) : Int) - 1), 0 ≤ (↑(ByteArray.size v8) : Int) - 1, (↑(ByteArray.size v8) : Int) - 1 < (↑(ByteArray.size v8) : Int), ((↑(UInt8.toNat (List.getD (Array.toList (ByteArray.data v8)) (Int.toNat ((↑(ByteArray.size v8) : Int) - 1)) 0)) : Int) == 32) = Bool.true, InR IntKind.i64 ((↑(ByteArray.size v8) : Int) - 1), 0 ≤ (↑(ByteArray.size v8) : Int) - 1, (↑(ByteArray.size v8) : Int) - 1 ≤ (↑(ByteArray.size v8) : Int)]) := by kernel_rfl
theorem p18_14 (x0 : List (List ByteArray)) (v7 : Int) (v8 : ByteArray) (h0 : List Int) (h1 : List ByteArray) : Am.runN tab ext18 false 119 [] 2000 [] [] [0, 3, 6, 7] [0, 1] [true, false] (cutAt b18 25) (E18_25 x0 v7 v8 h0 h1) (L18_25 x0 v7 v8 h0 h1) = some (cutAt b18 12, E18_12 (v7 + 1) (h1 ++ [v8]) (x0) (h0), L18_12 (v7 + 1) (h1 ++ [v8]) (x0) (h0), [Decidable.decide ((↑(ByteArray.size v8) : Int) > 0) = Bool.true, InR IntKind.i64 ((↑(ByteArray.size v8) : Int) - 1), 0 ≤ (↑(ByteArray.size v8) : Int) - 1, (↑(ByteArray.size v8) : Int) - 1 < (↑(ByteArray.size v8) : Int), ((↑(UInt8.toNat (List.getD (Array.toList (ByteArray.data v8)) (Int.toNat ((↑(ByteArray.size v8) : Int) - 1)) 0)) : Int) == 32) = Bool.false, (List.length h1 + 1) * 16 ≤ 140737488355328, InR IntKind.i64 (v7 + 1)]) := by kernel_rfl
theorem p18_15 (x0 : List (List ByteArray)) (v7 : Int) (v8 : ByteArray) (h0 : List Int) (h1 : List ByteArray) : Am.runN tab ext18 false 119 [] 2000 [] [] [0, 3, 6, 7] [0, 1] [false, false] (cutAt b18 25) (E18_25 x0 v7 v8 h0 h1) (L18_25 x0 v7 v8 h0 h1) = some (cutAt b18 12, E18_12 (v7 + 1) (h1 ++ [v8]) (x0) (h0), L18_12 (v7 + 1) (h1 ++ [v8]) (x0) (h0), [Decidable.decide ((↑(ByteArray.size v8) : Int) > 0) = Bool.false, Bool.false = Bool.false, (List.length h1 + 1) * 16 ≤ 140737488355328, InR IntKind.i64 (v7 + 1)]) := by kernel_rfl
theorem snd18 : ∀ n, (∀ (x0 : List (List ByteArray)) ds, R18 n x0 ds → ∀ K q, AtV Tryd.prog 18 (PostR kds18 oks18 ds [] [] q K) 119 K q [] [.code b18] (entE 0 0 sig18 (x0, ())) (entL sig18 (x0, ()))) ∧ (∀ (v4 : Int) (h0 : List Int) (x0 : List (List ByteArray)) ds, R18_3 n v4 h0 x0 ds → ∀ K q, AtV Tryd.prog 18 (PostR kds18 oks18 ds [] [] q K) 119 K q [] (cutAt b18 3) (E18_3 v4 h0 x0) (L18_3 v4 h0 x0)) ∧ (∀ (v5 : Int) (h0 : List Int) (x0 : List (List ByteArray)) (v4 : Int) ds, R18_6 n v5 h0 x0 v4 ds → ∀ K q, AtV Tryd.prog 18 (PostR kds18 oks18 ds [] [] q K) 119 K q [] (cutAt b18 6) (E18_6 v5 h0 x0 v4) (L18_6 v5 h0 x0 v4)) ∧ (∀ (v7 : Int) (h1 : List ByteArray) (x0 : List (List ByteArray)) (h0 : List Int) ds, R18_12 n v7 h1 x0 h0 ds → ∀ K q, AtV Tryd.prog 18 (PostR kds18 oks18 ds [] [] q K) 119 K q [] (cutAt b18 12) (E18_12 v7 h1 x0 h0) (L18_12 v7 h1 x0 h0)) ∧ (∀ (v8 : ByteArray) (v9 : Int) (x0 : List (List ByteArray)) (v7 : Int) (h0 : List Int) (h1 : List ByteArray) ds, R18_16 n v8 v9 x0 v7 h0 h1 ds → ∀ K q, AtV Tryd.prog 18 (PostR kds18 oks18 ds [] [] q K) 119 K q [] (cutAt b18 16) (E18_16 v8 v9 x0 v7 h0 h1) (L18_16 v8 v9 x0 v7 h0 h1)) ∧ (∀ (v8 : ByteArray) (v10 : Int) (x0 : List (List ByteArray)) (v7 : Int) (v9 : Int) (h0 : List Int) (h1 : List ByteArray) ds, R18_22 n v8 v10 x0 v7 v9 h0 h1 ds → ∀ K q, AtV Tryd.prog 18 (PostR kds18 oks18 ds [] [] q K) 119 K q [] (cutAt b18 22) (E18_22 v8 v10 x0 v7 v9 h0 h1) (L18_22 v8 v10 x0 v7 v9 h0 h1)) ∧ (∀ (x0 : List (List ByteArray)) (v7 : Int) (v8 : ByteArray) (h0 : List Int) (h1 : List ByteArray) ds, R18_25 n x0 v7 v8 h0 h1 ds → ∀ K q, AtV Tryd.prog 18 (PostR kds18 oks18 ds [] [] q K) 119 K q [] (cutAt b18 25) (E18_25 x0 v7 v8 h0 h1) (L18_25 x0 v7 v8 h0 h1)) := by
  intro n
  induction n with
  | zero => exact ⟨fun _ _ h => by simp only [R18] at h, fun _ _ _ _ h => by simp only [R18_3] at h, fun _ _ _ _ _ h => by simp only [R18_6] at h, fun _ _ _ _ _ h => by simp only [R18_12] at h, fun _ _ _ _ _ _ _ h => by simp only [R18_16] at h, fun _ _ _ _ _ _ _ _ h => by simp only [R18_22] at h, fun _ _ _ _ _ _ h => by simp only [R18_25] at h⟩
  | succ n ih =>
  obtain ⟨ih, ih3, ih6, ih12, ih16, ih22, ih25⟩ := ih
  refine ⟨?_, ?_, ?_, ?_, ?_, ?_, ?_⟩
  · intro x0 ds h K q
    rw [R18] at h
    exact AtV.runN tabOk ext18Ok mixed (p18_0 x0) ⟨(by decide), (by decide), (by decide), trivial⟩ (ih3 _ _ _ _ h K q)

  · intro v4 h0 x0 ds h K q
    rw [R18_3] at h
    by_cases b0 : (Decidable.decide (v4 < (↑(List.length x0) : Int))) = true
    · rw [if_pos b0] at h
      exact AtV.runN tabOk ext18Ok mixed (p18_1 v4 h0 x0) ⟨b0, trivial⟩ (ih6 _ _ _ _ _ h K q)
    · rw [if_neg b0] at h
      replace b0 := Bool.eq_false_iff.2 b0
      exact AtV.runN tabOk ext18Ok mixed (p18_2 v4 h0 x0) ⟨b0, trivial⟩ (ih12 _ _ _ _ _ h K q)

  · intro v5 h0 x0 v4 ds h K q
    rw [R18_6] at h
    obtain ⟨s0, s1, h⟩ := h
    by_cases b0 : (Decidable.decide (v5 < (↑(List.length (List.getD x0 (Int.toNat v4) [])) : Int))) = true
    · rw [if_pos b0] at h
      obtain ⟨s2, s3, h⟩ := h
      obtain ⟨s4, s5, h⟩ := h
      obtain ⟨s6, s7, h⟩ := h
      by_cases b1 : (Decidable.decide ((↑(ByteArray.size (List.getD (List.getD x0 (Int.toNat v4) []) (Int.toNat v5) ByteArray.empty)) : Int) > List.getD h0 (Int.toNat v5) 0)) = true
      · rw [if_pos b1] at h
        obtain ⟨s8, s9, h⟩ := h
        obtain ⟨s10, s11, h⟩ := h
        obtain ⟨s12, s13, h⟩ := h
        obtain ⟨s14, h⟩ := h
        exact AtV.runN tabOk ext18Ok mixed (p18_3 v5 h0 x0 v4) ⟨s0, s1, b0, s2, s3, s4, s5, s6, s7, b1, s8, s9, s10, s11, s12, s13, s14, trivial⟩ (ih6 _ _ _ _ _ h K q)
      · rw [if_neg b1] at h
        replace b1 := Bool.eq_false_iff.2 b1
        obtain ⟨s8, h⟩ := h
        exact AtV.runN tabOk ext18Ok mixed (p18_4 v5 h0 x0 v4) ⟨s0, s1, b0, s2, s3, s4, s5, s6, s7, b1, s8, trivial⟩ (ih6 _ _ _ _ _ h K q)
    · rw [if_neg b0] at h
      replace b0 := Bool.eq_false_iff.2 b0
      obtain ⟨s2, h⟩ := h
      exact AtV.runN tabOk ext18Ok mixed (p18_5 v5 h0 x0 v4) ⟨s0, s1, b0, s2, trivial⟩ (ih3 _ _ _ _ h K q)

  · intro v7 h1 x0 h0 ds h K q
    rw [R18_12] at h
    by_cases b0 : (Decidable.decide (v7 < (↑(List.length x0) : Int))) = true
    · rw [if_pos b0] at h
      exact AtV.runN tabOk ext18Ok mixed (p18_6 v7 h1 x0 h0) ⟨b0, trivial⟩ (ih16 _ _ _ _ _ _ _ h K q)
    · rw [if_neg b0] at h
      replace b0 := Bool.eq_false_iff.2 b0
      subst h
      exact AtV.fin Tryd.func18 tabOk ext18Ok mixed (p18_7 v7 h1 x0 h0) ⟨b0, trivial⟩

  · intro v8 v9 x0 v7 h0 h1 ds h K q
    rw [R18_16] at h
    obtain ⟨s0, s1, h⟩ := h
    by_cases b0 : (Decidable.decide (v9 < (↑(List.length (List.getD x0 (Int.toNat v7) [])) : Int))) = true
    · rw [if_pos b0] at h
      by_cases b1 : (Decidable.decide (v9 > 0)) = true
      · rw [if_pos b1] at h
        obtain ⟨s2, h⟩ := h
        obtain ⟨s3, s4, h⟩ := h
        obtain ⟨s5, s6, h⟩ := h
        obtain ⟨s7, h⟩ := h
        obtain ⟨s8, s9, h⟩ := h
        obtain ⟨s10, s11, h⟩ := h
        exact AtV.runN tabOk ext18Ok mixed (p18_8 v8 v9 x0 v7 h0 h1) ⟨s0, s1, b0, b1, s2, s3, s4, s5, s6, s7, s8, s9, s10, s11, trivial⟩ (ih22 _ _ _ _ _ _ _ _ h K q)
      · rw [if_neg b1] at h
        replace b1 := Bool.eq_false_iff.2 b1
        obtain ⟨s2, s3, h⟩ := h
        obtain ⟨s4, s5, h⟩ := h
        obtain ⟨s6, h⟩ := h
        obtain ⟨s7, s8, h⟩ := h
        obtain ⟨s9, s10, h⟩ := h
        exact AtV.runN tabOk ext18Ok mixed (p18_9 v8 v9 x0 v7 h0 h1) ⟨s0, s1, b0, b1, s2, s3, s4, s5, s6, s7, s8, s9, s10, trivial⟩ (ih22 _ _ _ _ _ _ _ _ h K q)
    · rw [if_neg b0] at h
      replace b0 := Bool.eq_false_iff.2 b0
      exact AtV.runN tabOk ext18Ok mixed (p18_10 v8 v9 x0 v7 h0 h1) ⟨s0, s1, b0, trivial⟩ (ih25 _ _ _ _ _ _ h K q)

  · intro v8 v10 x0 v7 v9 h0 h1 ds h K q
    rw [R18_22] at h
    obtain ⟨s0, s1, h⟩ := h
    by_cases b0 : (Decidable.decide (v10 < List.getD h0 (Int.toNat v9) 0)) = true
    · rw [if_pos b0] at h
      obtain ⟨s2, h⟩ := h
      obtain ⟨s3, h⟩ := h
      exact AtV.runN tabOk ext18Ok mixed (p18_11 v8 v10 x0 v7 v9 h0 h1) ⟨s0, s1, b0, s2, s3, trivial⟩ (ih22 _ _ _ _ _ _ _ _ h K q)
    · rw [if_neg b0] at h
      replace b0 := Bool.eq_false_iff.2 b0
      obtain ⟨s2, h⟩ := h
      exact AtV.runN tabOk ext18Ok mixed (p18_12 v8 v10 x0 v7 v9 h0 h1) ⟨s0, s1, b0, s2, trivial⟩ (ih16 _ _ _ _ _ _ _ h K q)

  · intro x0 v7 v8 h0 h1 ds h K q
    rw [R18_25] at h
    by_cases b0 : (Decidable.decide ((↑(ByteArray.size v8) : Int) > 0)) = true
    · rw [if_pos b0] at h
      obtain ⟨s0, h⟩ := h
      obtain ⟨s1, s2, h⟩ := h
      by_cases b1 : ((↑(UInt8.toNat (List.getD (Array.toList (ByteArray.data v8)) (Int.toNat ((↑(ByteArray.size v8) : Int) - 1)) 0)) : Int) == 32) = true
      · rw [if_pos b1] at h
        obtain ⟨s3, h⟩ := h
        obtain ⟨s4, s5, h⟩ := h
        exact AtV.runN tabOk ext18Ok mixed (p18_13 x0 v7 v8 h0 h1) ⟨b0, s0, s1, s2, b1, s3, s4, s5, trivial⟩ (ih25 _ _ _ _ _ _ h K q)
      · rw [if_neg b1] at h
        replace b1 := Bool.eq_false_iff.2 b1
        obtain ⟨s3, h⟩ := h
        obtain ⟨s4, h⟩ := h
        exact AtV.runN tabOk ext18Ok mixed (p18_14 x0 v7 v8 h0 h1) ⟨b0, s0, s1, s2, b1, s3, s4, trivial⟩ (ih12 _ _ _ _ _ h K q)
    · rw [if_neg b0] at h
      replace b0 := Bool.eq_false_iff.2 b0
      obtain ⟨s0, h⟩ := h
      obtain ⟨s1, h⟩ := h
      exact AtV.runN tabOk ext18Ok mixed (p18_15 x0 v7 v8 h0 h1) ⟨b0, rfl, s0, s1, trivial⟩ (ih12 _ _ _ _ _ h K q)



def row18 : Nat → List ByteArray → List Int → List Int
  | _, [], h => h
  | k, c :: r, h => row18 (k + 1) r (if ((c.size : Nat) : Int) > h.getD k 0 then h.set k (c.size : Nat) else h)

def spc18 (n : Nat) : List UInt8 := List.replicate n 32
def ln18 : Nat → List ByteArray → List Int → List UInt8 → List UInt8
  | _, [], _, v => v
  | k, c :: r, h, v => ln18 (k + 1) r h ((v ++ (if k > 0 then [32, 32] else []) ++ c.data.toList) ++ spc18 (h.getD k 0 - (c.size : Nat)).toNat)

def line18 (h : List Int) (r : List ByteArray) : ByteArray := ⟨(Lib.trimRightB (ln18 0 r h []) 32).toArray⟩
def wide18 (x0 : List (List ByteArray)) : List Int := x0.foldl (fun h r => row18 0 r h) [0, 0, 0, 0, 0, 0, 0, 0, 0, 0, 0, 0]
def g18_0 (x0 : List (List ByteArray)) : List ByteArray := x0.map (line18 (wide18 x0))
def P18 (x0 : List (List ByteArray)) : Prop := x0.length ≤ 1000000 ∧ ∀ r ∈ x0, r.length ≤ 12 ∧ ∀ c ∈ r, c.size ≤ 4000000

def Wid18 (h : List Int) : Prop := h.length = 12 ∧ ∀ c ∈ h, 0 ≤ c ∧ c ≤ 4000000

theorem wget18 {h : List Int} (hw : Wid18 h) (k : Nat) : 0 ≤ h.getD k 0 ∧ h.getD k 0 ≤ 4000000 := by
  by_cases hk : k < h.length
  · exact hw.2 _ (mem_getD h k 0 hk)
  · rw [List.getD_eq_getElem?_getD, List.getElem?_eq_none (by omega)]
    exact ⟨Int.le_refl _, by decide⟩

theorem wset18 {h : List Int} (hw : Wid18 h) (k : Nat) {c : ByteArray} (hc : c.size ≤ 4000000) : Wid18 (if ((c.size : Nat) : Int) > h.getD k 0 then h.set k (c.size : Nat) else h) := by
  split
  · refine ⟨by rw [List.length_set]; exact hw.1, fun y hy => ?_⟩
    rcases List.mem_or_eq_of_mem_set hy with hy | rfl
    · exact hw.2 y hy
    · omega
  · exact hw

theorem wrow18 : ∀ (r : List ByteArray) (k : Nat) (h : List Int), Wid18 h → (∀ c ∈ r, c.size ≤ 4000000) → Wid18 (row18 k r h)
  | [], _, _, hw, _ => hw
  | c :: r, k, h, hw, hc => wrow18 r (k + 1) _ (wset18 hw k (hc c (List.mem_cons_self ..))) (fun d hd => hc d (List.mem_cons_of_mem _ hd))

theorem tr18 (v : ByteArray) (h : 0 < v.size) (hl : v.data.toList.getD (v.size - 1) 0 = 32) : Lib.trimRightB (ByteArray.extract v 0 (v.size - 1)).data.toList 32 = Lib.trimRightB v.data.toList 32 := by
  obtain ⟨⟨l⟩⟩ := v
  have hs : (ByteArray.mk ⟨l⟩).size = l.length := rfl
  rw [hs] at *
  have e : (ByteArray.extract ⟨⟨l⟩⟩ 0 (l.length - 1)).data.toList = l.dropLast := by
    rw [ByteArray.data_extract]
    simp [List.dropLast_eq_take]
  rw [e]
  have h' : 0 < l.length := h
  have hne : l ≠ [] := fun hn => by rw [hn] at h; exact absurd h (by decide)
  have hd : l = l.dropLast ++ [32] := by
    have h1 := List.dropLast_concat_getLast hne
    have h2 : l.getLast hne = 32 := by
      rw [List.getLast_eq_getElem]
      have : l.getD (l.length - 1) 0 = 32 := hl
      rwa [getD_lt l _ 0 (by omega)] at this
    rw [h2] at h1
    exact h1.symm
  show Lib.trimRightB l.dropLast 32 = Lib.trimRightB l 32
  conv => rhs; rw [hd]
  unfold Lib.trimRightB
  rw [List.reverse_append, List.reverse_singleton, List.singleton_append, List.dropWhile_cons, if_pos (by decide)]

theorem trn18 (v : ByteArray) (hl : 0 < v.size → v.data.toList.getD (v.size - 1) 0 ≠ 32) : (⟨(Lib.trimRightB v.data.toList 32).toArray⟩ : ByteArray) = v := by
  obtain ⟨⟨l⟩⟩ := v
  have hs : (ByteArray.mk ⟨l⟩).size = l.length := rfl
  rw [hs] at hl
  congr 2
  show Lib.trimRightB l 32 = l
  rcases List.eq_nil_or_concat l with rfl | ⟨a, b, hab⟩
  · rfl
  · rw [List.concat_eq_append] at hab
    subst hab
    have hb : b ≠ 32 := by
      have := hl (by simp)
      have e : (a ++ [b]).length - 1 = a.length := by simp
      have e2 : List.getD (a ++ [b]) ((a ++ [b]).length - 1) 0 = b := by rw [e]; simp [List.getD_eq_getElem?_getD]
      exact fun h => this (e2.trans h)
    unfold Lib.trimRightB
    simp [List.reverse_append, List.dropWhile_cons, hb]

section
variable {x0 : List (List ByteArray)} {ds : List Dyn}

theorem l2518 {v7 : Nat} {h0 : List Int} {h1 : List ByteArray} (hv : v7 < 1000000) (hl : h1.length ≤ 1000000) : ∀ (m : Nat) (v8 : ByteArray), v8.size = m → v8.size ≤ 100000000 → (∃ n, R18_12 n ((v7 : Int) + 1) (h1 ++ [⟨(Lib.trimRightB v8.data.toList 32).toArray⟩]) x0 h0 ds) → ∃ n, R18_25 n x0 (v7 : Int) v8 h0 h1 ds := by
  intro m
  induction m with
  | zero =>
    intro v8 hm _ ⟨n, hn⟩
    refine ⟨n + 1, ?_⟩
    rw [R18_25, if_neg (by simp only [decide_eq_true_eq]; omega)]
    rw [trn18 v8 (fun h => by omega)] at hn
    exact ⟨by omega, by rw [i64_iff]; omega, hn⟩
  | succ m ih =>
    intro v8 hm hb ⟨n, hn⟩
    have e1 : (((v8.size : Nat) : Int) - 1).toNat = v8.size - 1 := by omega
    by_cases hc : v8.data.toList.getD (v8.size - 1) 0 = 32
    · obtain ⟨n', hn'⟩ := ih (ByteArray.extract v8 0 (v8.size - 1)) (by rw [ByteArray.size_extract]; omega) (by rw [ByteArray.size_extract]; omega) ⟨n, by rw [tr18 v8 (by omega) hc]; exact hn⟩
      refine ⟨n' + 1, ?_⟩
      rw [R18_25, if_pos (by simp only [decide_eq_true_eq]; omega)]
      simp only [e1]
      refine ⟨by rw [i64_iff]; omega, by omega, by omega, ?_⟩
      rw [if_pos (by rw [hc]; rfl)]
      exact ⟨by rw [i64_iff]; omega, by omega, by omega, hn'⟩
    · refine ⟨n + 1, ?_⟩
      rw [R18_25, if_pos (by simp only [decide_eq_true_eq]; omega)]
      simp only [e1]
      refine ⟨by rw [i64_iff]; omega, by omega, by omega, ?_⟩
      rw [if_neg (fun h => hc (by
        have h : ((v8.data.toList.getD (v8.size - 1) 0).toNat : Int) = 32 := by simpa using h
        exact UInt8.toNat_inj.1 (by show _ = 32; omega)))]
      rw [trn18 v8 (fun _ => hc)] at hn
      exact ⟨by omega, by rw [i64_iff]; omega, hn⟩

theorem l2218 {v7 v9 : Nat} {h0 : List Int} {h1 : List ByteArray} (hw : Wid18 h0) (h9 : v9 < 12) : ∀ (k : Nat) (v8 : ByteArray) (v10 : Int), k = (h0.getD v9 0 - v10).toNat → 0 ≤ v10 → v8.size + k ≤ 100000000 → v10 ≤ 4000000 →
    (∃ n, R18_16 n ⟨(v8.data.toList ++ spc18 k).toArray⟩ ((v9 : Int) + 1) x0 (v7 : Int) h0 h1 ds) → ∃ n, R18_22 n v8 v10 x0 (v7 : Int) (v9 : Int) h0 h1 ds := by
  have hg := wget18 hw v9
  intro k
  induction k with
  | zero =>
    intro v8 v10 hk h10 hs hv ⟨n, hn⟩
    refine ⟨n + 1, ?_⟩
    have e : (⟨(v8.data.toList ++ spc18 0).toArray⟩ : ByteArray) = v8 := by simp [spc18]
    rw [e] at hn
    rw [R18_22]
    simp only [Int.toNat_natCast]
    refine ⟨by omega, by rw [hw.1]; omega, ?_⟩
    rw [if_neg (by simp only [decide_eq_true_eq]; omega)]
    exact ⟨by rw [i64_iff]; omega, hn⟩
  | succ k ih =>
    intro v8 v10 hk h10 hs hv ⟨n, hn⟩
    have s1 : (ByteArray.mk #[32]).size = 1 := rfl
    have e : (⟨((v8 ++ ByteArray.mk #[32]).data.toList ++ spc18 k).toArray⟩ : ByteArray) = ⟨(v8.data.toList ++ spc18 (k + 1)).toArray⟩ := by
      congr 2
      rw [ByteArray.data_append]
      simp [spc18, List.replicate_succ]
    obtain ⟨n', hn'⟩ := ih (v8 ++ ByteArray.mk #[32]) (v10 + 1) (by omega) (by omega) (by rw [ByteArray.size_append, s1]; omega) (by omega) ⟨n, by rw [e]; exact hn⟩
    refine ⟨n' + 1, ?_⟩
    rw [R18_22]
    simp only [Int.toNat_natCast]
    refine ⟨by omega, by rw [hw.1]; omega, ?_⟩
    rw [if_pos (by simp only [decide_eq_true_eq]; omega)]
    exact ⟨by omega, by rw [i64_iff]; omega, hn'⟩

theorem l1618 {v7 : Nat} {h0 : List Int} {h1 : List ByteArray} (hw : Wid18 h0) (h7 : v7 < x0.length) (hr : (x0.getD v7 []).length ≤ 12) (hc : ∀ c ∈ x0.getD v7 [], c.size ≤ 4000000) (hv : v7 < 1000000) (hl : h1.length ≤ 1000000) :
    ∀ (k v9 : Nat) (v8 : ByteArray), v9 + k = (x0.getD v7 []).length → v8.size ≤ v9 * 4000002 → (∃ n, R18_12 n ((v7 : Int) + 1) (h1 ++ [⟨(Lib.trimRightB (ln18 v9 ((x0.getD v7 []).drop v9) h0 v8.data.toList) 32).toArray⟩]) x0 h0 ds) → ∃ n, R18_16 n v8 (v9 : Int) x0 (v7 : Int) h0 h1 ds := by
  intro k
  induction k with
  | zero =>
    intro v9 v8 hk hs hn
    rw [drop_end _ v9 (by omega)] at hn
    obtain ⟨n, hn⟩ := l2518 (v8 := v8) hv hl _ rfl (by omega) hn
    refine ⟨n + 1, ?_⟩
    rw [R18_16]
    simp only [Int.toNat_natCast]
    refine ⟨by omega, by omega, ?_⟩
    rw [if_neg (by simp only [decide_eq_true_eq]; omega)]
    exact hn
  | succ k ih =>
    intro v9 v8 hk hs hn
    have h9 : v9 < (x0.getD v7 []).length := by omega
    have hcell := hc _ (mem_getD (x0.getD v7 []) v9 ByteArray.empty h9)
    have hg := wget18 hw v9
    have s2 : (ByteArray.mk #[32, 32]).size = 2 := rfl
    have z : ∀ l : List UInt8, (ByteArray.mk l.toArray).size = l.length := fun l => List.size_toArray
    rw [drop_get _ v9 ByteArray.empty h9] at hn
    simp only [ln18] at hn
    generalize hcl : (x0.getD v7 []).getD v9 ByteArray.empty = c at *
    have hcs : c.data.toList.length = c.size := rfl
    have hv8 : v8.data.toList.length = v8.size := rfl
    by_cases h0' : v9 > 0
    · rw [if_pos h0'] at hn
      have e : (⟨((v8 ++ ByteArray.mk #[32, 32] ++ c).data.toList ++ spc18 (h0.getD v9 0 - (c.size : Nat)).toNat).toArray⟩ : ByteArray).data.toList = (v8.data.toList ++ [32, 32] ++ c.data.toList) ++ spc18 (h0.getD v9 0 - (c.size : Nat)).toNat := by
        simp [ByteArray.data_append]
      obtain ⟨n, hn⟩ := l2218 (x0 := x0) (ds := ds) (v7 := v7) (h1 := h1) hw (by omega) _ (v8 ++ ByteArray.mk #[32, 32] ++ c) ((c.size : Nat) : Int) rfl (by omega) (by rw [ByteArray.size_append, ByteArray.size_append, s2]; omega) (by omega) (ih (v9 + 1) _ (by omega) (by rw [z]; simp only [List.length_append, spc18, List.length_replicate, ByteArray.data_append, Array.toList_append, hcs, hv8]; have : ([32, 32] : List UInt8).length = 2 := rfl; show _ + _ + _ + _ ≤ _; simp only [List.length_cons, List.length_nil]; omega) (by rw [e]; exact hn))
      refine ⟨n + 1, ?_⟩
      rw [R18_16]
      simp only [Int.toNat_natCast, hcl]
      refine ⟨by omega, by omega, ?_⟩
      rw [if_pos (by simp only [decide_eq_true_eq]; omega), if_pos (by simp only [decide_eq_true_eq]; omega)]
      exact ⟨by omega, by omega, by omega, by omega, by omega, by rw [ByteArray.size_append, s2]; omega, by omega, by omega, by omega, by omega, hn⟩
    · rw [if_neg h0'] at hn
      have e : (⟨((v8 ++ c).data.toList ++ spc18 (h0.getD v9 0 - (c.size : Nat)).toNat).toArray⟩ : ByteArray).data.toList = (v8.data.toList ++ [] ++ c.data.toList) ++ spc18 (h0.getD v9 0 - (c.size : Nat)).toNat := by
        simp [ByteArray.data_append]
      obtain ⟨n, hn⟩ := l2218 (x0 := x0) (ds := ds) (v7 := v7) (h1 := h1) hw (by omega) _ (v8 ++ c) ((c.size : Nat) : Int) rfl (by omega) (by rw [ByteArray.size_append]; omega) (by omega) (ih (v9 + 1) _ (by omega) (by rw [z]; simp only [List.length_append, spc18, List.length_replicate, ByteArray.data_append, Array.toList_append, hcs, hv8]; omega) (by rw [e]; exact hn))
      refine ⟨n + 1, ?_⟩
      rw [R18_16]
      simp only [Int.toNat_natCast, hcl]
      refine ⟨by omega, by omega, ?_⟩
      rw [if_pos (by simp only [decide_eq_true_eq]; omega), if_neg (by simp only [decide_eq_true_eq]; omega)]
      exact ⟨by omega, by omega, by omega, by omega, by omega, by omega, by omega, by omega, by omega, hn⟩

theorem l1218 {h0 : List Int} (hw : Wid18 h0) (hx : x0.length ≤ 1000000) (hr : ∀ r ∈ x0, r.length ≤ 12 ∧ ∀ c ∈ r, c.size ≤ 4000000) : ∀ (k v7 : Nat) (h1 : List ByteArray), v7 + k = x0.length → h1.length = v7 → ∃ n, R18_12 n (v7 : Int) h1 x0 h0 [⟨.sl .str, h1 ++ (x0.drop v7).map (line18 h0)⟩] := by
  intro k
  induction k with
  | zero =>
    intro v7 h1 hk hl
    refine ⟨1, ?_⟩
    rw [R18_12, if_neg (by simp only [decide_eq_true_eq]; omega), drop_end _ v7 (by omega)]
    simp
  | succ k ih =>
    intro v7 h1 hk hl
    have h7 : v7 < x0.length := by omega
    obtain ⟨r1, r2⟩ := hr _ (mem_getD x0 v7 [] h7)
    obtain ⟨n, hn⟩ := ih (v7 + 1) (h1 ++ [line18 h0 (x0.getD v7 [])]) (by omega) (by rw [List.length_append, hl]; rfl)
    have e : h1 ++ [line18 h0 (x0.getD v7 [])] ++ List.map (line18 h0) (x0.drop (v7 + 1)) = h1 ++ List.map (line18 h0) (x0.drop v7) := by
      rw [drop_get x0 v7 [] h7]; simp
    have e1 : (((v7 + 1 : Nat)) : Int) = (v7 : Int) + 1 := by omega
    rw [e, e1] at hn
    obtain ⟨n', hn'⟩ := l1618 (h1 := h1) (v7 := v7) hw h7 r1 r2 (by omega) (by omega) (x0.getD v7 []).length 0 ByteArray.empty (by omega) (Nat.zero_le _) ⟨n, hn⟩
    refine ⟨n' + 1, ?_⟩
    rw [R18_12, if_pos (by simp only [decide_eq_true_eq]; omega)]
    exact hn'

theorem l618 {v4 : Nat} (h4 : v4 < x0.length) (hr : (x0.getD v4 []).length ≤ 12) (hc : ∀ c ∈ x0.getD v4 [], c.size ≤ 4000000) (hv : v4 < 1000000) :
    ∀ (k v5 : Nat) (h0 : List Int), v5 + k = (x0.getD v4 []).length → Wid18 h0 → (∃ n, R18_3 n ((v4 : Int) + 1) (row18 v5 ((x0.getD v4 []).drop v5) h0) x0 ds) → ∃ n, R18_6 n (v5 : Int) h0 x0 (v4 : Int) ds := by
  intro k
  induction k with
  | zero =>
    intro v5 h0 hk hw ⟨n, hn⟩
    rw [drop_end _ v5 (by omega)] at hn
    refine ⟨n + 1, ?_⟩
    rw [R18_6]
    simp only [Int.toNat_natCast]
    refine ⟨by omega, by omega, ?_⟩
    rw [if_neg (by simp only [decide_eq_true_eq]; omega)]
    exact ⟨by rw [i64_iff]; omega, hn⟩
  | succ k ih =>
    intro v5 h0 hk hw hn
    have h5 : v5 < (x0.getD v4 []).length := by omega
    have hcell := hc _ (mem_getD (x0.getD v4 []) v5 ByteArray.empty h5)
    have hlen := hw.1
    rw [drop_get _ v5 ByteArray.empty h5] at hn
    simp only [row18] at hn
    have hw2 := wset18 hw v5 hcell
    obtain ⟨n, hn⟩ := ih (v5 + 1) _ (by omega) hw2 hn
    refine ⟨n + 1, ?_⟩
    rw [R18_6]
    simp only [Int.toNat_natCast]
    refine ⟨by omega, by omega, ?_⟩
    rw [if_pos (by simp only [decide_eq_true_eq]; omega)]
    refine ⟨by omega, by omega, by omega, by omega, by omega, by omega, ?_⟩
    by_cases hgt : ((((x0.getD v4 []).getD v5 ByteArray.empty).size : Nat) : Int) > h0.getD v5 0
    · rw [if_pos (by simpa using hgt)]
      rw [if_pos hgt] at hn
      exact ⟨by omega, by omega, by omega, by omega, by omega, by omega, by rw [i64_iff]; omega, hn⟩
    · rw [if_neg (by simpa using hgt)]
      rw [if_neg hgt] at hn
      exact ⟨by rw [i64_iff]; omega, hn⟩

theorem l318 (hx : x0.length ≤ 1000000) (hr : ∀ r ∈ x0, r.length ≤ 12 ∧ ∀ c ∈ r, c.size ≤ 4000000) : ∀ (k v4 : Nat) (h0 : List Int), v4 + k = x0.length → Wid18 h0 →
    ∃ n, R18_3 n (v4 : Int) h0 x0 [⟨.sl .str, x0.map (line18 ((x0.drop v4).foldl (fun h r => row18 0 r h) h0))⟩] := by
  intro k
  induction k with
  | zero =>
    intro v4 h0 hk hw
    obtain ⟨n, hn⟩ := l1218 (x0 := x0) hw hx hr x0.length 0 [] (by omega) rfl
    refine ⟨n + 1, ?_⟩
    rw [R18_3, if_neg (by simp only [decide_eq_true_eq]; omega), drop_end _ v4 (by omega)]
    simpa using hn
  | succ k ih =>
    intro v4 h0 hk hw
    have h4 : v4 < x0.length := by omega
    obtain ⟨r1, r2⟩ := hr _ (mem_getD x0 v4 [] h4)
    obtain ⟨n, hn⟩ := ih (v4 + 1) (row18 0 (x0.getD v4 []) h0) (by omega) (wrow18 _ 0 h0 hw r2)
    have e1 : (((v4 + 1 : Nat)) : Int) = (v4 : Int) + 1 := by omega
    rw [e1] at hn
    rw [drop_get x0 v4 [] h4, List.foldl_cons]
    obtain ⟨n', hn'⟩ := l618 (x0 := x0) h4 r1 r2 (by omega) (x0.getD v4 []).length 0 h0 (by omega) hw ⟨n, hn⟩
    refine ⟨n' + 1, ?_⟩
    rw [R18_3, if_pos (by simp only [decide_eq_true_eq]; omega)]
    exact hn'
end

theorem w018 : Wid18 [0, 0, 0, 0, 0, 0, 0, 0, 0, 0, 0, 0] := ⟨rfl, by decide⟩

theorem top18 (x0 : List (List ByteArray)) (h : P18 x0) : ∃ n, R18 n x0 [⟨.sl .str, g18_0 x0⟩] := by
  obtain ⟨n, hn⟩ := l318 h.1 h.2 x0.length 0 _ (by omega) w018
  refine ⟨n + 1, ?_⟩
  rw [R18]
  simpa [g18_0, wide18] using hn

def S18 : Am.Spec := { sig := sig18, pre := fun ⟨x0, _⟩ => P18 x0, res := fun ⟨x0, _⟩ => [⟨.sl .str, g18_0 x0⟩] }
theorem con18 : Contract Tryd.prog 18 S18 := contract_of Tryd.func18 hb18 (Nat.le_of_ble_eq_true (by kernel_rfl)) (fun ⟨x0, _⟩ h hwf K q =>
  let ⟨n, hn⟩ := top18 x0 h
  (snd18 n).1 x0 _ hn K q)

end
end Go.Proofs.YtpledggbnnjbiaaDoor

/- Function 43 (spec.l30Line): its runs between cut points. Written by a program of this repo (gen). -/
set_option linter.unusedVariables false
set_option linter.unusedSimpArgs false
set_option maxRecDepth 100000
namespace Go.Proofs.YtpledggbnnjbiaaDoor
open Go Go.Am Go.Proofs
noncomputable section
def ext43 : Ext := []
theorem ext43Ok : ExtOk Tryd.prog ext43 := trivial

noncomputable def b43 : Code := bodyOf Tryd.f43
theorem hb43 : Tryd.f43.body = some b43 := by kernel_rfl
def sig43 : List AT := [AT.v (Ty.str)]
def tys43 : List Ty := [Ty.bool]
def kds43 : List RK := []
def oks43 : List AT := owns sig43
def E43_2 (v3 : Int) (x0 : ByteArray) : Env := [(0, PV.a (Atom.val (Value.string x0))), (3, PV.a (Atom.val (Value.int IntKind.i64 v3)))]
def L43_2 (v3 : Int) (x0 : ByteArray) : Heap := []
mutual
def R43 : Nat → ByteArray → List Dyn → Prop
  | 0, _, _ => False
  | n + 1, x0, ds => (R43_2 n (0) (x0) ds)
def R43_2 : Nat → Int → ByteArray → List Dyn → Prop
  | 0, _, _, _ => False
  | n + 1, v3, x0, ds => (if (Decidable.decide (v3 < (↑(ByteArray.size x0) : Int))) = true then ((0 ≤ v3) ∧ (v3 < (↑(ByteArray.size x0) : Int)) ∧ (if (Decidable.decide ((↑(UInt8.toNat (List.getD (Array.toList (ByteArray.data x0)) (Int.toNat v3) 0)) : Int) < 32)) = true then (ds = [Dyn.mk Ty.bool Bool.false]) else ((0 ≤ v3) ∧ (v3 < (↑(ByteArray.size x0) : Int)) ∧ (if (Decidable.decide ((↑(UInt8.toNat (List.getD (Array.toList (ByteArray.data x0)) (Int.toNat v3) 0)) : Int) > 126)) = true then (ds = [Dyn.mk Ty.bool Bool.false]) else ((InR IntKind.i64 (v3 + 1)) ∧ (R43_2 n (v3 + 1) (x0) ds)))))) else (ds = [Dyn.mk Ty.bool (Decidable.decide ((↑(ByteArray.size x0) : Int) ≤ 100))]))
end
theorem p43_0 (x0 : ByteArray) : Am.runN tab ext43 false 23 [] 2000 [] [] [0, 3] [] [] [.code b43] (entE 0 0 sig43 (x0, ())) (entL sig43 (x0, ())) = some (cutAt b43 2, E43_2 (0) (x0), L43_2 (0) (x0), []) := by kernel_rfl
theorem p43_1 (v3 : Int) (x0 : ByteArray) : runF tab ext43 false 23 [] 2000 [] oks43 kds43 tys43 Tryd.f43.results [true, true, true] (cutAt b43 2) (E43_2 v3 x0) (L43_2 v3 x0) = some ([Dyn.mk Ty.bool Bool.false], [], [Decidable.decide (v3 < (↑(ByteArray.size x0) : Int)) = Bool.true, 0 ≤ v3, v3 < (↑(ByteArray.size x0) : Int), Decidable.decide ((↑(UInt8.toNat (List.getD (Array.toList (ByteArray.data x0)) (Int.toNat v3) 0)) : Int) < 32) = Bool.true, Bool.true = Bool.true]) := by kernel_rfl
theorem p43_2 (v3 : Int) (x0 : ByteArray) : runF tab ext43 false 23 [] 2000 [] oks43 kds43 tys43 Tryd.f43.results [true, false, true] (cutAt b43 2) (E43_2 v3 x0) (L43_2 v3 x0) = some ([Dyn.mk Ty.bool Bool.false], [], [Decidable.decide (v3 < (↑(ByteArray.size x0) : Int)) = Bool.true, 0 ≤ v3, v3 < (↑(ByteArray.size x0) : Int), Decidable.decide ((↑(UInt8.toNat (List.getD (Array.toList (ByteArray.data x0)) (Int.toNat v3) 0)) : Int) < 32) = Bool.false, 0 ≤ v3, v3 < (↑(ByteArray.size x0) : Int), Decidable.decide ((↑(UInt8.toNat (List.getD (Array.toList (ByteArray.data x0)) (Int.toNat v3) 0)) : Int) > 126) = Bool.true]) := by kernel_rfl
theorem p43_3 (v3 : Int) (x0 : ByteArray) : Am.runN tab ext43 false 23 [] 2000 [] [] [0, 3] [] [true, false, false] (cutAt b43 2) (E43_2 v3 x0) (L43_2 v3 x0) = some (cutAt b43 2, E43_2 (v3 + 1) (x0), L43_2 (v3 + 1) (x0), [Decidable.decide (v3 < (↑(ByteArray.size x0) : Int)) = Bool.true, 0 ≤ v3, v3 < (↑(ByteArray.size x0) : Int), Decidable.decide ((↑(UInt8.toNat (List.getD (Array.toList (ByteArray.data x0)) (Int.toNat v3) 0)) : Int) < 32) = Bool.false, 0 ≤ v3, v3 < (↑(ByteArray.size x0) : Int), Decidable.decide ((↑(UInt8.toNat (List.getD (Array.toList (ByteArray.data x0)) (Int.toNat v3) 0)) : Int) > 126) = Bool.false, InR IntKind.i64 (v3 + 1)]) := by kernel_rfl
theorem p43_4 (v3 : Int) (x0 : ByteArray) : runF tab ext43 false 23 [] 2000 [] oks43 kds43 tys43 Tryd.f43.results [false] (cutAt b43 2) (E43_2 v3 x0) (L43_2 v3 x0) = some ([Dyn.mk Ty.bool (Decidable.decide ((↑(ByteArray.size x0) : Int) ≤ 100))], [], [Decidable.decide (v3 < (↑(ByteArray.size x0) : Int)) = Bool.false]) := by kernel_rfl
theorem snd43 : ∀ n, (∀ (x0 : ByteArray) ds, R43 n x0 ds → ∀ K q, AtV Tryd.prog 43 (PostR kds43 oks43 ds [] [] q K) 23 K q [] [.code b43] (entE 0 0 sig43 (x0, ())) (entL sig43 (x0, ()))) ∧ (∀ (v3 : Int) (x0 : ByteArray) ds, R43_2 n v3 x0 ds → ∀ K q, AtV Tryd.prog 43 (PostR kds43 oks43 ds [] [] q K) 23 K q [] (cutAt b43 2) (E43_2 v3 x0) (L43_2 v3 x0)) := by
  intro n
  induction n with
  | zero => exact ⟨fun _ _ h => by simp only [R43] at h, fun _ _ _ h => by simp only [R43_2] at h⟩
  | succ n ih =>
  obtain ⟨ih, ih2⟩ := ih
  refine ⟨?_, ?_⟩
  · intro x0 ds h K q
    rw [R43] at h
    exact AtV.runN tabOk ext43Ok mixed (p43_0 x0) trivial (ih2 _ _ _ h K q)

  · intro v3 x0 ds h K q
    rw [R43_2] at h
    by_cases b0 : (Decidable.decide (v3 < (↑(ByteArray.size x0) : Int))) = true
    · rw [if_pos b0] at h
      obtain ⟨s0, s1, h⟩ := h
      by_cases b1 : (Decidable.decide ((↑(UInt8.toNat (List.getD (Array.toList (ByteArray.data x0)) (Int.toNat v3) 0)) : Int) < 32)) = true
      · rw [if_pos b1] at h
        subst h
        exact AtV.fin Tryd.func43 tabOk ext43Ok mixed (p43_1 v3 x0) ⟨b0, s0, s1, b1, rfl, trivial⟩
      · rw [if_neg b1] at h
        replace b1 := Bool.eq_false_iff.2 b1
        obtain ⟨s2, s3, h⟩ := h
        by_cases b2 : (Decidable.decide ((↑(UInt8.toNat (List.getD (Array.toList (ByteArray.data x0)) (Int.toNat v3) 0)) : Int) > 126)) = true
        · rw [if_pos b2] at h
          subst h
          exact AtV.fin Tryd.func43 tabOk ext43Ok mixed (p43_2 v3 x0) ⟨b0, s0, s1, b1, s2, s3, b2, trivial⟩
        · rw [if_neg b2] at h
          replace b2 := Bool.eq_false_iff.2 b2
          obtain ⟨s4, h⟩ := h
          exact AtV.runN tabOk ext43Ok mixed (p43_3 v3 x0) ⟨b0, s0, s1, b1, s2, s3, b2, s4, trivial⟩ (ih2 _ _ _ h K q)
    · rw [if_neg b0] at h
      replace b0 := Bool.eq_false_iff.2 b0
      subst h
      exact AtV.fin Tryd.func43 tabOk ext43Ok mixed (p43_4 v3 x0) ⟨b0, trivial⟩



def ok43 (b : Int) : Bool := decide (32 ≤ b) && decide (b ≤ 126)
def g43_0 (x0 : ByteArray) : Bool := (bytesOf x0).all ok43 && decide (x0.size ≤ 100)
def P43 (x0 : ByteArray) : Prop := True

theorem top43 (x0 : ByteArray) (hw : Wf .str x0) : R43 (x0.size + 1 + 1) x0 [⟨.bool, g43_0 x0⟩] := by
  have hl := bytesOf_length x0
  rw [R43]
  have key := loop_test (bytesOf x0) 0 ok43 [(⟨.bool, false⟩ : Dyn)] [⟨.bool, decide (x0.size ≤ 100)⟩] (fun n i ds => R43_2 n i x0 ds) (fun n => ?_) (fun n i hi hok ds hr => ?_) (fun n i hi hok => ?_)
  · rw [hl] at key
    unfold g43_0
    cases h : (bytesOf x0).all ok43 <;> rw [h] at key <;> simpa using key
  · show R43_2 (n + 1) ((bytesOf x0).length : Int) x0 _
    rw [R43_2, hl, if_neg (by simp)]
    simp only [Dyn.mk.injEq, heq_eq_eq, true_and, List.cons.injEq, and_true]
    congr 1
    exact propext ⟨fun h => by omega, fun h => by omega⟩
  · simp only [ok43, Bool.and_eq_true, decide_eq_true_eq] at hok
    rw [R43_2, if_pos (by simp; omega)]
    simp only [Int.toNat_natCast, byte_get]
    generalize (bytesOf x0).getD i 0 = c at *
    refine ⟨by omega, by omega, ?_⟩
    rw [if_neg (by simp only [decide_eq_true_eq]; omega)]
    refine ⟨by omega, by omega, ?_⟩
    rw [if_neg (by simp only [decide_eq_true_eq]; omega)]
    exact ⟨inR_up (xs := bytesOf x0) (by rw [hl]; exact hw) hi, hr⟩
  · simp only [ok43, Bool.and_eq_false_iff, decide_eq_false_iff_not] at hok
    rw [R43_2, if_pos (by simp; omega)]
    simp only [Int.toNat_natCast, byte_get]
    generalize (bytesOf x0).getD i 0 = c at *
    refine ⟨by omega, by omega, ?_⟩
    by_cases h1 : c < 32
    · rw [if_pos (by simpa using h1)] <;> trivial
    · rw [if_neg (by simpa using h1)]
      refine ⟨by omega, by omega, ?_⟩
      rw [if_pos (by simp only [decide_eq_true_eq]; omega)] <;> trivial

def S43 : Am.Spec := { sig := sig43, pre := fun ⟨x0, _⟩ => P43 x0, res := fun ⟨x0, _⟩ => [⟨Ty.bool, g43_0 x0⟩] }
theorem con43 : Contract Tryd.prog 43 S43 := contract_of Tryd.func43 hb43 (Nat.le_of_ble_eq_true (by kernel_rfl)) (fun ⟨x0, _⟩ h hwf K q =>
  (snd43 _).1 x0 _ (top43 x0 hwf.1) K q)

end
end Go.Proofs.YtpledggbnnjbiaaDoor

/- Function 28 (spec.l30Ok): its runs between cut points. Written by a program of this repo (gen). -/
set_option linter.unusedVariables false
set_option linter.unusedSimpArgs false
set_option maxRecDepth 100000
namespace Go.Proofs.YtpledggbnnjbiaaDoor
open Go Go.Am Go.Proofs
noncomputable section
def ext28 : Ext := [(43, S43)]
theorem call28_43 : Callable Tryd.prog 43 := ⟨Tryd.f43, Tryd.func43, by kernel_rfl, by kernel_rfl⟩
theorem ext28Ok : ExtOk Tryd.prog ext28 := ⟨⟨call28_43, con43⟩, trivial⟩

noncomputable def b28 : Code := bodyOf Tryd.f28
theorem hb28 : Tryd.f28.body = some b28 := by kernel_rfl
def sig28 : List AT := [AT.v (Ty.sl Ty.str)]
def tys28 : List Ty := [Ty.bool]
def kds28 : List RK := []
def oks28 : List AT := owns sig28
def E28_2 (v3 : Int) (x0 : List ByteArray) : Env := [(0, PV.a (Atom.sl Ty.str x0)), (3, PV.a (Atom.val (Value.int IntKind.i64 v3)))]
def L28_2 (v3 : Int) (x0 : List ByteArray) : Heap := []
mutual
def R28 : Nat → List ByteArray → List Dyn → Prop
  | 0, _, _ => False
  | n + 1, x0, ds => (R28_2 n (0) (x0) ds)
def R28_2 : Nat → Int → List ByteArray → List Dyn → Prop
  | 0, _, _, _ => False
  | n + 1, v3, x0, ds => (if (Decidable.decide (v3 < (↑(List.length x0) : Int))) = true then ((0 ≤ v3) ∧ (v3 < (↑(List.length x0) : Int)) ∧ (if (!g43_0 (List.getD x0 (Int.toNat v3) ByteArray.empty)) = true then (ds = [Dyn.mk Ty.bool Bool.false]) else ((InR IntKind.i64 (v3 + 1)) ∧ (R28_2 n (v3 + 1) (x0) ds)))) else (ds = [Dyn.mk Ty.bool (Decidable.decide ((↑(List.length x0) : Int) ≤ 200))]))
end
theorem p28_0 (x0 : List ByteArray) : Am.runN tab ext28 false 19 [] 2000 [] [] [0, 3] [] [] [.code b28] (entE 0 0 sig28 (x0, ())) (entL sig28 (x0, ())) = some (cutAt b28 2, E28_2 (0) (x0), L28_2 (0) (x0), []) := by kernel_rfl
theorem p28_1 (v3 : Int) (x0 : List ByteArray) : runF tab ext28 false 19 [] 2000 [] oks28 kds28 tys28 Tryd.f28.results [true, true] (cutAt b28 2) (E28_2 v3 x0) (L28_2 v3 x0) = some ([Dyn.mk Ty.bool Bool.false], [], [Decidable.decide (v3 < (↑(List.length x0) : Int)) = Bool.true, 0 ≤ v3, v3 < (↑(List.length x0) : Int), True, (!g43_0 (List.getD x0 (Int.toNat v3) ByteArray.empty)) = Bool.true]) := by kernel_rfl
theorem p28_2 (v3 : Int) (x0 : List ByteArray) : Am.runN tab ext28 false 19 [] 2000 [] [] [0, 3] [] [true, false] (cutAt b28 2) (E28_2 v3 x0) (L28_2 v3 x0) = some (cutAt b28 2, E28_2 (v3 + 1) (x0), L28_2 (v3 + 1) (x0), [Decidable.decide (v3 < (↑(List.length x0) : Int)) = Bool.true, 0 ≤ v3, v3 < (↑(List.length x0) : Int), True, (!g43_0 (List.getD x0 (Int.toNat v3) ByteArray.empty)) = Bool.false, InR IntKind.i64 (v3 + 1)]) := by kernel_rfl
theorem p28_3 (v3 : Int) (x0 : List ByteArray) : runF tab ext28 false 19 [] 2000 [] oks28 kds28 tys28 Tryd.f28.results [false] (cutAt b28 2) (E28_2 v3 x0) (L28_2 v3 x0) = some ([Dyn.mk Ty.bool (Decidable.decide ((↑(List.length x0) : Int) ≤ 200))], [], [Decidable.decide (v3 < (↑(List.length x0) : Int)) = Bool.false]) := by kernel_rfl
theorem snd28 : ∀ n, (∀ (x0 : List ByteArray) ds, R28 n x0 ds → ∀ K q, AtV Tryd.prog 28 (PostR kds28 oks28 ds [] [] q K) 19 K q [] [.code b28] (entE 0 0 sig28 (x0, ())) (entL sig28 (x0, ()))) ∧ (∀ (v3 : Int) (x0 : List ByteArray) ds, R28_2 n v3 x0 ds → ∀ K q, AtV Tryd.prog 28 (PostR kds28 oks28 ds [] [] q K) 19 K q [] (cutAt b28 2) (E28_2 v3 x0) (L28_2 v3 x0)) := by
  intro n
  induction n with
  | zero => exact ⟨fun _ _ h => by simp only [R28] at h, fun _ _ _ h => by simp only [R28_2] at h⟩
  | succ n ih =>
  obtain ⟨ih, ih2⟩ := ih
  refine ⟨?_, ?_⟩
  · intro x0 ds h K q
    rw [R28] at h
    exact AtV.runN tabOk ext28Ok mixed (p28_0 x0) trivial (ih2 _ _ _ h K q)

  · intro v3 x0 ds h K q
    rw [R28_2] at h
    by_cases b0 : (Decidable.decide (v3 < (↑(List.length x0) : Int))) = true
    · rw [if_pos b0] at h
      obtain ⟨s0, s1, h⟩ := h
      by_cases b1 : (!g43_0 (List.getD x0 (Int.toNat v3) ByteArray.empty)) = true
      · rw [if_pos b1] at h
        subst h
        exact AtV.fin Tryd.func28 tabOk ext28Ok mixed (p28_1 v3 x0) ⟨b0, s0, s1, trivial, b1, trivial⟩
      · rw [if_neg b1] at h
        replace b1 := Bool.eq_false_iff.2 b1
        obtain ⟨s2, h⟩ := h
        exact AtV.runN tabOk ext28Ok mixed (p28_2 v3 x0) ⟨b0, s0, s1, trivial, b1, s2, trivial⟩ (ih2 _ _ _ h K q)
    · rw [if_neg b0] at h
      replace b0 := Bool.eq_false_iff.2 b0
      subst h
      exact AtV.fin Tryd.func28 tabOk ext28Ok mixed (p28_3 v3 x0) ⟨b0, trivial⟩



def g28_0 (x0 : List ByteArray) : Bool := x0.all g43_0 && decide (x0.length ≤ 200)
def P28 (x0 : List ByteArray) : Prop := True

theorem top28 (x0 : List ByteArray) (hw : Wf (.sl .str) x0) : R28 (x0.length + 1 + 1) x0 [⟨.bool, g28_0 x0⟩] := by
  rw [R28]
  have key := loop_test x0 ByteArray.empty g43_0 [(⟨.bool, false⟩ : Dyn)] [⟨.bool, decide (x0.length ≤ 200)⟩] (fun n i ds => R28_2 n i x0 ds) (fun n => ?_) (fun n i hi hok ds hr => ?_) (fun n i hi hok => ?_)
  · unfold g28_0
    cases h : x0.all g43_0 <;> rw [h] at key <;> simpa using key
  · rw [R28_2, if_neg (by simp)]
    simp only [Dyn.mk.injEq, heq_eq_eq, true_and, List.cons.injEq, and_true]
    congr 1
    exact propext ⟨fun h => by omega, fun h => by omega⟩
  · rw [R28_2, if_pos (by simp; omega)]
    simp only [Int.toNat_natCast]
    refine ⟨by omega, by omega, ?_⟩
    rw [if_neg (by rw [hok]; simp)]
    exact ⟨inR_up hw.1 hi, hr⟩
  · rw [R28_2, if_pos (by simp; omega)]
    simp only [Int.toNat_natCast]
    refine ⟨by omega, by omega, ?_⟩
    rw [if_pos (by rw [hok]; simp)] <;> trivial

def S28 : Am.Spec := { sig := sig28, pre := fun ⟨x0, _⟩ => P28 x0, res := fun ⟨x0, _⟩ => [⟨Ty.bool, g28_0 x0⟩] }
theorem con28 : Contract Tryd.prog 28 S28 := contract_of Tryd.func28 hb28 (Nat.le_of_ble_eq_true (by kernel_rfl)) (fun ⟨x0, _⟩ h hwf K q =>
  (snd28 _).1 x0 _ (top28 x0 hwf.1) K q)

end
end Go.Proofs.YtpledggbnnjbiaaDoor

/- Function 17 (spec.l30Done): its runs between cut points. Written by a program of this repo (gen). -/
set_option linter.unusedVariables false
set_option linter.unusedSimpArgs false
set_option maxRecDepth 100000
namespace Go.Proofs.YtpledggbnnjbiaaDoor
open Go Go.Am Go.Proofs
noncomputable section
def ext17 : Ext := [(28, S28)]
theorem call17_28 : Callable Tryd.prog 28 := ⟨Tryd.f28, Tryd.func28, by kernel_rfl, by kernel_rfl⟩
theorem ext17Ok : ExtOk Tryd.prog ext17 := ⟨⟨call17_28, con28⟩, trivial⟩

noncomputable def b17 : Code := bodyOf Tryd.f17
theorem hb17 : Tryd.f17.body = some b17 := by kernel_rfl
def sig17 : List AT := [AT.own Ty.str]
def tys17 : List Ty := [Ty.sl Ty.str, Ty.int IntKind.i64]
def kds17 : List RK := []
def oks17 : List AT := owns sig17
def P17 (x0 : List ByteArray) : Prop := True
def g17_0 (x0 : List ByteArray) : List ByteArray := (if (!g28_0 x0) = true then [] else x0)
def g17_1 (x0 : List ByteArray) : Int := (if (!g28_0 x0) = true then 5 else 0)
theorem p17_0 (x0 : List ByteArray) : runF tab ext17 false 8 [] 2000 [0] oks17 kds17 tys17 Tryd.f17.results [true] [.code b17] (entE 0 0 sig17 (x0, ())) (entL sig17 (x0, ())) = some ([Dyn.mk (Ty.sl Ty.str) [], Dyn.mk (Ty.int IntKind.i64) 5], [Option.some (Lst.mk Ty.str x0)], [True, (!g28_0 x0) = Bool.true]) := by kernel_rfl
theorem p17_1 (x0 : List ByteArray) : runF tab ext17 false 8 [] 2000 [0] oks17 kds17 tys17 Tryd.f17.results [false] [.code b17] (entE 0 0 sig17 (x0, ())) (entL sig17 (x0, ())) = some ([Dyn.mk (Ty.sl Ty.str) x0, Dyn.mk (Ty.int IntKind.i64) 0], [Option.none], [True, (!g28_0 x0) = Bool.false]) := by kernel_rfl
theorem at17 (x0 : List ByteArray) (h : P17 x0) (K : Ctx) (q : Nat → Value) : AtV Tryd.prog 17 (PostR kds17 oks17 [⟨Ty.sl Ty.str, g17_0 x0⟩, ⟨Ty.int IntKind.i64, g17_1 x0⟩] [none] [0] q K) 8 K q [0] [.code b17] (entE 0 0 sig17 (x0, ())) (entL sig17 (x0, ())) := by
  unfold P17 at h
  unfold g17_0 g17_1
  by_cases b0 : (!g28_0 x0) = true
  · try simp only [if_pos b0] at h ⊢
    exact AtV.weak (AtV.fin Tryd.func17 tabOk ext17Ok mixed (p17_0 x0) ⟨trivial, b0, trivial⟩) ⟨.inr rfl, trivial⟩
  · try simp only [if_neg b0] at h ⊢
    replace b0 := Bool.eq_false_iff.2 b0
    exact AtV.weak (AtV.fin Tryd.func17 tabOk ext17Ok mixed (p17_1 x0) ⟨trivial, b0, trivial⟩) ⟨.inr rfl, trivial⟩

def S17 : Am.Spec := { sig := sig17, pre := fun ⟨x0, _⟩ => P17 x0, upd := fun ⟨x0, _⟩ => [none], res := fun ⟨x0, _⟩ => [⟨Ty.sl Ty.str, g17_0 x0⟩, ⟨Ty.int IntKind.i64, g17_1 x0⟩], kds := kds17 }
theorem con17 : Contract Tryd.prog 17 S17 := contract_of Tryd.func17 hb17 (Nat.le_of_ble_eq_true (by kernel_rfl)) (fun ⟨x0, _⟩ h _ K q => at17 x0 h K q)


end
end Go.Proofs.YtpledggbnnjbiaaDoor

/- Function 5 (spec.FareReport): its runs between cut points. Written by a program of this repo (gen). -/
set_option linter.unusedVariables false
set_option linter.unusedSimpArgs false
set_option maxRecDepth 100000
namespace Go.Proofs.YtpledggbnnjbiaaDoor
open Go Go.Am Go.Proofs
noncomputable section
def ext5 : Ext := [(14, S14), (15, S15), (16, S16), (18, S18), (17, S17)]
theorem call5_14 : Callable Tryd.prog 14 := ⟨Tryd.f14, Tryd.func14, by kernel_rfl, by kernel_rfl⟩
theorem call5_15 : Callable Tryd.prog 15 := ⟨Tryd.f15, Tryd.func15, by kernel_rfl, by kernel_rfl⟩
theorem call5_16 : Callable Tryd.prog 16 := ⟨Tryd.f16, Tryd.func16, by kernel_rfl, by kernel_rfl⟩
theorem call5_18 : Callable Tryd.prog 18 := ⟨Tryd.f18, Tryd.func18, by kernel_rfl, by kernel_rfl⟩
theorem call5_17 : Callable Tryd.prog 17 := ⟨Tryd.f17, Tryd.func17, by kernel_rfl, by kernel_rfl⟩
theorem ext5Ok : ExtOk Tryd.prog ext5 := ⟨⟨call5_14, con14⟩, ⟨call5_15, con15⟩, ⟨call5_16, con16⟩, ⟨call5_18, con18⟩, ⟨call5_17, con17⟩, trivial⟩

noncomputable def b5 : Code := bodyOf Tryd.f5
theorem hb5 : Tryd.f5.body = some b5 := by kernel_rfl
def sig5 : List AT := [AT.v (Ty.sl (Ty.cons Ty.str (Ty.cons (Ty.int IntKind.i64) (Ty.cons (Ty.int IntKind.i64) (Ty.cons (Ty.int IntKind.i64) Ty.unit)))))]
def tys5 : List Ty := [Ty.sl Ty.str, Ty.int IntKind.i64]
def kds5 : List RK := []
def oks5 : List AT := owns sig5
def E5_5 (v5 : Int) (h0 : List (List ByteArray)) (x0 : List (ByteArray × Int × Int × Int × Unit)) : Env := [(0, PV.a (Atom.sl (Ty.cons Ty.str (Ty.cons (Ty.int IntKind.i64) (Ty.cons (Ty.int IntKind.i64) (Ty.cons (Ty.int IntKind.i64) Ty.unit)))) x0)), (4, PV.a (Atom.osl 0 Option.none)), (5, PV.a (Atom.val (Value.int IntKind.i64 v5)))]
def L5_5 (v5 : Int) (h0 : List (List ByteArray)) (x0 : List (ByteArray × Int × Int × Int × Unit)) : Heap := [Option.some (Arr.mk (Ty.sl Ty.str) h0 Bool.true Option.none Option.none)]
mutual
def R5 : Nat → List (ByteArray × Int × Int × Int × Unit) → List Dyn → Prop
  | 0, _, _ => False
  | n + 1, x0, ds => (if (!g14_0 x0) = true then (ds = [Dyn.mk (Ty.sl Ty.str) [], Dyn.mk (Ty.int IntKind.i64) 1]) else (R5_5 n (0) ([[ByteArray.mk #[102, 97, 114, 101], ByteArray.mk #[112, 114, 105, 99, 101], ByteArray.mk #[114, 105, 100, 101, 115], ByteArray.mk #[100, 97, 121, 115]]]) (x0) ds))
def R5_5 : Nat → Int → List (List ByteArray) → List (ByteArray × Int × Int × Int × Unit) → List Dyn → Prop
  | 0, _, _, _, _ => False
  | n + 1, v5, h0, x0, ds => (if (Decidable.decide (v5 < (↑(List.length x0) : Int))) = true then ((0 ≤ v5) ∧ (v5 < (↑(List.length x0) : Int)) ∧ ((P15 (Prod.fst (Prod.snd (List.getD x0 (Int.toNat v5) (ByteArray.empty, 0, 0, 0, ())))) 2) ∧ (((List.length h0 + 1) * 24 ≤ 140737488355328) ∧ ((InR IntKind.i64 (v5 + 1)) ∧ (R5_5 n (v5 + 1) (h0 ++ [[Prod.fst (List.getD x0 (Int.toNat v5) (ByteArray.empty, 0, 0, 0, ())), g15_0 (Prod.fst (Prod.snd (List.getD x0 (Int.toNat v5) (ByteArray.empty, 0, 0, 0, ())))) 2, g16_0 (Prod.fst (Prod.snd (Prod.snd (List.getD x0 (Int.toNat v5) (ByteArray.empty, 0, 0, 0, ()))))), g16_0 (Prod.fst (Prod.snd (Prod.snd (Prod.snd (List.getD x0 (Int.toNat v5) (ByteArray.empty, 0, 0, 0, ()))))))]]) (x0) ds))))) else ((P18 h0) ∧ (ds = [Dyn.mk (Ty.sl Ty.str) (g17_0 (g18_0 h0)), Dyn.mk (Ty.int IntKind.i64) (g17_1 (g18_0 h0))])))
end
theorem p5_0 (x0 : List (ByteArray × Int × Int × Int × Unit)) : runF tab ext5 false 49 [] 2000 [] oks5 kds5 tys5 Tryd.f5.results [true] [.code b5] (entE 0 0 sig5 (x0, ())) (entL sig5 (x0, ())) = some ([Dyn.mk (Ty.sl Ty.str) [], Dyn.mk (Ty.int IntKind.i64) 1], [], [True, (!g14_0 x0) = Bool.true]) := by kernel_rfl
theorem p5_1 (x0 : List (ByteArray × Int × Int × Int × Unit)) : Am.runN tab ext5 false 49 [] 2000 [] [] [0, 4, 5] [1] [false] [.code b5] (entE 0 0 sig5 (x0, ())) (entL sig5 (x0, ())) = some (cutAt b5 5, E5_5 (0) ([[ByteArray.mk #[102, 97, 114, 101], ByteArray.mk #[112, 114, 105, 99, 101], ByteArray.mk #[114, 105, 100, 101, 115], ByteArray.mk #[100, 97, 121, 115]]]) (x0), L5_5 (0) ([[ByteArray.mk #[102, 97, 114, 101], ByteArray.mk #[112, 114, 105, 99, 101], ByteArray.mk #[114, 105, 100, 101, 115], ByteArray.mk #[100, 97, 121, 115]]]) (x0), [True, (!g14_0 x0) = Bool.false]) := by kernel_rfl
theorem p5_2 (v5 : Int) (h0 : List (List ByteArray)) (x0 : List (ByteArray × Int × Int × Int × Unit)) : Am.runN tab ext5 false 49 [] 2000 [] [] [0, 4, 5] [0] [true] (cutAt b5 5) (E5_5 v5 h0 x0) (L5_5 v5 h0 x0) = some (cutAt b5 5, E5_5 (v5 + 1) (h0 ++ [[Prod.fst (List.getD x0 (Int.toNat v5) (ByteArray.empty, 0, 0, 0, ())), g15_0 (Prod.fst (Prod.snd (List.getD x0 (Int.toNat v5) (ByteArray.empty, 0, 0, 0, ())))) 2, g16_0 (Prod.fst (Prod.snd (Prod.snd (List.getD x0 (Int.toNat v5) (ByteArray.empty, 0, 0, 0, ()))))), g16_0 (Prod.fst (Prod.snd (Prod.snd (Prod.snd (List.getD x0 (Int.toNat v5) (ByteArray.empty, 0, 0, 0, ()))))))]]) (x0), L5_5 (v5 + 1) (h0 ++ [[Prod.fst (List.getD x0 (Int.toNat v5) (ByteArray.empty, 0, 0, 0, ())), g15_0 (Prod.fst (Prod.snd (List.getD x0 (Int.toNat v5) (ByteArray.empty, 0, 0, 0, ())))) 2, g16_0 (Prod.fst (Prod.snd (Prod.snd (List.getD x0 (Int.toNat v5) (ByteArray.empty, 0, 0, 0, ()))))), g16_0 (Prod.fst (Prod.snd (Prod.snd (Prod.snd (List.getD x0 (Int.toNat v5) (ByteArray.empty, 0, 0, 0, ()))))))]]) (x0), [Decidable.decide (v5 < (↑(List.length x0) : Int)) = Bool.true, 0 ≤ v5, v5 < (↑(List.length x0) : Int), P15 (Prod.fst (Prod.snd (List.getD x0 (Int.toNat v5) (ByteArray.empty, 0, 0, 0, ())))) 2, True, True, (List.length h0 + 1) * 24 ≤ 140737488355328, InR IntKind.i64 (v5 + 1)]) := by kernel_rfl
theorem p5_3 (v5 : Int) (h0 : List (List ByteArray)) (x0 : List (ByteArray × Int × Int × Int × Unit)) : runF tab ext5 false 49 [] 2000 [] oks5 kds5 tys5 Tryd.f5.results [false] (cutAt b5 5) (E5_5 v5 h0 x0) (L5_5 v5 h0 x0) = some ([Dyn.mk (Ty.sl Ty.str) (g17_0 (g18_0 h0)), Dyn.mk (Ty.int IntKind.i64) (g17_1 (g18_0 h0))], [], [Decidable.decide (v5 < (↑(List.length x0) : Int)) = Bool.false, P18 h0, True]) := by kernel_rfl
theorem snd5 : ∀ n, (∀ (x0 : List (ByteArray × Int × Int × Int × Unit)) ds, R5 n x0 ds → ∀ K q, AtV Tryd.prog 5 (PostR kds5 oks5 ds [] [] q K) 49 K q [] [.code b5] (entE 0 0 sig5 (x0, ())) (entL sig5 (x0, ()))) ∧ (∀ (v5 : Int) (h0 : List (List ByteArray)) (x0 : List (ByteArray × Int × Int × Int × Unit)) ds, R5_5 n v5 h0 x0 ds → ∀ K q, AtV Tryd.prog 5 (PostR kds5 oks5 ds [] [] q K) 49 K q [] (cutAt b5 5) (E5_5 v5 h0 x0) (L5_5 v5 h0 x0)) := by
  intro n
  induction n with
  | zero => exact ⟨fun _ _ h => by simp only [R5] at h, fun _ _ _ _ h => by simp only [R5_5] at h⟩
  | succ n ih =>
  obtain ⟨ih, ih5⟩ := ih
  refine ⟨?_, ?_⟩
  · intro x0 ds h K q
    rw [R5] at h
    by_cases b0 : (!g14_0 x0) = true
    · rw [if_pos b0] at h
      subst h
      exact AtV.fin Tryd.func5 tabOk ext5Ok mixed (p5_0 x0) ⟨trivial, b0, trivial⟩
    · rw [if_neg b0] at h
      replace b0 := Bool.eq_false_iff.2 b0
      exact AtV.runN tabOk ext5Ok mixed (p5_1 x0) ⟨trivial, b0, trivial⟩ (ih5 _ _ _ _ h K q)

  · intro v5 h0 x0 ds h K q
    rw [R5_5] at h
    by_cases b0 : (Decidable.decide (v5 < (↑(List.length x0) : Int))) = true
    · rw [if_pos b0] at h
      obtain ⟨s0, s1, h⟩ := h
      obtain ⟨s2, h⟩ := h
      obtain ⟨s3, h⟩ := h
      obtain ⟨s4, h⟩ := h
      exact AtV.runN tabOk ext5Ok mixed (p5_2 v5 h0 x0) ⟨b0, s0, s1, s2, trivial, trivial, s3, s4, trivial⟩ (ih5 _ _ _ _ h K q)
    · rw [if_neg b0] at h
      replace b0 := Bool.eq_false_iff.2 b0
      obtain ⟨s0, h⟩ := h
      subst h
      exact AtV.fin Tryd.func5 tabOk ext5Ok mixed (p5_3 v5 h0 x0) ⟨b0, s0, trivial, trivial⟩



def hd5 : List ByteArray := [ByteArray.mk #[102, 97, 114, 101], ByteArray.mk #[112, 114, 105, 99, 101], ByteArray.mk #[114, 105, 100, 101, 115], ByteArray.mk #[100, 97, 121, 115]]
def rw5 (f : ByteArray × Int × Int × Int × Unit) : List ByteArray := [f.1, g15_0 f.2.1 2, g16_0 f.2.2.1, g16_0 f.2.2.2.1]
def P5 (x0 : List (ByteArray × Int × Int × Int × Unit)) : Prop := g14_0 x0 = true → x0.length ≤ 1000 ∧ ∀ f ∈ x0, P15 f.2.1 2 ∧ ∀ c ∈ rw5 f, c.size ≤ 4000000
def g5_0 (x0 : List (ByteArray × Int × Int × Int × Unit)) : List ByteArray := if g14_0 x0 = true then g17_0 (g18_0 (hd5 :: x0.map rw5)) else []
def g5_1 (x0 : List (ByteArray × Int × Int × Int × Unit)) : Int := if g14_0 x0 = true then g17_1 (g18_0 (hd5 :: x0.map rw5)) else 1

theorem pre5 {x0 : List (ByteArray × Int × Int × Int × Unit)} (hl : x0.length ≤ 1000) (hc : ∀ f ∈ x0, ∀ c ∈ rw5 f, c.size ≤ 4000000) : P18 (hd5 :: x0.map rw5) := by
  refine ⟨by simp only [List.length_cons, List.length_map]; omega, fun r hr => ?_⟩
  rcases List.mem_cons.1 hr with rfl | hr
  · exact ⟨by decide, by decide⟩
  · obtain ⟨f, hf, rfl⟩ := List.mem_map.1 hr
    exact ⟨by show 4 ≤ 12; decide, hc f hf⟩

theorem run5 (x0 : List (ByteArray × Int × Int × Int × Unit)) (hl : x0.length ≤ 1000) (hc : ∀ f ∈ x0, P15 f.2.1 2 ∧ ∀ c ∈ rw5 f, c.size ≤ 4000000) : ∀ (k i : Nat), i + k = x0.length →
    R5_5 (k + 1) (i : Int) (hd5 :: (x0.take i).map rw5) x0 [⟨.sl .str, g17_0 (g18_0 (hd5 :: x0.map rw5))⟩, ⟨.int .i64, g17_1 (g18_0 (hd5 :: x0.map rw5))⟩] := by
  intro k
  induction k with
  | zero =>
    intro i hi
    rw [R5_5, if_neg (by simp only [decide_eq_true_eq]; omega), List.take_of_length_le (by omega)]
    exact ⟨pre5 hl (fun f hf => (hc f hf).2), rfl⟩
  | succ k ih =>
    intro i hi
    have hlt : i < x0.length := by omega
    have h := ih (i + 1) (by omega)
    have e1 : (((i + 1 : Nat)) : Int) = (i : Int) + 1 := by omega
    rw [e1] at h
    have hm := mem_getD x0 i (ByteArray.empty, (0 : Int), (0 : Int), (0 : Int), ()) hlt
    rw [R5_5, if_pos (by simp only [decide_eq_true_eq]; omega)]
    simp only [Int.toNat_natCast]
    refine ⟨by omega, by omega, (hc _ hm).1, ?_, by rw [i64_iff]; omega, ?_⟩
    · simp only [List.length_cons, List.length_map, List.length_take]; omega
    · have e : x0.take (i + 1) = x0.take i ++ [x0.getD i (ByteArray.empty, (0 : Int), (0 : Int), (0 : Int), ())] := by
        rw [getD_lt x0 i _ hlt, List.take_append_getElem hlt]
      rw [e, List.map_append] at h
      exact h

theorem top5 (x0 : List (ByteArray × Int × Int × Int × Unit)) (h : P5 x0) : ∃ n, R5 n x0 [⟨.sl .str, g5_0 x0⟩, ⟨.int .i64, g5_1 x0⟩] := by
  unfold g5_0 g5_1
  cases hv : g14_0 x0 with
  | false =>
    refine ⟨1, ?_⟩
    rw [R5, if_pos (by rw [hv]; rfl)]
    rfl
  | true =>
    obtain ⟨hl, hc⟩ := h hv
    refine ⟨x0.length + 1 + 1, ?_⟩
    rw [R5, if_neg (by rw [hv]; simp)]
    simp only [if_true]
    exact run5 x0 hl hc x0.length 0 (by omega)

def S5 : Am.Spec := { sig := sig5, pre := fun ⟨x0, _⟩ => P5 x0, res := fun ⟨x0, _⟩ => [⟨.sl .str, g5_0 x0⟩, ⟨.int .i64, g5_1 x0⟩] }
theorem con5 : Contract Tryd.prog 5 S5 := contract_of Tryd.func5 hb5 (Nat.le_of_ble_eq_true (by kernel_rfl)) (fun ⟨x0, _⟩ h hwf K q =>
  let ⟨n, hn⟩ := top5 x0 h
  (snd5 n).1 x0 _ hn K q)

end
end Go.Proofs.YtpledggbnnjbiaaDoor

/- Function 44 (impl.IsName): its runs between cut points. Written by a program of this repo (gen). -/
set_option linter.unusedVariables false
set_option linter.unusedSimpArgs false
set_option maxRecDepth 100000
namespace Go.Proofs.YtpledggbnnjbiaaDoor
open Go Go.Am Go.Proofs
noncomputable section
def ext44 : Ext := []
theorem ext44Ok : ExtOk Tryd.prog ext44 := trivial

noncomputable def b44 : Code := bodyOf Tryd.f44
theorem hb44 : Tryd.f44.body = some b44 := by kernel_rfl
def sig44 : List AT := [AT.v (Ty.str)]
def tys44 : List Ty := [Ty.bool]
def kds44 : List RK := []
def oks44 : List AT := owns sig44
def E44_4 (v18 : Int) (x0 : ByteArray) : Env := [(16, PV.a (Atom.osl 0 Option.none)), (17, PV.a (Atom.val (Value.int IntKind.i64 (↑(List.length (bytesOf x0)) : Int)))), (18, PV.a (Atom.val (Value.int IntKind.i64 v18)))]
def L44_4 (v18 : Int) (x0 : ByteArray) : Heap := [Option.some (Arr.mk (Ty.int IntKind.u8) (bytesOf x0) Bool.false Option.none Option.none)]
mutual
def R44 : Nat → ByteArray → List Dyn → Prop
  | 0, _, _ => False
  | n + 1, x0, ds => (if (Decidable.decide ((↑(ByteArray.size x0) : Int) < 1)) = true then (ds = [Dyn.mk Ty.bool Bool.false]) else (if (Decidable.decide ((↑(ByteArray.size x0) : Int) > 10)) = true then (ds = [Dyn.mk Ty.bool Bool.false]) else (R44_4 n (0) (x0) ds)))
def R44_4 : Nat → Int → ByteArray → List Dyn → Prop
  | 0, _, _, _ => False
  | n + 1, v18, x0, ds => (if (Decidable.decide (v18 < (↑(List.length (bytesOf x0)) : Int))) = true then ((0 ≤ v18) ∧ (v18 < (↑(List.length (bytesOf x0)) : Int)) ∧ (if (Decidable.decide (List.getD (bytesOf x0) (Int.toNat v18) 0 ≥ 97)) = true then (if (Decidable.decide (List.getD (bytesOf x0) (Int.toNat v18) 0 ≥ 48)) = true then (if (!Decidable.decide (List.getD (bytesOf x0) (Int.toNat v18) 0 ≤ 122)) = true then (if (v18 == 0) = true then (ds = [Dyn.mk Ty.bool Bool.false]) else (if (!Decidable.decide (List.getD (bytesOf x0) (Int.toNat v18) 0 ≤ 57)) = true then (ds = [Dyn.mk Ty.bool Bool.false]) else ((InR IntKind.i64 (v18 + 1)) ∧ (R44_4 n (v18 + 1) (x0) ds)))) else ((InR IntKind.i64 (v18 + 1)) ∧ (R44_4 n (v18 + 1) (x0) ds))) else (if (!Decidable.decide (List.getD (bytesOf x0) (Int.toNat v18) 0 ≤ 122)) = true then (if (v18 == 0) = true then (ds = [Dyn.mk Ty.bool Bool.false]) else (ds = [Dyn.mk Ty.bool Bool.false])) else ((InR IntKind.i64 (v18 + 1)) ∧ (R44_4 n (v18 + 1) (x0) ds)))) else (if (Decidable.decide (List.getD (bytesOf x0) (Int.toNat v18) 0 ≥ 48)) = true then (if (v18 == 0) = true then (ds = [Dyn.mk Ty.bool Bool.false]) else (if (!Decidable.decide (List.getD (bytesOf x0) (Int.toNat v18) 0 ≤ 57)) = true then (ds = [Dyn.mk Ty.bool Bool.false]) else ((InR IntKind.i64 (v18 + 1)) ∧ (R44_4 n (v18 + 1) (x0) ds)))) else (if (v18 == 0) = true then (ds = [Dyn.mk Ty.bool Bool.false]) else (ds = [Dyn.mk Ty.bool Bool.false]))))) else (ds = [Dyn.mk Ty.bool Bool.true]))
end
theorem p44_0 (x0 : ByteArray) : runF tab ext44 false 46 [] 2000 [] oks44 kds44 tys44 Tryd.f44.results [true, true] [.code b44] (entE 0 0 sig44 (x0, ())) (entL sig44 (x0, ())) = some ([Dyn.mk Ty.bool Bool.false], [], [Decidable.decide ((↑(ByteArray.size x0) : Int) < 1) = Bool.true, Bool.true = Bool.true]) := by kernel_rfl
theorem p44_1 (x0 : ByteArray) : runF tab ext44 false 46 [] 2000 [] oks44 kds44 tys44 Tryd.f44.results [false, true] [.code b44] (entE 0 0 sig44 (x0, ())) (entL sig44 (x0, ())) = some ([Dyn.mk Ty.bool Bool.false], [], [Decidable.decide ((↑(ByteArray.size x0) : Int) < 1) = Bool.false, Decidable.decide ((↑(ByteArray.size x0) : Int) > 10) = Bool.true]) := by kernel_rfl
theorem p44_2 (x0 : ByteArray) : Am.runN tab ext44 false 46 [] 2000 [] [] [16, 17, 18] [0] [false, false] [.code b44] (entE 0 0 sig44 (x0, ())) (entL sig44 (x0, ())) = some (cutAt b44 4, E44_4 (0) (x0), L44_4 (0) (x0), [Decidable.decide ((↑(ByteArray.size x0) : Int) < 1) = Bool.false, Decidable.decide ((↑(ByteArray.size x0) : Int) > 10) = Bool.false]) := by kernel_rfl
theorem p44_3 (v18 : Int) (x0 : ByteArray) : runF tab ext44 false 46 [] 2000 [] oks44 kds44 tys44 Tryd.f44.results [true, true, true, true, true, true] (cutAt b44 4) (E44_4 v18 x0) (L44_4 v18 x0) = some ([Dyn.mk Ty.bool Bool.false], [], [Decidable.decide (v18 < (↑(List.length (bytesOf x0)) : Int)) = Bool.true, 0 ≤ v18, v18 < (↑(List.length (bytesOf x0)) : Int), Decidable.decide (List.getD (bytesOf x0) (Int.toNat v18) 0 ≥ 97) = Bool.true, Decidable.decide (List.getD (bytesOf x0) (Int.toNat v18) 0 ≥ 48) = Bool.true, (!Decidable.decide (List.getD (bytesOf x0) (Int.toNat v18) 0 ≤ 122)) = Bool.true, (v18 == 0) = Bool.true, Bool.true = Bool.true]) := by kernel_rfl
theorem p44_4 (v18 : Int) (x0 : ByteArray) : runF tab ext44 false 46 [] 2000 [] oks44 kds44 tys44 Tryd.f44.results [true, true, true, true, false, true] (cutAt b44 4) (E44_4 v18 x0) (L44_4 v18 x0) = some ([Dyn.mk Ty.bool Bool.false], [], [Decidable.decide (v18 < (↑(List.length (bytesOf x0)) : Int)) = Bool.true, 0 ≤ v18, v18 < (↑(List.length (bytesOf x0)) : Int), Decidable.decide (List.getD (bytesOf x0) (Int.toNat v18) 0 ≥ 97) = Bool.true, Decidable.decide (List.getD (bytesOf x0) (Int.toNat v18) 0 ≥ 48) = Bool.true, (!Decidable.decide (List.getD (bytesOf x0) (Int.toNat v18) 0 ≤ 122)) = Bool.true, (v18 == 0) = Bool.false, (!Decidable.decide (List.getD (bytesOf x0) (Int.toNat v18) 0 ≤ 57)) = Bool.true]) := by kernel_rfl
theorem p44_5 (v18 : Int) (x0 : ByteArray) : Am.runN tab ext44 false 46 [] 2000 [] [] [16, 17, 18] [0] [true, true, true, true, false, false] (cutAt b44 4) (E44_4 v18 x0) (L44_4 v18 x0) = some (cutAt b44 4, E44_4 (v18 + 1) (x0), L44_4 (v18 + 1) (x0), [Decidable.decide (v18 < (↑(List.length (bytesOf x0)) : Int)) = Bool.true, 0 ≤ v18, v18 < (↑(List.length (bytesOf x0)) : Int), Decidable.decide (List.getD (bytesOf x0) (Int.toNat v18) 0 ≥ 97) = Bool.true, Decidable.decide (List.getD (bytesOf x0) (Int.toNat v18) 0 ≥ 48) = Bool.true, (!Decidable.decide (List.getD (bytesOf x0) (Int.toNat v18) 0 ≤ 122)) = Bool.true, (v18 == 0) = Bool.false, (!Decidable.decide (List.getD (bytesOf x0) (Int.toNat v18) 0 ≤ 57)) = Bool.false, InR IntKind.i64 (v18 + 1)]) := by kernel_rfl
theorem p44_6 (v18 : Int) (x0 : ByteArray) : Am.runN tab ext44 false 46 [] 2000 [] [] [16, 17, 18] [0] [true, true, true, false, false] (cutAt b44 4) (E44_4 v18 x0) (L44_4 v18 x0) = some (cutAt b44 4, E44_4 (v18 + 1) (x0), L44_4 (v18 + 1) (x0), [Decidable.decide (v18 < (↑(List.length (bytesOf x0)) : Int)) = Bool.true, 0 ≤ v18, v18 < (↑(List.length (bytesOf x0)) : Int), Decidable.decide (List.getD (bytesOf x0) (Int.toNat v18) 0 ≥ 97) = Bool.true, Decidable.decide (List.getD (bytesOf x0) (Int.toNat v18) 0 ≥ 48) = Bool.true, (!Decidable.decide (List.getD (bytesOf x0) (Int.toNat v18) 0 ≤ 122)) = Bool.false, Bool.false = Bool.false, InR IntKind.i64 (v18 + 1)]) := by kernel_rfl
theorem p44_7 (v18 : Int) (x0 : ByteArray) : runF tab ext44 false 46 [] 2000 [] oks44 kds44 tys44 Tryd.f44.results [true, true, false, true, true, true] (cutAt b44 4) (E44_4 v18 x0) (L44_4 v18 x0) = some ([Dyn.mk Ty.bool Bool.false], [], [Decidable.decide (v18 < (↑(List.length (bytesOf x0)) : Int)) = Bool.true, 0 ≤ v18, v18 < (↑(List.length (bytesOf x0)) : Int), Decidable.decide (List.getD (bytesOf x0) (Int.toNat v18) 0 ≥ 97) = Bool.true, Decidable.decide (List.getD (bytesOf x0) (Int.toNat v18) 0 ≥ 48) = Bool.false, (!Decidable.decide (List.getD (bytesOf x0) (Int.toNat v18) 0 ≤ 122)) = Bool.true, (v18 == 0) = Bool.true, Bool.true = Bool.true]) := by kernel_rfl
theorem p44_8 (v18 : Int) (x0 : ByteArray) : runF tab ext44 false 46 [] 2000 [] oks44 kds44 tys44 Tryd.f44.results [true, true, false, true, false, true] (cutAt b44 4) (E44_4 v18 x0) (L44_4 v18 x0) = some ([Dyn.mk Ty.bool Bool.false], [], [Decidable.decide (v18 < (↑(List.length (bytesOf x0)) : Int)) = Bool.true, 0 ≤ v18, v18 < (↑(List.length (bytesOf x0)) : Int), Decidable.decide (List.getD (bytesOf x0) (Int.toNat v18) 0 ≥ 97) = Bool.true, Decidable.decide (List.getD (bytesOf x0) (Int.toNat v18) 0 ≥ 48) = Bool.false, (!Decidable.decide (List.getD (bytesOf x0) (Int.toNat v18) 0 ≤ 122)) = Bool.true, (v18 == 0) = Bool.false, Bool.true = Bool.true]) := by kernel_rfl
theorem p44_9 (v18 : Int) (x0 : ByteArray) : Am.runN tab ext44 false 46 [] 2000 [] [] [16, 17, 18] [0] [true, true, false, false, false] (cutAt b44 4) (E44_4 v18 x0) (L44_4 v18 x0) = some (cutAt b44 4, E44_4 (v18 + 1) (x0), L44_4 (v18 + 1) (x0), [Decidable.decide (v18 < (↑(List.length (bytesOf x0)) : Int)) = Bool.true, 0 ≤ v18, v18 < (↑(List.length (bytesOf x0)) : Int), Decidable.decide (List.getD (bytesOf x0) (Int.toNat v18) 0 ≥ 97) = Bool.true, Decidable.decide (List.getD (bytesOf x0) (Int.toNat v18) 0 ≥ 48) = Bool.false, (!Decidable.decide (List.getD (bytesOf x0) (Int.toNat v18) 0 ≤ 122)) = Bool.false, Bool.false = Bool.false, InR IntKind.i64 (v18 + 1)]) := by kernel_rfl
theorem p44_10 (v18 : Int) (x0 : ByteArray) : runF tab ext44 false 46 [] 2000 [] oks44 kds44 tys44 Tryd.f44.results [true, false, true, true, true, true] (cutAt b44 4) (E44_4 v18 x0) (L44_4 v18 x0) = some ([Dyn.mk Ty.bool Bool.false], [], [Decidable.decide (v18 < (↑(List.length (bytesOf x0)) : Int)) = Bool.true, 0 ≤ v18, v18 < (↑(List.length (bytesOf x0)) : Int), Decidable.decide (List.getD (bytesOf x0) (Int.toNat v18) 0 ≥ 97) = Bool.false, Decidable.decide (List.getD (bytesOf x0) (Int.toNat v18) 0 ≥ 48) = Bool.true, Bool.true = Bool.true, (v18 == 0) = Bool.true, Bool.true = Bool.true]) := by kernel_rfl
theorem p44_11 (v18 : Int) (x0 : ByteArray) : runF tab ext44 false 46 [] 2000 [] oks44 kds44 tys44 Tryd.f44.results [true, false, true, true, false, true] (cutAt b44 4) (E44_4 v18 x0) (L44_4 v18 x0) = some ([Dyn.mk Ty.bool Bool.false], [], [Decidable.decide (v18 < (↑(List.length (bytesOf x0)) : Int)) = Bool.true, 0 ≤ v18, v18 < (↑(List.length (bytesOf x0)) : Int), Decidable.decide (List.getD (bytesOf x0) (Int.toNat v18) 0 ≥ 97) = Bool.false, Decidable.decide (List.getD (bytesOf x0) (Int.toNat v18) 0 ≥ 48) = Bool.true, Bool.true = Bool.true, (v18 == 0) = Bool.false, (!Decidable.decide (List.getD (bytesOf x0) (Int.toNat v18) 0 ≤ 57)) = Bool.true]) := by kernel_rfl
theorem p44_12 (v18 : Int) (x0 : ByteArray) : Am.runN tab ext44 false 46 [] 2000 [] [] [16, 17, 18] [0] [true, false, true, true, false, false] (cutAt b44 4) (E44_4 v18 x0) (L44_4 v18 x0) = some (cutAt b44 4, E44_4 (v18 + 1) (x0), L44_4 (v18 + 1) (x0), [Decidable.decide (v18 < (↑(List.length (bytesOf x0)) : Int)) = Bool.true, 0 ≤ v18, v18 < (↑(List.length (bytesOf x0)) : Int), Decidable.decide (List.getD (bytesOf x0) (Int.toNat v18) 0 ≥ 97) = Bool.false, Decidable.decide (List.getD (bytesOf x0) (Int.toNat v18) 0 ≥ 48) = Bool.true, Bool.true = Bool.true, (v18 == 0) = Bool.false, (!Decidable.decide (List.getD (bytesOf x0) (Int.toNat v18) 0 ≤ 57)) = Bool.false, InR IntKind.i64 (v18 + 1)]) := by kernel_rfl
theorem p44_13 (v18 : Int) (x0 : ByteArray) : runF tab ext44 false 46 [] 2000 [] oks44 kds44 tys44 Tryd.f44.results [true, false, false, true, true, true] (cutAt b44 4) (E44_4 v18 x0) (L44_4 v18 x0) = some ([Dyn.mk Ty.bool Bool.false], [], [Decidable.decide (v18 < (↑(List.length (bytesOf x0)) : Int)) = Bool.true, 0 ≤ v18, v18 < (↑(List.length (bytesOf x0)) : Int), Decidable.decide (List.getD (bytesOf x0) (Int.toNat v18) 0 ≥ 97) = Bool.false, Decidable.decide (List.getD (bytesOf x0) (Int.toNat v18) 0 ≥ 48) = Bool.false, Bool.true = Bool.true, (v18 == 0) = Bool.true, Bool.true = Bool.true]) := by kernel_rfl
theorem p44_14 (v18 : Int) (x0 : ByteArray) : runF tab ext44 false 46 [] 2000 [] oks44 kds44 tys44 Tryd.f44.results [true, false, false, true, false, true] (cutAt b44 4) (E44_4 v18 x0) (L44_4 v18 x0) = some ([Dyn.mk Ty.bool Bool.false], [], [Decidable.decide (v18 < (↑(List.length (bytesOf x0)) : Int)) = Bool.true, 0 ≤ v18, v18 < (↑(List.length (bytesOf x0)) : Int), Decidable.decide (List.getD (bytesOf x0) (Int.toNat v18) 0 ≥ 97) = Bool.false, Decidable.decide (List.getD (bytesOf x0) (Int.toNat v18) 0 ≥ 48) = Bool.false, Bool.true = Bool.true, (v18 == 0) = Bool.false, Bool.true = Bool.true]) := by kernel_rfl
theorem p44_15 (v18 : Int) (x0 : ByteArray) : runF tab ext44 false 46 [] 2000 [] oks44 kds44 tys44 Tryd.f44.results [false] (cutAt b44 4) (E44_4 v18 x0) (L44_4 v18 x0) = some ([Dyn.mk Ty.bool Bool.true], [], [Decidable.decide (v18 < (↑(List.length (bytesOf x0)) : Int)) = Bool.false]) := by kernel_rfl
theorem snd44 : ∀ n, (∀ (x0 : ByteArray) ds, R44 n x0 ds → ∀ K q, AtV Tryd.prog 44 (PostR kds44 oks44 ds [] [] q K) 46 K q [] [.code b44] (entE 0 0 sig44 (x0, ())) (entL sig44 (x0, ()))) ∧ (∀ (v18 : Int) (x0 : ByteArray) ds, R44_4 n v18 x0 ds → ∀ K q, AtV Tryd.prog 44 (PostR kds44 oks44 ds [] [] q K) 46 K q [] (cutAt b44 4) (E44_4 v18 x0) (L44_4 v18 x0)) := by
  intro n
  induction n with
  | zero => exact ⟨fun _ _ h => by simp only [R44] at h, fun _ _ _ h => by simp only [R44_4] at h⟩
  | succ n ih =>
  obtain ⟨ih, ih4⟩ := ih
  refine ⟨?_, ?_⟩
  · intro x0 ds h K q
    rw [R44] at h
    by_cases b0 : (Decidable.decide ((↑(ByteArray.size x0) : Int) < 1)) = true
    · rw [if_pos b0] at h
      subst h
      exact AtV.fin Tryd.func44 tabOk ext44Ok mixed (p44_0 x0) ⟨b0, rfl, trivial⟩
    · rw [if_neg b0] at h
      replace b0 := Bool.eq_false_iff.2 b0
      by_cases b1 : (Decidable.decide ((↑(ByteArray.size x0) : Int) > 10)) = true
      · rw [if_pos b1] at h
        subst h
        exact AtV.fin Tryd.func44 tabOk ext44Ok mixed (p44_1 x0) ⟨b0, b1, trivial⟩
      · rw [if_neg b1] at h
        replace b1 := Bool.eq_false_iff.2 b1
        exact AtV.runN tabOk ext44Ok mixed (p44_2 x0) ⟨b0, b1, trivial⟩ (ih4 _ _ _ h K q)

  · intro v18 x0 ds h K q
    rw [R44_4] at h
    by_cases b0 : (Decidable.decide (v18 < (↑(List.length (bytesOf x0)) : Int))) = true
    · rw [if_pos b0] at h
      obtain ⟨s0, s1, h⟩ := h
      by_cases b1 : (Decidable.decide (List.getD (bytesOf x0) (Int.toNat v18) 0 ≥ 97)) = true
      · rw [if_pos b1] at h
        by_cases b2 : (Decidable.decide (List.getD (bytesOf x0) (Int.toNat v18) 0 ≥ 48)) = true
        · rw [if_pos b2] at h
          by_cases b3 : (!Decidable.decide (List.getD (bytesOf x0) (Int.toNat v18) 0 ≤ 122)) = true
          · rw [if_pos b3] at h
            by_cases b4 : (v18 == 0) = true
            · rw [if_pos b4] at h
              subst h
              exact AtV.fin Tryd.func44 tabOk ext44Ok mixed (p44_3 v18 x0) ⟨b0, s0, s1, b1, b2, b3, b4, rfl, trivial⟩
            · rw [if_neg b4] at h
              replace b4 := Bool.eq_false_iff.2 b4
              by_cases b5 : (!Decidable.decide (List.getD (bytesOf x0) (Int.toNat v18) 0 ≤ 57)) = true
              · rw [if_pos b5] at h
                subst h
                exact AtV.fin Tryd.func44 tabOk ext44Ok mixed (p44_4 v18 x0) ⟨b0, s0, s1, b1, b2, b3, b4, b5, trivial⟩
              · rw [if_neg b5] at h
                replace b5 := Bool.eq_false_iff.2 b5
                obtain ⟨s2, h⟩ := h
                exact AtV.runN tabOk ext44Ok mixed (p44_5 v18 x0) ⟨b0, s0, s1, b1, b2, b3, b4, b5, s2, trivial⟩ (ih4 _ _ _ h K q)
          · rw [if_neg b3] at h
            replace b3 := Bool.eq_false_iff.2 b3
            obtain ⟨s2, h⟩ := h
            exact AtV.runN tabOk ext44Ok mixed (p44_6 v18 x0) ⟨b0, s0, s1, b1, b2, b3, rfl, s2, trivial⟩ (ih4 _ _ _ h K q)
        · rw [if_neg b2] at h
          replace b2 := Bool.eq_false_iff.2 b2
          by_cases b3 : (!Decidable.decide (List.getD (bytesOf x0) (Int.toNat v18) 0 ≤ 122)) = true
          · rw [if_pos b3] at h
            by_cases b4 : (v18 == 0) = true
            · rw [if_pos b4] at h
              subst h
              exact AtV.fin Tryd.func44 tabOk ext44Ok mixed (p44_7 v18 x0) ⟨b0, s0, s1, b1, b2, b3, b4, rfl, trivial⟩
            · rw [if_neg b4] at h
              replace b4 := Bool.eq_false_iff.2 b4
              subst h
              exact AtV.fin Tryd.func44 tabOk ext44Ok mixed (p44_8 v18 x0) ⟨b0, s0, s1, b1, b2, b3, b4, rfl, trivial⟩
          · rw [if_neg b3] at h
            replace b3 := Bool.eq_false_iff.2 b3
            obtain ⟨s2, h⟩ := h
            exact AtV.runN tabOk ext44Ok mixed (p44_9 v18 x0) ⟨b0, s0, s1, b1, b2, b3, rfl, s2, trivial⟩ (ih4 _ _ _ h K q)
      · rw [if_neg b1] at h
        replace b1 := Bool.eq_false_iff.2 b1
        by_cases b2 : (Decidable.decide (List.getD (bytesOf x0) (Int.toNat v18) 0 ≥ 48)) = true
        · rw [if_pos b2] at h
          by_cases b3 : (v18 == 0) = true
          · rw [if_pos b3] at h
            subst h
            exact AtV.fin Tryd.func44 tabOk ext44Ok mixed (p44_10 v18 x0) ⟨b0, s0, s1, b1, b2, rfl, b3, rfl, trivial⟩
          · rw [if_neg b3] at h
            replace b3 := Bool.eq_false_iff.2 b3
            by_cases b4 : (!Decidable.decide (List.getD (bytesOf x0) (Int.toNat v18) 0 ≤ 57)) = true
            · rw [if_pos b4] at h
              subst h
              exact AtV.fin Tryd.func44 tabOk ext44Ok mixed (p44_11 v18 x0) ⟨b0, s0, s1, b1, b2, rfl, b3, b4, trivial⟩
            · rw [if_neg b4] at h
              replace b4 := Bool.eq_false_iff.2 b4
              obtain ⟨s2, h⟩ := h
              exact AtV.runN tabOk ext44Ok mixed (p44_12 v18 x0) ⟨b0, s0, s1, b1, b2, rfl, b3, b4, s2, trivial⟩ (ih4 _ _ _ h K q)
        · rw [if_neg b2] at h
          replace b2 := Bool.eq_false_iff.2 b2
          by_cases b3 : (v18 == 0) = true
          · rw [if_pos b3] at h
            subst h
            exact AtV.fin Tryd.func44 tabOk ext44Ok mixed (p44_13 v18 x0) ⟨b0, s0, s1, b1, b2, rfl, b3, rfl, trivial⟩
          · rw [if_neg b3] at h
            replace b3 := Bool.eq_false_iff.2 b3
            subst h
            exact AtV.fin Tryd.func44 tabOk ext44Ok mixed (p44_14 v18 x0) ⟨b0, s0, s1, b1, b2, rfl, b3, rfl, trivial⟩
    · rw [if_neg b0] at h
      replace b0 := Bool.eq_false_iff.2 b0
      subst h
      exact AtV.fin Tryd.func44 tabOk ext44Ok mixed (p44_15 v18 x0) ⟨b0, trivial⟩



def ok44 (i : Nat) (b : Int) : Bool := (decide (97 ≤ b) && decide (b ≤ 122)) || (!(i == 0) && (decide (48 ≤ b) && decide (b ≤ 57)))
def g44_0 (x0 : ByteArray) : Bool := decide (1 ≤ x0.size) && decide (x0.size ≤ 10) && allI ok44 0 (bytesOf x0)
def P44 (x0 : ByteArray) : Prop := True

theorem step44 (n i : Nat) (x0 : ByteArray) (hw : Wf .str x0) (hi : i < (bytesOf x0).length) (ds : List Dyn) :
    R44_4 (n + 1) (i : Int) x0 ds ↔ (if ok44 i ((bytesOf x0).getD i 0) = true then R44_4 n ((i : Int) + 1) x0 ds else ds = [⟨.bool, false⟩]) := by
  have hu := inR_up (xs := bytesOf x0) (by rw [bytesOf_length]; exact hw) hi
  rw [R44_4, if_pos (by simp; omega)]
  simp only [Int.toNat_natCast]
  have hb : (0 : Int) ≤ (i : Int) ∧ (i : Int) < ((bytesOf x0).length : Int) := by omega
  have hz : ((i : Int) == 0) = (i == 0) := by
    cases i with
    | zero => rfl
    | succ k => simp; omega
  simp only [hz, ok44, hu, true_and, hb.1, hb.2, ge_iff_le]
  by_cases h1 : (97 : Int) ≤ (bytesOf x0).getD i 0 <;> by_cases h2 : (bytesOf x0).getD i 0 ≤ 122 <;> by_cases h3 : (48 : Int) ≤ (bytesOf x0).getD i 0 <;> by_cases h4 : (bytesOf x0).getD i 0 ≤ 57 <;> rcases Bool.eq_false_or_eq_true (i == 0) with e0 | e0 <;> first | (exfalso; omega) | simp only [h1, h2, h3, h4, e0, decide_true, decide_false, Bool.not_true, Bool.not_false, Bool.true_and, Bool.false_and, Bool.and_true, Bool.and_false, Bool.true_or, Bool.or_true, Bool.or_false, Bool.false_or, if_true, if_false, Bool.false_eq_true]

theorem top44 (x0 : ByteArray) (hw : Wf .str x0) : R44 (x0.size + 1 + 1) x0 [⟨.bool, g44_0 x0⟩] := by
  have hl := bytesOf_length x0
  rw [R44]
  by_cases h0 : (x0.size : Int) < 1
  · rw [if_pos (by simpa using h0)]
    have : ¬ 1 ≤ x0.size := by omega
    simp [g44_0, this]
  · rw [if_neg (by simpa using h0)]
    by_cases h1 : (x0.size : Int) > 10
    · rw [if_pos (by simpa using h1)]
      have : ¬ x0.size ≤ 10 := by omega
      simp [g44_0, this]
    · rw [if_neg (by simpa using h1)]
      have key := loop_testI (bytesOf x0) 0 ok44 [(⟨.bool, false⟩ : Dyn)] [⟨.bool, true⟩] (fun n i ds => R44_4 n i x0 ds) (fun n => ?_) (fun n i hi hok ds hr => ?_) (fun n i hi hok => ?_)
      · rw [hl] at key
        have e : g44_0 x0 = allI ok44 0 (bytesOf x0) := by
          have a : 1 ≤ x0.size := by omega
          have b : x0.size ≤ 10 := by omega
          simp [g44_0, a, b]
        rw [e]
        cases h : allI ok44 0 (bytesOf x0) with
        | true => rw [if_pos h] at key; exact key
        | false => rw [if_neg (by rw [h]; simp)] at key; exact key
      · show R44_4 (n + 1) ((bytesOf x0).length : Int) x0 _
        rw [R44_4, if_neg (by simp)]
      · exact (step44 n i x0 hw hi ds).2 (by rw [if_pos hok]; exact hr)
      · exact (step44 n i x0 hw hi _).2 (by rw [if_neg (by rw [hok]; simp)])

def S44 : Am.Spec := { sig := sig44, pre := fun ⟨x0, _⟩ => P44 x0, res := fun ⟨x0, _⟩ => [⟨Ty.bool, g44_0 x0⟩] }
theorem con44 : Contract Tryd.prog 44 S44 := contract_of Tryd.func44 hb44 (Nat.le_of_ble_eq_true (by kernel_rfl)) (fun ⟨x0, _⟩ h hwf K q =>
  (snd44 _).1 x0 _ (top44 x0 hwf.1) K q)

end
end Go.Proofs.YtpledggbnnjbiaaDoor

/- Function 30 (impl.within): its runs between cut points. Written by a program of this repo (gen). -/
set_option linter.unusedVariables false
set_option linter.unusedSimpArgs false
set_option maxRecDepth 100000
namespace Go.Proofs.YtpledggbnnjbiaaDoor
open Go Go.Am Go.Proofs
noncomputable section
def ext30 : Ext := []
theorem ext30Ok : ExtOk Tryd.prog ext30 := trivial

noncomputable def b30 : Code := bodyOf Tryd.f30
theorem hb30 : Tryd.f30.body = some b30 := by kernel_rfl
def sig30 : List AT := [AT.v (Ty.int IntKind.i64), AT.v (Ty.int IntKind.i64), AT.v (Ty.int IntKind.i64)]
def tys30 : List Ty := [Ty.bool]
def kds30 : List RK := []
def oks30 : List AT := owns sig30
def P30 (x0 : Int) (x1 : Int) (x2 : Int) : Prop := True
def g30_0 (x0 : Int) (x1 : Int) (x2 : Int) : Bool := (if (Decidable.decide (x0 ≥ x1)) = true then Decidable.decide (x0 ≤ x2) else Bool.false)
theorem p30_0 (x0 : Int) (x1 : Int) (x2 : Int) : runF tab ext30 false 15 [] 2000 [] oks30 kds30 tys30 Tryd.f30.results [true] [.code b30] (entE 0 0 sig30 (x0, x1, x2, ())) (entL sig30 (x0, x1, x2, ())) = some ([Dyn.mk Ty.bool (Decidable.decide (x0 ≤ x2))], [], [Decidable.decide (x0 ≥ x1) = Bool.true]) := by kernel_rfl
theorem p30_1 (x0 : Int) (x1 : Int) (x2 : Int) : runF tab ext30 false 15 [] 2000 [] oks30 kds30 tys30 Tryd.f30.results [false] [.code b30] (entE 0 0 sig30 (x0, x1, x2, ())) (entL sig30 (x0, x1, x2, ())) = some ([Dyn.mk Ty.bool Bool.false], [], [Decidable.decide (x0 ≥ x1) = Bool.false]) := by kernel_rfl
theorem at30 (x0 : Int) (x1 : Int) (x2 : Int) (h : P30 x0 x1 x2) (K : Ctx) (q : Nat → Value) : AtV Tryd.prog 30 (PostR kds30 oks30 [⟨Ty.bool, g30_0 x0 x1 x2⟩] [] [] q K) 15 K q [] [.code b30] (entE 0 0 sig30 (x0, x1, x2, ())) (entL sig30 (x0, x1, x2, ())) := by
  unfold P30 at h
  unfold g30_0
  by_cases b0 : (Decidable.decide (x0 ≥ x1)) = true
  · try simp only [if_pos b0] at h ⊢
    exact AtV.fin Tryd.func30 tabOk ext30Ok mixed (p30_0 x0 x1 x2) ⟨b0, trivial⟩
  · try simp only [if_neg b0] at h ⊢
    replace b0 := Bool.eq_false_iff.2 b0
    exact AtV.fin Tryd.func30 tabOk ext30Ok mixed (p30_1 x0 x1 x2) ⟨b0, trivial⟩

def S30 : Am.Spec := { sig := sig30, pre := fun ⟨x0, x1, x2, _⟩ => P30 x0 x1 x2, res := fun ⟨x0, x1, x2, _⟩ => [⟨Ty.bool, g30_0 x0 x1 x2⟩], kds := kds30 }
theorem con30 : Contract Tryd.prog 30 S30 := contract_of Tryd.func30 hb30 (Nat.le_of_ble_eq_true (by kernel_rfl)) (fun ⟨x0, x1, x2, _⟩ h _ K q => at30 x0 x1 x2 h K q)


end
end Go.Proofs.YtpledggbnnjbiaaDoor

/- Function 29 (impl.validFare): its runs between cut points. Written by a program of this repo (gen). -/
set_option linter.unusedVariables false
set_option linter.unusedSimpArgs false
set_option maxRecDepth 100000
namespace Go.Proofs.YtpledggbnnjbiaaDoor
open Go Go.Am Go.Proofs
noncomputable section
def ext29 : Ext := [(44, S44), (30, S30)]
theorem call29_44 : Callable Tryd.prog 44 := ⟨Tryd.f44, Tryd.func44, by kernel_rfl, by kernel_rfl⟩
theorem call29_30 : Callable Tryd.prog 30 := ⟨Tryd.f30, Tryd.func30, by kernel_rfl, by kernel_rfl⟩
theorem ext29Ok : ExtOk Tryd.prog ext29 := ⟨⟨call29_44, con44⟩, ⟨call29_30, con30⟩, trivial⟩

noncomputable def b29 : Code := bodyOf Tryd.f29
theorem hb29 : Tryd.f29.body = some b29 := by kernel_rfl
def sig29 : List AT := [AT.v (Ty.cons Ty.str (Ty.cons (Ty.int IntKind.i64) (Ty.cons (Ty.int IntKind.i64) (Ty.cons (Ty.int IntKind.i64) Ty.unit))))]
def tys29 : List Ty := [Ty.bool]
def kds29 : List RK := []
def oks29 : List AT := owns sig29
def P29 (x0 : ByteArray × Int × Int × Int × Unit) : Prop := True
def g29_0 (x0 : ByteArray × Int × Int × Int × Unit) : Bool := (if (g44_0 (Prod.fst x0)) = true then (if (g30_0 (Prod.fst (Prod.snd x0)) 0 100000) = true then (if (g30_0 (Prod.fst (Prod.snd (Prod.snd x0))) 1 1000) = true then g30_0 (Prod.fst (Prod.snd (Prod.snd (Prod.snd x0)))) 1 400 else Bool.false) else Bool.false) else Bool.false)
theorem p29_0 (x0 : ByteArray × Int × Int × Int × Unit) : runF tab ext29 false 21 [] 2000 [] oks29 kds29 tys29 Tryd.f29.results [true, true, true] [.code b29] (entE 0 0 sig29 (x0, ())) (entL sig29 (x0, ())) = some ([Dyn.mk Ty.bool (g30_0 (Prod.fst (Prod.snd (Prod.snd (Prod.snd x0)))) 1 400)], [], [True, g44_0 (Prod.fst x0) = Bool.true, True, g30_0 (Prod.fst (Prod.snd x0)) 0 100000 = Bool.true, True, g30_0 (Prod.fst (Prod.snd (Prod.snd x0))) 1 1000 = Bool.true, True]) := by kernel_rfl
theorem p29_1 (x0 : ByteArray × Int × Int × Int × Unit) : runF tab ext29 false 21 [] 2000 [] oks29 kds29 tys29 Tryd.f29.results [true, true, false] [.code b29] (entE 0 0 sig29 (x0, ())) (entL sig29 (x0, ())) = some ([Dyn.mk Ty.bool Bool.false], [], [True, g44_0 (Prod.fst x0) = Bool.true, True, g30_0 (Prod.fst (Prod.snd x0)) 0 100000 = Bool.true, True, g30_0 (Prod.fst (Prod.snd (Prod.snd x0))) 1 1000 = Bool.false]) := by kernel_rfl
theorem p29_2 (x0 : ByteArray × Int × Int × Int × Unit) : runF tab ext29 false 21 [] 2000 [] oks29 kds29 tys29 Tryd.f29.results [true, false, false] [.code b29] (entE 0 0 sig29 (x0, ())) (entL sig29 (x0, ())) = some ([Dyn.mk Ty.bool Bool.false], [], [True, g44_0 (Prod.fst x0) = Bool.true, True, g30_0 (Prod.fst (Prod.snd x0)) 0 100000 = Bool.false, Bool.false = Bool.false]) := by kernel_rfl
theorem p29_3 (x0 : ByteArray × Int × Int × Int × Unit) : runF tab ext29 false 21 [] 2000 [] oks29 kds29 tys29 Tryd.f29.results [false, false, false] [.code b29] (entE 0 0 sig29 (x0, ())) (entL sig29 (x0, ())) = some ([Dyn.mk Ty.bool Bool.false], [], [True, g44_0 (Prod.fst x0) = Bool.false, Bool.false = Bool.false, Bool.false = Bool.false]) := by kernel_rfl
theorem at29 (x0 : ByteArray × Int × Int × Int × Unit) (h : P29 x0) (K : Ctx) (q : Nat → Value) : AtV Tryd.prog 29 (PostR kds29 oks29 [⟨Ty.bool, g29_0 x0⟩] [] [] q K) 21 K q [] [.code b29] (entE 0 0 sig29 (x0, ())) (entL sig29 (x0, ())) := by
  unfold P29 at h
  unfold g29_0
  by_cases b0 : (g44_0 (Prod.fst x0)) = true
  · try simp only [if_pos b0] at h ⊢
    by_cases b1 : (g30_0 (Prod.fst (Prod.snd x0)) 0 100000) = true
    · try simp only [if_pos b1] at h ⊢
      by_cases b2 : (g30_0 (Prod.fst (Prod.snd (Prod.snd x0))) 1 1000) = true
      · try simp only [if_pos b2] at h ⊢
        exact AtV.fin Tryd.func29 tabOk ext29Ok mixed (p29_0 x0) ⟨trivial, b0, trivial, b1, trivial, b2, trivial, trivial⟩
      · try simp only [if_neg b2] at h ⊢
        replace b2 := Bool.eq_false_iff.2 b2
        exact AtV.fin Tryd.func29 tabOk ext29Ok mixed (p29_1 x0) ⟨trivial, b0, trivial, b1, trivial, b2, trivial⟩
    · try simp only [if_neg b1] at h ⊢
      replace b1 := Bool.eq_false_iff.2 b1
      exact AtV.fin Tryd.func29 tabOk ext29Ok mixed (p29_2 x0) ⟨trivial, b0, trivial, b1, rfl, trivial⟩
  · try simp only [if_neg b0] at h ⊢
    replace b0 := Bool.eq_false_iff.2 b0
    exact AtV.fin Tryd.func29 tabOk ext29Ok mixed (p29_3 x0) ⟨trivial, b0, rfl, rfl, trivial⟩

def S29 : Am.Spec := { sig := sig29, pre := fun ⟨x0, _⟩ => P29 x0, res := fun ⟨x0, _⟩ => [⟨Ty.bool, g29_0 x0⟩], kds := kds29 }
theorem con29 : Contract Tryd.prog 29 S29 := contract_of Tryd.func29 hb29 (Nat.le_of_ble_eq_true (by kernel_rfl)) (fun ⟨x0, _⟩ h _ K q => at29 x0 h K q)


end
end Go.Proofs.YtpledggbnnjbiaaDoor

/- Function 20 (impl.ValidFares): its runs between cut points. Written by a program of this repo (gen). -/
set_option linter.unusedVariables false
set_option linter.unusedSimpArgs false
set_option maxRecDepth 100000
namespace Go.Proofs.YtpledggbnnjbiaaDoor
open Go Go.Am Go.Proofs
noncomputable section
def ext20 : Ext := [(29, S29)]
theorem call20_29 : Callable Tryd.prog 29 := ⟨Tryd.f29, Tryd.func29, by kernel_rfl, by kernel_rfl⟩
theorem ext20Ok : ExtOk Tryd.prog ext20 := ⟨⟨call20_29, con29⟩, trivial⟩

noncomputable def b20 : Code := bodyOf Tryd.f20
theorem hb20 : Tryd.f20.body = some b20 := by kernel_rfl
def sig20 : List AT := [AT.v (Ty.sl (Ty.cons Ty.str (Ty.cons (Ty.int IntKind.i64) (Ty.cons (Ty.int IntKind.i64) (Ty.cons (Ty.int IntKind.i64) Ty.unit)))))]
def tys20 : List Ty := [Ty.bool]
def kds20 : List RK := []
def oks20 : List AT := owns sig20
def E20_2 (v7 : Int) (x0 : List (ByteArray × Int × Int × Int × Unit)) : Env := [(0, PV.a (Atom.sl (Ty.cons Ty.str (Ty.cons (Ty.int IntKind.i64) (Ty.cons (Ty.int IntKind.i64) (Ty.cons (Ty.int IntKind.i64) Ty.unit)))) x0)), (5, PV.a (Atom.sl (Ty.cons Ty.str (Ty.cons (Ty.int IntKind.i64) (Ty.cons (Ty.int IntKind.i64) (Ty.cons (Ty.int IntKind.i64) Ty.unit)))) x0)), (6, PV.a (Atom.val (Value.int IntKind.i64 (↑(List.length x0) : Int)))), (7, PV.a (Atom.val (Value.int IntKind.i64 v7)))]
def L20_2 (v7 : Int) (x0 : List (ByteArray × Int × Int × Int × Unit)) : Heap := []
mutual
def R20 : Nat → List (ByteArray × Int × Int × Int × Unit) → List Dyn → Prop
  | 0, _, _ => False
  | n + 1, x0, ds => (R20_2 n (0) (x0) ds)
def R20_2 : Nat → Int → List (ByteArray × Int × Int × Int × Unit) → List Dyn → Prop
  | 0, _, _, _ => False
  | n + 1, v7, x0, ds => (if (Decidable.decide (v7 < (↑(List.length x0) : Int))) = true then ((0 ≤ v7) ∧ (v7 < (↑(List.length x0) : Int)) ∧ (if (!g29_0 (List.getD x0 (Int.toNat v7) (ByteArray.empty, 0, 0, 0, ()))) = true then (ds = [Dyn.mk Ty.bool Bool.false]) else (if (Decidable.decide (v7 > 0)) = true then ((InR IntKind.i64 (v7 - 1)) ∧ ((0 ≤ v7 - 1) ∧ (v7 - 1 < (↑(List.length x0) : Int)) ∧ (if (Op.bytesLess (ByteArray.toList (Prod.fst (List.getD x0 (Int.toNat v7) (ByteArray.empty, 0, 0, 0, ())))) (ByteArray.toList (Prod.fst (List.getD x0 (Int.toNat (v7 - 1)) (ByteArray.empty, 0, 0, 0, ())))) || ByteArray.toList (Prod.fst (List.getD x0 (Int.toNat v7) (ByteArray.empty, 0, 0, 0, ()))) == ByteArray.toList (Prod.fst (List.getD x0 (Int.toNat (v7 - 1)) (ByteArray.empty, 0, 0, 0, ())))) = true then (ds = [Dyn.mk Ty.bool Bool.false]) else ((InR IntKind.i64 (v7 + 1)) ∧ (R20_2 n (v7 + 1) (x0) ds))))) else ((InR IntKind.i64 (v7 + 1)) ∧ (R20_2 n (v7 + 1) (x0) ds))))) else (ds = [Dyn.mk Ty.bool (Decidable.decide ((↑(List.length x0) : Int) ≤ 8))]))
end
theorem p20_0 (x0 : List (ByteArray × Int × Int × Int × Unit)) : Am.runN tab ext20 false 34 [] 2000 [] [] [0, 5, 6, 7] [] [] [.code b20] (entE 0 0 sig20 (x0, ())) (entL sig20 (x0, ())) = some (cutAt b20 2, E20_2 (0) (x0), L20_2 (0) (x0), []) := by kernel_rfl
theorem p20_1 (v7 : Int) (x0 : List (ByteArray × Int × Int × Int × Unit)) : runF tab ext20 false 34 [] 2000 [] oks20 kds20 tys20 Tryd.f20.results [true, true, true] (cutAt b20 2) (E20_2 v7 x0) (L20_2 v7 x0) = some ([Dyn.mk Ty.bool Bool.false], [], [Decidable.decide (v7 < (↑(List.length x0) : Int)) = Bool.true, 0 ≤ v7, v7 < (↑(List.length x0) : Int), True, (!g29_0 (List.getD x0 (Int.toNat v7) (ByteArray.empty, 0, 0, 0, ()))) = Bool.true, Bool.true = Bool.true]) := by kernel_rfl
theorem p20_2 (v7 : Int) (x0 : List (ByteArray × Int × Int × Int × Unit)) : runF tab ext20 false 34 [] 2000 [] oks20 kds20 tys20 Tryd.f20.results [true, false, true, true] (cutAt b20 2) (E20_2 v7 x0) (L20_2 v7 x0) = some ([Dyn.mk Ty.bool Bool.false], [], [Decidable.decide (v7 < (↑(List.length x0) : Int)) = Bool.true, 0 ≤ v7, v7 < (↑(List.length x0) : Int), True, (!g29_0 (List.getD x0 (Int.toNat v7) (ByteArray.empty, 0, 0, 0, ()))) = Bool.false, Decidable.decide (v7 > 0) = Bool.true, InR IntKind.i64 (v7 - 1), 0 ≤ v7 - 1, v7 - 1 < (↑(List.length x0) : Int), (Op.bytesLess (ByteArray.toList (Prod.fst (List.getD x0 (Int.toNat v7) (ByteArray.empty, 0, 0, 0, ())))) (ByteArray.toList (Prod.fst (List.getD x0 (Int.toNat (v7 - 1)) (ByteArray.empty, 0, 0, 0, ())))) || ByteArray.toList (Prod.fst (List.getD x0 (Int.toNat v7) (ByteArray.empty, 0, 0, 0, ()))) == ByteArray.toList (Prod.fst (List.getD x0 (Int.toNat (v7 - 1)) (ByteArray.empty, 0, 0, 0, ())))) = Bool.true]) := by kernel_rfl
theorem p20_3 (v7 : Int) (x0 : List (ByteArray × Int × Int × Int × Unit)) : Am.runN tab ext20 false 34 [] 2000 [] [] [0, 5, 6, 7] [] [true, false, true, false] (cutAt b20 2) (E20_2 v7 x0) (L20_2 v7 x0) = some (cutAt b20 2, E20_2 (v7 + 1) (x0), L20_2 (v7 + 1) (x0), [Decidable.decide (v7 < (↑(List.length x0) : Int)) = Bool.true, 0 ≤ v7, v7 < (↑(List.length x0) : Int), True, (!g29_0 (List.getD x0 (Int.toNat v7) (ByteArray.empty, 0, 0, 0, ()))) = Bool.false, Decidable.decide (v7 > 0) = Bool.true, InR IntKind.i64 (v7 - 1), 0 ≤ v7 - 1, v7 - 1 < (↑(List.length x0) : Int), (Op.bytesLess (ByteArray.toList (Prod.fst (List.getD x0 (Int.toNat v7) (ByteArray.empty, 0, 0, 0, ())))) (ByteArray.toList (Prod.fst (List.getD x0 (Int.toNat (v7 - 1)) (ByteArray.empty, 0, 0, 0, ())))) || ByteArray.toList (Prod.fst (List.getD x0 (Int.toNat v7) (ByteArray.empty, 0, 0, 0, ()))) == ByteArray.toList (Prod.fst (List.getD x0 (Int.toNat (v7 - 1)) (ByteArray.empty, 0, 0, 0, ())))) = Bool.false, InR IntKind.i64 (v7 + 1)]) := by kernel_rfl
theorem p20_4 (v7 : Int) (x0 : List (ByteArray × Int × Int × Int × Unit)) : Am.runN tab ext20 false 34 [] 2000 [] [] [0, 5, 6, 7] [] [true, false, false, false] (cutAt b20 2) (E20_2 v7 x0) (L20_2 v7 x0) = some (cutAt b20 2, E20_2 (v7 + 1) (x0), L20_2 (v7 + 1) (x0), [Decidable.decide (v7 < (↑(List.length x0) : Int)) = Bool.true, 0 ≤ v7, v7 < (↑(List.length x0) : Int), True, (!g29_0 (List.getD x0 (Int.toNat v7) (ByteArray.empty, 0, 0, 0, ()))) = Bool.false, Decidable.decide (v7 > 0) = Bool.false, Bool.false = Bool.false, InR IntKind.i64 (v7 + 1)]) := by kernel_rfl
theorem p20_5 (v7 : Int) (x0 : List (ByteArray × Int × Int × Int × Unit)) : runF tab ext20 false 34 [] 2000 [] oks20 kds20 tys20 Tryd.f20.results [false] (cutAt b20 2) (E20_2 v7 x0) (L20_2 v7 x0) = some ([Dyn.mk Ty.bool (Decidable.decide ((↑(List.length x0) : Int) ≤ 8))], [], [Decidable.decide (v7 < (↑(List.length x0) : Int)) = Bool.false]) := by kernel_rfl
theorem snd20 : ∀ n, (∀ (x0 : List (ByteArray × Int × Int × Int × Unit)) ds, R20 n x0 ds → ∀ K q, AtV Tryd.prog 20 (PostR kds20 oks20 ds [] [] q K) 34 K q [] [.code b20] (entE 0 0 sig20 (x0, ())) (entL sig20 (x0, ()))) ∧ (∀ (v7 : Int) (x0 : List (ByteArray × Int × Int × Int × Unit)) ds, R20_2 n v7 x0 ds → ∀ K q, AtV Tryd.prog 20 (PostR kds20 oks20 ds [] [] q K) 34 K q [] (cutAt b20 2) (E20_2 v7 x0) (L20_2 v7 x0)) := by
  intro n
  induction n with
  | zero => exact ⟨fun _ _ h => by simp only [R20] at h, fun _ _ _ h => by simp only [R20_2] at h⟩
  | succ n ih =>
  obtain ⟨ih, ih2⟩ := ih
  refine ⟨?_, ?_⟩
  · intro x0 ds h K q
    rw [R20] at h
    exact AtV.runN tabOk ext20Ok mixed (p20_0 x0) trivial (ih2 _ _ _ h K q)

  · intro v7 x0 ds h K q
    rw [R20_2] at h
    by_cases b0 : (Decidable.decide (v7 < (↑(List.length x0) : Int))) = true
    · rw [if_pos b0] at h
      obtain ⟨s0, s1, h⟩ := h
      by_cases b1 : (!g29_0 (List.getD x0 (Int.toNat v7) (ByteArray.empty, 0, 0, 0, ()))) = true
      · rw [if_pos b1] at h
        subst h
        exact AtV.fin Tryd.func20 tabOk ext20Ok mixed (p20_1 v7 x0) ⟨b0, s0, s1, trivial, b1, rfl, trivial⟩
      · rw [if_neg b1] at h
        replace b1 := Bool.eq_false_iff.2 b1
        by_cases b2 : (Decidable.decide (v7 > 0)) = true
        · rw [if_pos b2] at h
          obtain ⟨s2, h⟩ := h
          obtain ⟨s3, s4, h⟩ := h
          by_cases b3 : (Op.bytesLess (ByteArray.toList (Prod.fst (List.getD x0 (Int.toNat v7) (ByteArray.empty, 0, 0, 0, ())))) (ByteArray.toList (Prod.fst (List.getD x0 (Int.toNat (v7 - 1)) (ByteArray.empty, 0, 0, 0, ())))) || ByteArray.toList (Prod.fst (List.getD x0 (Int.toNat v7) (ByteArray.empty, 0, 0, 0, ()))) == ByteArray.toList (Prod.fst (List.getD x0 (Int.toNat (v7 - 1)) (ByteArray.empty, 0, 0, 0, ())))) = true
          · rw [if_pos b3] at h
            subst h
            exact AtV.fin Tryd.func20 tabOk ext20Ok mixed (p20_2 v7 x0) ⟨b0, s0, s1, trivial, b1, b2, s2, s3, s4, b3, trivial⟩
          · rw [if_neg b3] at h
            replace b3 := Bool.eq_false_iff.2 b3
            obtain ⟨s5, h⟩ := h
            exact AtV.runN tabOk ext20Ok mixed (p20_3 v7 x0) ⟨b0, s0, s1, trivial, b1, b2, s2, s3, s4, b3, s5, trivial⟩ (ih2 _ _ _ h K q)
        · rw [if_neg b2] at h
          replace b2 := Bool.eq_false_iff.2 b2
          obtain ⟨s2, h⟩ := h
          exact AtV.runN tabOk ext20Ok mixed (p20_4 v7 x0) ⟨b0, s0, s1, trivial, b1, b2, rfl, s2, trivial⟩ (ih2 _ _ _ h K q)
    · rw [if_neg b0] at h
      replace b0 := Bool.eq_false_iff.2 b0
      subst h
      exact AtV.fin Tryd.func20 tabOk ext20Ok mixed (p20_5 v7 x0) ⟨b0, trivial⟩



def ok20 (x0 : List (ByteArray × Int × Int × Int × Unit)) (i : Nat) (x : (ByteArray × Int × Int × Int × Unit)) : Bool :=
  g29_0 x && (i == 0 || !(Op.bytesLess (ByteArray.toList x.1) (ByteArray.toList (x0.getD (i - 1) (ByteArray.empty, (0 : Int), (0 : Int), (0 : Int), ())).1) || ByteArray.toList x.1 == ByteArray.toList (x0.getD (i - 1) (ByteArray.empty, (0 : Int), (0 : Int), (0 : Int), ())).1))
def g20_0 (x0 : List (ByteArray × Int × Int × Int × Unit)) : Bool := allI (ok20 x0) 0 x0 && decide (x0.length ≤ 8)
def P20 (x0 : List (ByteArray × Int × Int × Int × Unit)) : Prop := True

theorem step20 (n i : Nat) (x0 : List (ByteArray × Int × Int × Int × Unit)) (hm : x0.length ≤ maxLen) (hi : i < x0.length) (ds : List Dyn) :
    (if ok20 x0 i (x0.getD i (ByteArray.empty, (0 : Int), (0 : Int), (0 : Int), ())) = true then R20_2 n ((i : Int) + 1) x0 ds else ds = [⟨.bool, false⟩]) → R20_2 (n + 1) (i : Int) x0 ds := by
  intro h
  have hu := inR_up hm hi
  rw [R20_2, if_pos (by simp; omega)]
  refine ⟨by omega, by omega, ?_⟩
  simp only [Int.toNat_natCast]
  unfold ok20 at h
  by_cases h1 : g29_0 (x0.getD i (ByteArray.empty, (0 : Int), (0 : Int), (0 : Int), ())) = true
  case neg =>
    have h1 := Bool.eq_false_iff.2 h1
    rw [h1] at h
    rw [if_pos (by rw [h1]; rfl)]
    simpa using h
  case pos =>
    rw [h1] at h
    rw [if_neg (by rw [h1]; simp)]
    by_cases h0 : (i : Int) > 0
    · rw [if_pos (by simpa using h0)]
      have hi0 : (i == 0) = false := by simp; omega
      have e : ((i : Int) - 1).toNat = i - 1 := by omega
      refine ⟨by rw [i64_iff]; have : maxLen ≤ 9223372036854775807 := by decide
                 omega, by omega, by omega, ?_⟩
      rw [e]
      by_cases h2 : (Op.bytesLess (ByteArray.toList (x0.getD i (ByteArray.empty, (0 : Int), (0 : Int), (0 : Int), ())).1) (ByteArray.toList (x0.getD (i - 1) (ByteArray.empty, (0 : Int), (0 : Int), (0 : Int), ())).1) || ByteArray.toList (x0.getD i (ByteArray.empty, (0 : Int), (0 : Int), (0 : Int), ())).1 == ByteArray.toList (x0.getD (i - 1) (ByteArray.empty, (0 : Int), (0 : Int), (0 : Int), ())).1) = true
      · rw [if_pos h2]
        rw [hi0, h2] at h
        simpa using h
      · rw [if_neg h2]
        rw [hi0, Bool.eq_false_iff.2 h2] at h
        exact ⟨hu, by simpa using h⟩
    · rw [if_neg (by simpa using h0)]
      have hi0 : (i == 0) = true := by simp; omega
      rw [hi0] at h
      exact ⟨hu, by simpa using h⟩

theorem top20 (x0 : List (ByteArray × Int × Int × Int × Unit)) (hw : x0.length ≤ maxLen) : R20 (x0.length + 1 + 1) x0 [⟨.bool, g20_0 x0⟩] := by
  rw [R20]
  have key := loop_testI x0 (ByteArray.empty, (0 : Int), (0 : Int), (0 : Int), ()) (ok20 x0) [(⟨.bool, false⟩ : Dyn)] [⟨.bool, decide (x0.length ≤ 8)⟩] (fun n i ds => R20_2 n i x0 ds) (fun n => ?_) (fun n i hi hok ds hr => ?_) (fun n i hi hok => ?_)
  · unfold g20_0
    cases h : allI (ok20 x0) 0 x0 with
    | true => rw [if_pos h] at key; simpa using key
    | false => rw [if_neg (by rw [h]; simp)] at key; simpa using key
  · rw [R20_2, if_neg (by simp)]
    have hc : decide ((x0.length : Int) ≤ 8) = decide (x0.length ≤ 8) := by
      congr 1; exact propext ⟨fun h => by omega, fun h => by omega⟩
    rw [hc]
  · exact step20 n i x0 hw hi ds (by rw [if_pos hok]; exact hr)
  · exact step20 n i x0 hw hi _ (by rw [if_neg (by rw [hok]; simp)])

def S20 : Am.Spec := { sig := sig20, pre := fun ⟨x0, _⟩ => P20 x0, res := fun ⟨x0, _⟩ => [⟨Ty.bool, g20_0 x0⟩] }
theorem con20 : Contract Tryd.prog 20 S20 := contract_of Tryd.func20 hb20 (Nat.le_of_ble_eq_true (by kernel_rfl)) (fun ⟨x0, _⟩ h hwf K q =>
  (snd20 _).1 x0 _ (top20 x0 hwf.1.1) K q)

end
end Go.Proofs.YtpledggbnnjbiaaDoor

/- Function 31 (impl.abs): its runs between cut points. Written by a program of this repo (gen). -/
set_option linter.unusedVariables false
set_option linter.unusedSimpArgs false
set_option maxRecDepth 100000
namespace Go.Proofs.YtpledggbnnjbiaaDoor
open Go Go.Am Go.Proofs
noncomputable section
def ext31 : Ext := []
theorem ext31Ok : ExtOk Tryd.prog ext31 := trivial

noncomputable def b31 : Code := bodyOf Tryd.f31
theorem hb31 : Tryd.f31.body = some b31 := by kernel_rfl
def sig31 : List AT := [AT.v (Ty.int IntKind.i64)]
def tys31 : List Ty := [Ty.int IntKind.i64]
def kds31 : List RK := []
def oks31 : List AT := owns sig31
def P31 (x0 : Int) : Prop := (if (Decidable.decide (x0 < 0)) = true then ((InR IntKind.i64 (0 - x0)) ∧ True) else True)
def g31_0 (x0 : Int) : Int := (if (Decidable.decide (x0 < 0)) = true then 0 - x0 else x0)
theorem p31_0 (x0 : Int) : runF tab ext31 false 8 [] 2000 [] oks31 kds31 tys31 Tryd.f31.results [true] [.code b31] (entE 0 0 sig31 (x0, ())) (entL sig31 (x0, ())) = some ([Dyn.mk (Ty.int IntKind.i64) (0 - x0)], [], [Decidable.decide (x0 < 0) = Bool.true, InR IntKind.i64 (0 - x0)]) := by kernel_rfl
theorem p31_1 (x0 : Int) : runF tab ext31 false 8 [] 2000 [] oks31 kds31 tys31 Tryd.f31.results [false] [.code b31] (entE 0 0 sig31 (x0, ())) (entL sig31 (x0, ())) = some ([Dyn.mk (Ty.int IntKind.i64) x0], [], [Decidable.decide (x0 < 0) = Bool.false]) := by kernel_rfl
theorem at31 (x0 : Int) (h : P31 x0) (K : Ctx) (q : Nat → Value) : AtV Tryd.prog 31 (PostR kds31 oks31 [⟨Ty.int IntKind.i64, g31_0 x0⟩] [] [] q K) 8 K q [] [.code b31] (entE 0 0 sig31 (x0, ())) (entL sig31 (x0, ())) := by
  unfold P31 at h
  unfold g31_0
  by_cases b0 : (Decidable.decide (x0 < 0)) = true
  · try simp only [if_pos b0] at h ⊢
    obtain ⟨s0, h⟩ := h
    exact AtV.fin Tryd.func31 tabOk ext31Ok mixed (p31_0 x0) ⟨b0, s0, trivial⟩
  · try simp only [if_neg b0] at h ⊢
    replace b0 := Bool.eq_false_iff.2 b0
    exact AtV.fin Tryd.func31 tabOk ext31Ok mixed (p31_1 x0) ⟨b0, trivial⟩

def S31 : Am.Spec := { sig := sig31, pre := fun ⟨x0, _⟩ => P31 x0, res := fun ⟨x0, _⟩ => [⟨Ty.int IntKind.i64, g31_0 x0⟩], kds := kds31 }
theorem con31 : Contract Tryd.prog 31 S31 := contract_of Tryd.func31 hb31 (Nat.le_of_ble_eq_true (by kernel_rfl)) (fun ⟨x0, _⟩ h _ K q => at31 x0 h K q)


end
end Go.Proofs.YtpledggbnnjbiaaDoor

/- The contracts of the library that this program uses, laid at this program. Written by a tool of the kit. -/
set_option linter.unusedVariables false
set_option maxRecDepth 100000
namespace Go.Proofs
open Go.Shelf
def Tryd.lays169_ren : Go.Shelf.Ren := ⟨fun | 169 => 56 | n => n, fun | 70 => 70 | 9 => 9 | 0 => 0 | 72 => 72 | 37 => 51 | 127 => 100 | 3 => 3 | 5 => 5 | n => n, fun | n => n⟩
theorem Tryd.lays169 : Go.Proofs.Lays.n169 Tryd.prog Tryd.lays169_ren := {
  mixed := by kernel_rfl
  f169 := Tryd.func56.trans (congrArg some (by kernel_rfl))
  t0 := Tryd.underlying0
  a0 := Tryd.isAgg0
  z0 := Tryd.sizeOf0
  v0 := Tryd.zeroValue0
  t3 := Tryd.underlying3
  a3 := Tryd.isAgg3
  z3 := Tryd.sizeOf3
  v3 := Tryd.zeroValue3
  t9 := Tryd.underlying9
  a9 := Tryd.isAgg9
  z9 := Tryd.sizeOf9
  v9 := Tryd.zeroValue9
  t37 := Tryd.underlying51
  a37 := Tryd.isAgg51
  z37 := Tryd.sizeOf51
  v37 := Tryd.zeroValue51
  t70 := Tryd.underlying70
  a70 := Tryd.isAgg70
  z70 := Tryd.sizeOf70
  v70 := Tryd.zeroValue70
  t72 := Tryd.underlying72
  a72 := Tryd.isAgg72
  z72 := Tryd.sizeOf72
  v72 := Tryd.zeroValue72
  t127 := Tryd.underlying100
  a127 := Tryd.isAgg100
  z127 := Tryd.sizeOf100
  v127 := Tryd.zeroValue100 }
theorem Tryd.Builder_Extra_169 : Builder.Extra Tryd.prog Tryd.lays169_ren := {
  sizeBuilder := by kernel_rfl
  liesBuilder := by kernel_rfl
  t5 := Tryd.underlying5
  a5 := Tryd.isAgg5
  z5 := Tryd.sizeOf5
  v5 := Tryd.zeroValue5
  infoByte := by kernel_rfl
  cellsByte := by kernel_rfl
  sizeByte := by kernel_rfl
  neB5 := by decide }
def Tryd.lays156_ren : Go.Shelf.Ren := ⟨fun | 156 => 39 | 165 => 53 | 166 => 54 | 169 => 56 | 240 => 73 | 241 => 74 | 276 => 85 | 277 => 86 | n => n, fun | 31 => 24 | 9 => 9 | 3 => 3 | 4 => 4 | 0 => 0 | 20 => 20 | 72 => 72 | 76 => 76 | 70 => 70 | 37 => 51 | 75 => 75 | 127 => 100 | 164 => 110 | 5 => 5 | 80 => 79 | n => n, fun | n => n⟩
theorem Tryd.lays156 : Go.Proofs.Lays.n156 Tryd.prog Tryd.lays156_ren := {
  mixed := by kernel_rfl
  f156 := Tryd.func39.trans (congrArg some (by kernel_rfl))
  f165 := Tryd.func53.trans (congrArg some (by kernel_rfl))
  f166 := Tryd.func54.trans (congrArg some (by kernel_rfl))
  f169 := Tryd.func56.trans (congrArg some (by kernel_rfl))
  f240 := Tryd.func73.trans (congrArg some (by kernel_rfl))
  f241 := Tryd.func74.trans (congrArg some (by kernel_rfl))
  f276 := Tryd.func85.trans (congrArg some (by kernel_rfl))
  f277 := Tryd.func86.trans (congrArg some (by kernel_rfl))
  t0 := Tryd.underlying0
  a0 := Tryd.isAgg0
  z0 := Tryd.sizeOf0
  v0 := Tryd.zeroValue0
  t3 := Tryd.underlying3
  a3 := Tryd.isAgg3
  z3 := Tryd.sizeOf3
  v3 := Tryd.zeroValue3
  t4 := Tryd.underlying4
  a4 := Tryd.isAgg4
  z4 := Tryd.sizeOf4
  v4 := Tryd.zeroValue4
  t9 := Tryd.underlying9
  a9 := Tryd.isAgg9
  z9 := Tryd.sizeOf9
  v9 := Tryd.zeroValue9
  t20 := Tryd.underlying20
  a20 := Tryd.isAgg20
  z20 := Tryd.sizeOf20
  v20 := Tryd.zeroValue20
  t31 := Tryd.underlying24
  a31 := Tryd.isAgg24
  z31 := Tryd.sizeOf24
  v31 := Tryd.zeroValue24
  t37 := Tryd.underlying51
  a37 := Tryd.isAgg51
  z37 := Tryd.sizeOf51
  v37 := Tryd.zeroValue51
  t70 := Tryd.underlying70
  a70 := Tryd.isAgg70
  z70 := Tryd.sizeOf70
  v70 := Tryd.zeroValue70
  t72 := Tryd.underlying72
  a72 := Tryd.isAgg72
  z72 := Tryd.sizeOf72
  v72 := Tryd.zeroValue72
  t75 := Tryd.underlying75
  a75 := Tryd.isAgg75
  z75 := Tryd.sizeOf75
  v75 := Tryd.zeroValue75
  t76 := Tryd.underlying76
  a76 := Tryd.isAgg76
  z76 := Tryd.sizeOf76
  v76 := Tryd.zeroValue76
  t127 := Tryd.underlying100
  a127 := Tryd.isAgg100
  z127 := Tryd.sizeOf100
  v127 := Tryd.zeroValue100
  t164 := Tryd.underlying110
  a164 := Tryd.isAgg110
  z164 := Tryd.sizeOf110
  v164 := Tryd.zeroValue110 }
theorem Tryd.Builder_Extra_156 : Builder.Extra Tryd.prog Tryd.lays156_ren := {
  sizeBuilder := by kernel_rfl
  liesBuilder := by kernel_rfl
  t5 := Tryd.underlying5
  a5 := Tryd.isAgg5
  z5 := Tryd.sizeOf5
  v5 := Tryd.zeroValue5
  infoByte := by kernel_rfl
  cellsByte := by kernel_rfl
  sizeByte := by kernel_rfl
  neB5 := by decide }
open Go.RowKit in theorem Tryd.strings_Join_none (a : Option Addr) (c : Nat) (sep : ByteArray) (w : World) :
    Calls Tryd.prog 39 #[.slice a 0 c, .string sep] w fun e w' => e = .returned (.string ⟨#[]⟩) ∧ w' = w := Any.strings_Join_none Tryd.lays156 Tryd.Builder_Extra_156 a c sep w
open Go.RowKit in theorem Tryd.strings_Join (bk o c : Nat) (xs : List ByteArray) (sep : ByteArray) (w : World) (hcells : ∀ (j : Nat) x, xs[j]? = some x → w.cell? ⟨bk, o + j, none⟩ = some (.string x)) (hbk : bk < w.heap.size) (hN : xs.length ≤ 140737488355328) (hcap : xs.length ≤ c) (hlen : (Lib.join (xs.map (·.data.toList)) sep.data.toList).length ≤ 140737488355328) :
    Calls Tryd.prog 39 #[.slice (some ⟨bk, o, none⟩) xs.length c, .string sep] w fun e w' => e = .returned (.string ⟨(Lib.join (xs.map (·.data.toList)) sep.data.toList).toArray⟩) ∧ Below w.heap.size w w' := Any.strings_Join Tryd.lays156 Tryd.Builder_Extra_156 bk o c xs sep w hcells hbk hN hcap hlen
def Tryd.lays162_ren : Go.Shelf.Ren := ⟨fun | 162 => 38 | 232 => 57 | 227 => 58 | 234 => 59 | 236 => 60 | 228 => 75 | 271 => 76 | 151 => 77 | 120 => 87 | 197 => 88 | 152 => 89 | 260 => 93 | 137 => 94 | 119 => 95 | 224 => 96 | 225 => 97 | 217 => 98 | 266 => 99 | n => n, fun | 9 => 9 | 4 => 4 | 3 => 3 | 5 => 5 | 117 => 83 | 116 => 82 | 0 => 0 | 124 => 86 | 21 => 21 | 105 => 101 | 46 => 66 | 119 => 120 | 139 => 123 | 138 => 122 | n => n, fun | 3 => 4 | 4 => 5 | n => n⟩
theorem Tryd.lays162 : Go.Proofs.Lays.n162 Tryd.prog Tryd.lays162_ren := {
  mixed := by kernel_rfl
  f119 := Tryd.func95.trans (congrArg some (by kernel_rfl))
  f120 := Tryd.func87.trans (congrArg some (by kernel_rfl))
  f137 := Tryd.func94.trans (congrArg some (by kernel_rfl))
  f151 := Tryd.func77.trans (congrArg some (by kernel_rfl))
  f152 := Tryd.func89.trans (congrArg some (by kernel_rfl))
  f162 := Tryd.func38.trans (congrArg some (by kernel_rfl))
  f197 := Tryd.func88.trans (congrArg some (by kernel_rfl))
  f217 := Tryd.func98.trans (congrArg some (by kernel_rfl))
  f224 := Tryd.func96.trans (congrArg some (by kernel_rfl))
  f225 := Tryd.func97.trans (congrArg some (by kernel_rfl))
  f227 := Tryd.func58.trans (congrArg some (by kernel_rfl))
  f228 := Tryd.func75.trans (congrArg some (by kernel_rfl))
  f232 := Tryd.func57.trans (congrArg some (by kernel_rfl))
  f234 := Tryd.func59.trans (congrArg some (by kernel_rfl))
  f236 := Tryd.func60.trans (congrArg some (by kernel_rfl))
  f260 := Tryd.func93.trans (congrArg some (by kernel_rfl))
  f266 := Tryd.func99.trans (congrArg some (by kernel_rfl))
  f271 := Tryd.func76.trans (congrArg some (by kernel_rfl))
  t0 := Tryd.underlying0
  a0 := Tryd.isAgg0
  z0 := Tryd.sizeOf0
  v0 := Tryd.zeroValue0
  t3 := Tryd.underlying3
  a3 := Tryd.isAgg3
  z3 := Tryd.sizeOf3
  v3 := Tryd.zeroValue3
  t4 := Tryd.underlying4
  a4 := Tryd.isAgg4
  z4 := Tryd.sizeOf4
  v4 := Tryd.zeroValue4
  t5 := Tryd.underlying5
  a5 := Tryd.isAgg5
  z5 := Tryd.sizeOf5
  v5 := Tryd.zeroValue5
  t9 := Tryd.underlying9
  a9 := Tryd.isAgg9
  z9 := Tryd.sizeOf9
  v9 := Tryd.zeroValue9
  t21 := Tryd.underlying21
  a21 := Tryd.isAgg21
  z21 := Tryd.sizeOf21
  v21 := Tryd.zeroValue21
  t46 := Tryd.underlying66
  a46 := Tryd.isAgg66
  z46 := Tryd.sizeOf66
  v46 := Tryd.zeroValue66
  t105 := Tryd.underlying101
  a105 := Tryd.isAgg101
  z105 := Tryd.sizeOf101
  v105 := Tryd.zeroValue101
  t116 := Tryd.underlying82
  a116 := Tryd.isAgg82
  z116 := Tryd.sizeOf82
  t117 := Tryd.underlying83
  a117 := Tryd.isAgg83
  z117 := Tryd.sizeOf83
  v117 := Tryd.zeroValue83
  t119 := Tryd.underlying120
  a119 := Tryd.isAgg120
  z119 := Tryd.sizeOf120
  t124 := Tryd.underlying86
  a124 := Tryd.isAgg86
  z124 := Tryd.sizeOf86
  v124 := Tryd.zeroValue86
  t138 := Tryd.underlying122
  a138 := Tryd.isAgg122
  z138 := Tryd.sizeOf122
  v138 := Tryd.zeroValue122
  t139 := Tryd.underlying123
  a139 := Tryd.isAgg123
  z139 := Tryd.sizeOf123
  v139 := Tryd.zeroValue123
  g3 := by kernel_rfl
  g4 := by kernel_rfl }
open Go.RowKit in theorem Tryd.strings_TrimRight_one (s : ByteArray) (c : UInt8) (hc : c.toNat < 128) (w : World) (hs : s.size ≤ 9223372036854775807) :
    Calls Tryd.prog 38 #[.string s, .string ⟨#[c]⟩] w fun e w' => e = .returned (.string ⟨(Lib.trimRightB s.data.toList c).toArray⟩) ∧ w' = w := Any.strings_TrimRight_one Tryd.lays162 s c hc w hs
open Go.RowKit in theorem Tryd.Builder_String_any_k (B b : Nat) (l : List UInt8) (w : World) (h : Lib.IsBuilderF 72 5 B b (Lib.byteCells l) w) (hBw : B ≤ w.heap.size) :
    Calls Tryd.prog 56 #[.pointer (some ⟨b, 0, none⟩)] w fun e w' => e = .returned (.string ⟨l.toArray⟩) ∧ (Lib.IsBuilderF 72 5 B b (Lib.byteCells l) w' ∧ Below B w w' ∧ Lib.OthersKept 5 (some b) w w') := Any.Builder_String_any_k Tryd.lays169 Tryd.Builder_Extra_169 B b l w h hBw
def Tryd.laysM173_ren : Go.Shelf.Ren := ⟨fun | 173 => 33 | 246 => 45 | 283 => 64 | 284 => 65 | 285 => 66 | 286 => 67 | 129 => 81 | 317 => 80 | 318 => 82 | 319 => 83 | 320 => 84 | 337 => 91 | 338 => 92 | n => n, fun | 2 => 2 | 3 => 3 | 9 => 9 | 4 => 4 | 171 => 87 | 0 => 0 | 53 => 88 | 37 => 51 | 5 => 5 | 173 => 91 | 212 => 106 | 51 => 95 | 20 => 20 | 213 => 107 | 46 => 66 | 232 => 118 | 233 => 119 | n => n, fun | 17 => 0 | 18 => 2 | 19 => 3 | n => n⟩
theorem Tryd.laysM173 : Go.Proofs.LaysM.n173 Tryd.prog Tryd.laysM173_ren := {
  mixed := by kernel_rfl
  f129 := Tryd.func81.trans (congrArg some (by kernel_rfl))
  f173 := Tryd.func33.trans (congrArg some (by kernel_rfl))
  f246 := Tryd.func45.trans (congrArg some (by kernel_rfl))
  f283 := Tryd.func64.trans (congrArg some (by kernel_rfl))
  f284 := Tryd.func65.trans (congrArg some (by kernel_rfl))
  f285 := Tryd.func66.trans (congrArg some (by kernel_rfl))
  f286 := Tryd.func67.trans (congrArg some (by kernel_rfl))
  f317 := Tryd.func80.trans (congrArg some (by kernel_rfl))
  f318 := Tryd.func82.trans (congrArg some (by kernel_rfl))
  f319 := Tryd.func83.trans (congrArg some (by kernel_rfl))
  f320 := Tryd.func84.trans (congrArg some (by kernel_rfl))
  f337 := Tryd.func91.trans (congrArg some (by kernel_rfl))
  f338 := Tryd.func92.trans (congrArg some (by kernel_rfl))
  t0 := Tryd.underlying0
  a0 := Tryd.isAgg0
  z0 := Tryd.sizeOf0
  v0 := Tryd.zeroValue0
  t2 := Tryd.underlying2
  a2 := Tryd.isAgg2
  z2 := Tryd.sizeOf2
  v2 := Tryd.zeroValue2
  t3 := Tryd.underlying3
  a3 := Tryd.isAgg3
  z3 := Tryd.sizeOf3
  v3 := Tryd.zeroValue3
  t4 := Tryd.underlying4
  a4 := Tryd.isAgg4
  z4 := Tryd.sizeOf4
  v4 := Tryd.zeroValue4
  t5 := Tryd.underlying5
  a5 := Tryd.isAgg5
  z5 := Tryd.sizeOf5
  v5 := Tryd.zeroValue5
  t9 := Tryd.underlying9
  a9 := Tryd.isAgg9
  z9 := Tryd.sizeOf9
  v9 := Tryd.zeroValue9
  t20 := Tryd.underlying20
  a20 := Tryd.isAgg20
  z20 := Tryd.sizeOf20
  v20 := Tryd.zeroValue20
  t37 := Tryd.underlying51
  a37 := Tryd.isAgg51
  z37 := Tryd.sizeOf51
  v37 := Tryd.zeroValue51
  t46 := Tryd.underlying66
  a46 := Tryd.isAgg66
  z46 := Tryd.sizeOf66
  v46 := Tryd.zeroValue66
  t51 := Tryd.underlying95
  a51 := Tryd.isAgg95
  z51 := Tryd.sizeOf95
  v51 := Tryd.zeroValue95
  t53 := Tryd.underlying88
  a53 := Tryd.isAgg88
  z53 := Tryd.sizeOf88
  v53 := Tryd.zeroValue88
  t171 := Tryd.underlying87
  a171 := Tryd.isAgg87
  z171 := Tryd.sizeOf87
  v171 := Tryd.zeroValue87
  t173 := Tryd.underlying91
  a173 := Tryd.isAgg91
  z173 := Tryd.sizeOf91
  v173 := Tryd.zeroValue91
  t212 := Tryd.underlying106
  a212 := Tryd.isAgg106
  z212 := Tryd.sizeOf106
  v212 := Tryd.zeroValue106
  t213 := Tryd.underlying107
  a213 := Tryd.isAgg107
  z213 := Tryd.sizeOf107
  t232 := Tryd.underlying118
  a232 := Tryd.isAgg118
  z232 := Tryd.sizeOf118
  v232 := Tryd.zeroValue118
  t233 := Tryd.underlying119
  a233 := Tryd.isAgg119
  z233 := Tryd.sizeOf119
  v233 := Tryd.zeroValue119
  g17 := by kernel_rfl
  g18 := by kernel_rfl
  g19 := by kernel_rfl
  i0 := by kernel_rfl
  i2 := by kernel_rfl
  i3 := by kernel_rfl
  i4 := by kernel_rfl
  i5 := by kernel_rfl
  i9 := by kernel_rfl
  i20 := by kernel_rfl
  i37 := by kernel_rfl
  i46 := by kernel_rfl
  i51 := by kernel_rfl
  i53 := by kernel_rfl
  i171 := by kernel_rfl
  i173 := by kernel_rfl
  i212 := by kernel_rfl
  i232 := by kernel_rfl
  i233 := by kernel_rfl
  m17 := by kernel_rfl
  m18 := by kernel_rfl
  m19 := by kernel_rfl }
open Go.RowKit Go.Sort Go.Lib in theorem Tryd.strconv_FormatInt_10 (n : Int) (h0 : -9223372036854775808 ≤ n) (h1 : n ≤ 9223372036854775807) (w : World) (htab : Lib.TabIs Tryd.prog w "internal/strconv.uint64pow10" .u64 Lib.pow10Tab) :
    Calls Tryd.prog 33 #[.int .i64 n, .int .i64 10] w fun e w' => e = .returned (.string ⟨(Lib.itoa n).toArray⟩) ∧ ∃ k os, w' = grow (w.drewN k) os := Any.strconv_FormatInt_10 Tryd.laysM173 n h0 h1 w htab
def Tryd.lays99_ren : Go.Shelf.Ren := ⟨fun | 99 => 52 | 206 => 72 | n => n, fun | 9 => 9 | 4 => 4 | 3 => 3 | n => n, fun | n => n⟩
theorem Tryd.lays99 : Go.Proofs.Lays.n99 Tryd.prog Tryd.lays99_ren := {
  mixed := by kernel_rfl
  f99 := Tryd.func52.trans (congrArg some (by kernel_rfl))
  f206 := Tryd.func72.trans (congrArg some (by kernel_rfl))
  t3 := Tryd.underlying3
  a3 := Tryd.isAgg3
  z3 := Tryd.sizeOf3
  v3 := Tryd.zeroValue3
  t4 := Tryd.underlying4
  a4 := Tryd.isAgg4
  z4 := Tryd.sizeOf4
  v4 := Tryd.zeroValue4
  t9 := Tryd.underlying9
  a9 := Tryd.isAgg9
  z9 := Tryd.sizeOf9
  v9 := Tryd.zeroValue9 }
open Go.RowKit Go.Lib in theorem Tryd.strings_HasPrefix (s p : ByteArray) (w : World) :
    Calls Tryd.prog 52 #[.string s, .string p] w fun e w' => e = .returned (.bool (Lib.hasPrefix s.data.toList p.data.toList)) ∧ w' = w := Any.strings_HasPrefix Tryd.lays99 s p w
def Tryd.lays105_ren : Go.Shelf.Ren := ⟨fun | 105 => 37 | 212 => 51 | 99 => 52 | 165 => 53 | 166 => 54 | 170 => 55 | 169 => 56 | 263 => 70 | 264 => 71 | 206 => 72 | 240 => 73 | 241 => 74 | 276 => 85 | 277 => 86 | n => n, fun | 9 => 9 | 3 => 3 | 4 => 4 | 20 => 20 | 0 => 0 | 46 => 66 | 109 => 67 | 5 => 5 | 72 => 72 | 76 => 76 | 51 => 95 | 146 => 96 | 53 => 88 | 148 => 98 | 70 => 70 | 37 => 51 | 75 => 75 | 127 => 100 | 164 => 110 | 80 => 79 | n => n, fun | n => n⟩
theorem Tryd.lays105 : Go.Proofs.Lays.n105 Tryd.prog Tryd.lays105_ren := {
  mixed := by kernel_rfl
  f99 := Tryd.func52.trans (congrArg some (by kernel_rfl))
  f105 := Tryd.func37.trans (congrArg some (by kernel_rfl))
  f165 := Tryd.func53.trans (congrArg some (by kernel_rfl))
  f166 := Tryd.func54.trans (congrArg some (by kernel_rfl))
  f169 := Tryd.func56.trans (congrArg some (by kernel_rfl))
  f170 := Tryd.func55.trans (congrArg some (by kernel_rfl))
  f206 := Tryd.func72.trans (congrArg some (by kernel_rfl))
  f212 := Tryd.func51.trans (congrArg some (by kernel_rfl))
  f240 := Tryd.func73.trans (congrArg some (by kernel_rfl))
  f241 := Tryd.func74.trans (congrArg some (by kernel_rfl))
  f263 := Tryd.func70.trans (congrArg some (by kernel_rfl))
  f264 := Tryd.func71.trans (congrArg some (by kernel_rfl))
  f276 := Tryd.func85.trans (congrArg some (by kernel_rfl))
  f277 := Tryd.func86.trans (congrArg some (by kernel_rfl))
  t0 := Tryd.underlying0
  a0 := Tryd.isAgg0
  z0 := Tryd.sizeOf0
  v0 := Tryd.zeroValue0
  t3 := Tryd.underlying3
  a3 := Tryd.isAgg3
  z3 := Tryd.sizeOf3
  v3 := Tryd.zeroValue3
  t4 := Tryd.underlying4
  a4 := Tryd.isAgg4
  z4 := Tryd.sizeOf4
  v4 := Tryd.zeroValue4
  t5 := Tryd.underlying5
  a5 := Tryd.isAgg5
  z5 := Tryd.sizeOf5
  v5 := Tryd.zeroValue5
  t9 := Tryd.underlying9
  a9 := Tryd.isAgg9
  z9 := Tryd.sizeOf9
  v9 := Tryd.zeroValue9
  t20 := Tryd.underlying20
  a20 := Tryd.isAgg20
  z20 := Tryd.sizeOf20
  v20 := Tryd.zeroValue20
  t37 := Tryd.underlying51
  a37 := Tryd.isAgg51
  z37 := Tryd.sizeOf51
  v37 := Tryd.zeroValue51
  t46 := Tryd.underlying66
  a46 := Tryd.isAgg66
  z46 := Tryd.sizeOf66
  v46 := Tryd.zeroValue66
  t51 := Tryd.underlying95
  a51 := Tryd.isAgg95
  z51 := Tryd.sizeOf95
  v51 := Tryd.zeroValue95
  t53 := Tryd.underlying88
  a53 := Tryd.isAgg88
  z53 := Tryd.sizeOf88
  v53 := Tryd.zeroValue88
  t70 := Tryd.underlying70
  a70 := Tryd.isAgg70
  z70 := Tryd.sizeOf70
  v70 := Tryd.zeroValue70
  t72 := Tryd.underlying72
  a72 := Tryd.isAgg72
  z72 := Tryd.sizeOf72
  v72 := Tryd.zeroValue72
  t75 := Tryd.underlying75
  a75 := Tryd.isAgg75
  z75 := Tryd.sizeOf75
  v75 := Tryd.zeroValue75
  t76 := Tryd.underlying76
  a76 := Tryd.isAgg76
  z76 := Tryd.sizeOf76
  v76 := Tryd.zeroValue76
  t109 := Tryd.underlying67
  a109 := Tryd.isAgg67
  z109 := Tryd.sizeOf67
  v109 := Tryd.zeroValue67
  t127 := Tryd.underlying100
  a127 := Tryd.isAgg100
  z127 := Tryd.sizeOf100
  v127 := Tryd.zeroValue100
  t146 := Tryd.underlying96
  a146 := Tryd.isAgg96
  z146 := Tryd.sizeOf96
  v146 := Tryd.zeroValue96
  t148 := Tryd.underlying98
  a148 := Tryd.isAgg98
  z148 := Tryd.sizeOf98
  v148 := Tryd.zeroValue98
  t164 := Tryd.underlying110
  a164 := Tryd.isAgg110
  z164 := Tryd.sizeOf110
  v164 := Tryd.zeroValue110 }
theorem Tryd.Builder_Extra_105 : Builder.Extra Tryd.prog Tryd.lays105_ren := {
  sizeBuilder := by kernel_rfl
  liesBuilder := by kernel_rfl
  t5 := Tryd.underlying5
  a5 := Tryd.isAgg5
  z5 := Tryd.sizeOf5
  v5 := Tryd.zeroValue5
  infoByte := by kernel_rfl
  cellsByte := by kernel_rfl
  sizeByte := by kernel_rfl
  neB5 := by decide }
open Go.RowKit Go.Lib in theorem Tryd.strings_Repeat (s : ByteArray) (c : Nat) (w : World) (hc : c ≤ 9223372036854775807) (hlen : s.size * c ≤ 140737488355328) :
    Calls Tryd.prog 37 #[.string s, .int .i64 c] w fun e w' => e = .returned (.string ⟨(Lib.repeatL s.data.toList c).toArray⟩) ∧ Below w.heap.size w w' := Any.strings_Repeat Tryd.lays105 Tryd.Builder_Extra_105 s c w hc hlen
end Go.Proofs

/- Function 33 (strconv.FormatInt): its contract, off what is known of the library. -/
set_option linter.unusedVariables false
set_option linter.unusedSimpArgs false
set_option maxRecDepth 100000
namespace Go.Proofs.YtpledggbnnjbiaaDoor
open Go Go.Am Go.Proofs

def sig33 : List AT := [AT.v (Ty.int .i64), AT.v (Ty.int .i64)]
def g33_0 (x0 x1 : Int) : ByteArray := numB x0
def P33 (x0 x1 : Int) : Prop := x1 = 10
def S33 : Am.Spec := { sig := sig33, pre := fun ⟨x0, x1, _⟩ => P33 x0 x1, res := fun ⟨x0, x1, _⟩ => [⟨Ty.str, g33_0 x0 x1⟩] }
theorem con33 : Contract Tryd.prog 33 S33 := contract_flat rfl fun w ⟨x0, x1, _⟩ vs bss hg hp hw ha => by
  obtain ⟨v0, s0, _, _, rfl, _, ⟨_, rfl, hi⟩, v1, s1, _, _, rfl, _, ⟨_, rfl, _⟩, rfl, _⟩ := ha
  obtain rfl : x1 = 10 := hp
  have hi : InR .i64 x0 := hi
  rw [i64_iff] at hi
  refine ⟨fun d hd => ?_, ?_⟩
  · rw [List.mem_singleton.1 hd]
    refine ⟨rfl, ?_⟩
    show (numB x0).size ≤ maxLen
    have := numB_size x0 hi.1 hi.2
    unfold maxLen; omega
  · refine (Tryd.strconv_FormatInt_10 x0 hi.1 hi.2 w (pow10G hg)).mono ?_
    rintro e w' ⟨rfl, n, os, rfl⟩
    exact ⟨rfl, kept_grow _ _ _⟩

end Go.Proofs.YtpledggbnnjbiaaDoor

/- Function 22 (impl.Decimal): its runs between cut points. Written by a program of this repo (gen). -/
set_option linter.unusedVariables false
set_option linter.unusedSimpArgs false
set_option maxRecDepth 100000
namespace Go.Proofs.YtpledggbnnjbiaaDoor
open Go Go.Am Go.Proofs
noncomputable section
def ext22 : Ext := [(33, S33)]
theorem call22_33 : Callable Tryd.prog 33 := ⟨Tryd.f33, Tryd.func33, by kernel_rfl, by kernel_rfl⟩
theorem ext22Ok : ExtOk Tryd.prog ext22 := ⟨⟨call22_33, con33⟩, trivial⟩

noncomputable def b22 : Code := bodyOf Tryd.f22
theorem hb22 : Tryd.f22.body = some b22 := by kernel_rfl
def sig22 : List AT := [AT.v (Ty.int IntKind.i64)]
def tys22 : List Ty := [Ty.str]
def kds22 : List RK := []
def oks22 : List AT := owns sig22
def P22 (x0 : Int) : Prop := ((P33 x0 10) ∧ True)
def g22_0 (x0 : Int) : ByteArray := g33_0 x0 10
theorem p22_0 (x0 : Int) : runF tab ext22 false 5 [] 2000 [] oks22 kds22 tys22 Tryd.f22.results [] [.code b22] (entE 0 0 sig22 (x0, ())) (entL sig22 (x0, ())) = some ([Dyn.mk Ty.str (g33_0 x0 10)], [], [P33 x0 10]) := by kernel_rfl
theorem at22 (x0 : Int) (h : P22 x0) (K : Ctx) (q : Nat → Value) : AtV Tryd.prog 22 (PostR kds22 oks22 [⟨Ty.str, g22_0 x0⟩] [] [] q K) 5 K q [] [.code b22] (entE 0 0 sig22 (x0, ())) (entL sig22 (x0, ())) := by
  unfold P22 at h
  unfold g22_0
  obtain ⟨s0, h⟩ := h
  exact AtV.fin Tryd.func22 tabOk ext22Ok mixed (p22_0 x0) ⟨s0, trivial⟩

def S22 : Am.Spec := { sig := sig22, pre := fun ⟨x0, _⟩ => P22 x0, res := fun ⟨x0, _⟩ => [⟨Ty.str, g22_0 x0⟩], kds := kds22 }
theorem con22 : Contract Tryd.prog 22 S22 := contract_of Tryd.func22 hb22 (Nat.le_of_ble_eq_true (by kernel_rfl)) (fun ⟨x0, _⟩ h _ K q => at22 x0 h K q)


end
end Go.Proofs.YtpledggbnnjbiaaDoor

/- Function 37 (strings.Repeat): its contract, off what is known of the library. -/
set_option linter.unusedVariables false
set_option linter.unusedSimpArgs false
set_option maxRecDepth 100000
namespace Go.Proofs.YtpledggbnnjbiaaDoor
open Go Go.Am Go.Proofs

def sig37 : List AT := [AT.v Ty.str, AT.v (Ty.int .i64)]
def g37_0 (x0 : ByteArray) (x1 : Int) : ByteArray := ⟨(Lib.repeatL x0.data.toList x1.toNat).toArray⟩
def P37 (x0 : ByteArray) (x1 : Int) : Prop := 0 ≤ x1 ∧ (x0.size : Int) * x1 ≤ 140737488355328
def S37 : Am.Spec := { sig := sig37, pre := fun ⟨x0, x1, _⟩ => P37 x0 x1, res := fun ⟨x0, x1, _⟩ => [⟨Ty.str, g37_0 x0 x1⟩] }
theorem con37 : Contract Tryd.prog 37 S37 := contract_flat rfl fun w ⟨x0, x1, _⟩ vs bss hg hp hw ha => by
  obtain ⟨v0, s0, _, _, rfl, _, ⟨_, rfl, _⟩, v1, s1, _, _, rfl, _, ⟨_, rfl, _⟩, rfl, _⟩ := ha
  obtain ⟨h0, h1⟩ := hp
  obtain ⟨c, rfl⟩ : ∃ c : Nat, x1 = (c : Int) := Int.eq_ofNat_of_zero_le h0
  have hi : InR .i64 (c : Int) := hw.2.1
  rw [i64_iff] at hi
  have hm : x0.size * c ≤ 140737488355328 := by
    have : ((x0.size * c : Nat) : Int) = (x0.size : Int) * (c : Int) := Int.natCast_mul _ _
    omega
  refine ⟨fun d hd => ?_, ?_⟩
  · rw [List.mem_singleton.1 hd]
    refine ⟨rfl, ?_⟩
    show (ByteArray.mk (Lib.repeatL x0.data.toList c).toArray).size ≤ maxLen
    have : (ByteArray.mk (Lib.repeatL x0.data.toList c).toArray).size = c * x0.data.toList.length := by
      show (Lib.repeatL x0.data.toList c).toArray.size = _
      rw [List.size_toArray, Lib.repeatL_length]
    rw [this, Nat.mul_comm]
    have e : x0.data.toList.length = x0.size := rfl
    rw [e]
    unfold maxLen
    omega
  · refine (Tryd.strings_Repeat x0 c w (by omega) hm).mono ?_
    rintro e w' ⟨rfl, hb⟩
    exact ⟨rfl, Kept.of_below hb⟩

end Go.Proofs.YtpledggbnnjbiaaDoor

/- Function 32 (impl.padded): its runs between cut points. Written by a program of this repo (gen). -/
set_option linter.unusedVariables false
set_option linter.unusedSimpArgs false
set_option maxRecDepth 100000
namespace Go.Proofs.YtpledggbnnjbiaaDoor
open Go Go.Am Go.Proofs
noncomputable section
def ext32 : Ext := [(22, S22), (37, S37)]
theorem call32_22 : Callable Tryd.prog 22 := ⟨Tryd.f22, Tryd.func22, by kernel_rfl, by kernel_rfl⟩
theorem call32_37 : Callable Tryd.prog 37 := ⟨Tryd.f37, Tryd.func37, by kernel_rfl, by kernel_rfl⟩
theorem ext32Ok : ExtOk Tryd.prog ext32 := ⟨⟨call32_22, con22⟩, ⟨call32_37, con37⟩, trivial⟩

noncomputable def b32 : Code := bodyOf Tryd.f32
theorem hb32 : Tryd.f32.body = some b32 := by kernel_rfl
def sig32 : List AT := [AT.v (Ty.int IntKind.i64), AT.v (Ty.int IntKind.i64)]
def tys32 : List Ty := [Ty.str]
def kds32 : List RK := []
def oks32 : List AT := owns sig32
def P32 (x0 : Int) (x1 : Int) : Prop := ((P22 x0) ∧ ((InR IntKind.i64 (x1 - (↑(ByteArray.size (g22_0 x0)) : Int))) ∧ ((P37 (ByteArray.mk #[48]) (if 0 < x1 - (↑(ByteArray.size (g22_0 x0)) : Int) then x1 - (↑(ByteArray.size (g22_0 x0)) : Int) else 0)) ∧ ((ByteArray.size (g37_0 (ByteArray.mk #[48]) (if 0 < x1 - (↑(ByteArray.size (g22_0 x0)) : Int) then x1 - (↑(ByteArray.size (g22_0 x0)) : Int) else 0)) + ByteArray.size (g22_0 x0) ≤ 9223372036854775807) ∧ True))))
def g32_0 (x0 : Int) (x1 : Int) : ByteArray := g37_0 (ByteArray.mk #[48]) (if 0 < x1 - (↑(ByteArray.size (g22_0 x0)) : Int) then x1 - (↑(ByteArray.size (g22_0 x0)) : Int) else 0) ++ g22_0 x0
theorem p32_0 (x0 : Int) (x1 : Int) : runF tab ext32 false 16 [] 2000 [] oks32 kds32 tys32 Tryd.f32.results [] [.code b32] (entE 0 0 sig32 (x0, x1, ())) (entL sig32 (x0, x1, ())) = some ([Dyn.mk Ty.str (g37_0 (ByteArray.mk #[48]) (if 0 < x1 - (↑(ByteArray.size (g22_0 x0)) : Int) then x1 - (↑(ByteArray.size (g22_0 x0)) : Int) else 0) ++ g22_0 x0)], [], [P22 x0, InR IntKind.i64 (x1 - (↑(ByteArray.size (g22_0 x0)) : Int)), P37 (ByteArray.mk #[48]) (if 0 < x1 - (↑(ByteArray.size (g22_0 x0)) : Int) then x1 - (↑(ByteArray.size (g22_0 x0)) : Int) else 0), ByteArray.size (g37_0 (ByteArray.mk #[48]) (if 0 < x1 - (↑(ByteArray.size (g22_0 x0)) : Int) then x1 - (↑(ByteArray.size (g22_0 x0)) : Int) else 0)) + ByteArray.size (g22_0 x0) ≤ 9223372036854775807]) := by kernel_rfl
theorem at32 (x0 : Int) (x1 : Int) (h : P32 x0 x1) (K : Ctx) (q : Nat → Value) : AtV Tryd.prog 32 (PostR kds32 oks32 [⟨Ty.str, g32_0 x0 x1⟩] [] [] q K) 16 K q [] [.code b32] (entE 0 0 sig32 (x0, x1, ())) (entL sig32 (x0, x1, ())) := by
  unfold P32 at h
  unfold g32_0
  obtain ⟨s0, h⟩ := h
  obtain ⟨s1, h⟩ := h
  obtain ⟨s2, h⟩ := h
  obtain ⟨s3, h⟩ := h
  exact AtV.fin Tryd.func32 tabOk ext32Ok mixed (p32_0 x0 x1) ⟨s0, s1, s2, s3, trivial⟩

def S32 : Am.Spec := { sig := sig32, pre := fun ⟨x0, x1, _⟩ => P32 x0 x1, res := fun ⟨x0, x1, _⟩ => [⟨Ty.str, g32_0 x0 x1⟩], kds := kds32 }
theorem con32 : Contract Tryd.prog 32 S32 := contract_of Tryd.func32 hb32 (Nat.le_of_ble_eq_true (by kernel_rfl)) (fun ⟨x0, x1, _⟩ h _ K q => at32 x0 x1 h K q)


end
end Go.Proofs.YtpledggbnnjbiaaDoor

/- Function 21 (impl.FixedText): its runs between cut points. Written by a program of this repo (gen). -/
set_option linter.unusedVariables false
set_option linter.unusedSimpArgs false
set_option maxRecDepth 100000
namespace Go.Proofs.YtpledggbnnjbiaaDoor
open Go Go.Am Go.Proofs
noncomputable section
def ext21 : Ext := [(30, S30), (31, S31), (22, S22), (32, S32)]
theorem call21_30 : Callable Tryd.prog 30 := ⟨Tryd.f30, Tryd.func30, by kernel_rfl, by kernel_rfl⟩
theorem call21_31 : Callable Tryd.prog 31 := ⟨Tryd.f31, Tryd.func31, by kernel_rfl, by kernel_rfl⟩
theorem call21_22 : Callable Tryd.prog 22 := ⟨Tryd.f22, Tryd.func22, by kernel_rfl, by kernel_rfl⟩
theorem call21_32 : Callable Tryd.prog 32 := ⟨Tryd.f32, Tryd.func32, by kernel_rfl, by kernel_rfl⟩
theorem ext21Ok : ExtOk Tryd.prog ext21 := ⟨⟨call21_30, con30⟩, ⟨call21_31, con31⟩, ⟨call21_22, con22⟩, ⟨call21_32, con32⟩, trivial⟩

noncomputable def b21 : Code := bodyOf Tryd.f21
theorem hb21 : Tryd.f21.body = some b21 := by kernel_rfl
def sig21 : List AT := [AT.v (Ty.int IntKind.i64), AT.v (Ty.int IntKind.i64)]
def tys21 : List Ty := [Ty.str]
def kds21 : List RK := []
def oks21 : List AT := owns sig21
def E21_5 (v5 : Int) (v16 : Int) (x0 : Int) (x1 : Int) : Env := [(0, PV.a (Atom.val (Value.int IntKind.i64 x0))), (1, PV.a (Atom.val (Value.int IntKind.i64 x1))), (5, PV.a (Atom.val (Value.int IntKind.i64 v5))), (15, PV.a (Atom.val (Value.int IntKind.i64 x1))), (16, PV.a (Atom.val (Value.int IntKind.i64 v16)))]
def L21_5 (v5 : Int) (v16 : Int) (x0 : Int) (x1 : Int) : Heap := []
mutual
def R21 : Nat → Int → Int → List Dyn → Prop
  | 0, _, _, _ => False
  | n + 1, x0, x1, ds => (if (!g30_0 x0 (-1000000000) 1000000000) = true then (ds = [Dyn.mk Ty.str (ByteArray.mk #[])]) else (if (!g30_0 x1 1 6) = true then (ds = [Dyn.mk Ty.str (ByteArray.mk #[])]) else (R21_5 n (1) (0) (x0) (x1) ds)))
def R21_5 : Nat → Int → Int → Int → Int → List Dyn → Prop
  | 0, _, _, _, _, _ => False
  | n + 1, v5, v16, x0, x1, ds => (if (Decidable.decide (v16 < x1)) = true then ((InR IntKind.i64 (v5 * 10)) ∧ ((InR IntKind.i64 (v16 + 1)) ∧ (R21_5 n (v5 * 10) (v16 + 1) (x0) (x1) ds))) else (if (Decidable.decide (x0 < 0)) = true then ((P31 x0) ∧ ((v5 ≠ 0) ∧ (InR IntKind.i64 (Int.tdiv (g31_0 x0) v5)) ∧ ((P22 (Int.tdiv (g31_0 x0) v5)) ∧ ((1 + ByteArray.size (g22_0 (Int.tdiv (g31_0 x0) v5)) ≤ 9223372036854775807) ∧ ((ByteArray.size (ByteArray.mk #[45] ++ g22_0 (Int.tdiv (g31_0 x0) v5)) + 1 ≤ 9223372036854775807) ∧ ((P31 x0) ∧ ((v5 ≠ 0) ∧ (InR IntKind.i64 (Int.tmod (g31_0 x0) v5)) ∧ ((P32 (Int.tmod (g31_0 x0) v5) x1) ∧ ((ByteArray.size (ByteArray.mk #[45] ++ g22_0 (Int.tdiv (g31_0 x0) v5) ++ ByteArray.mk #[46]) + ByteArray.size (g32_0 (Int.tmod (g31_0 x0) v5) x1) ≤ 9223372036854775807) ∧ (ds = [Dyn.mk Ty.str (ByteArray.mk #[45] ++ g22_0 (Int.tdiv (g31_0 x0) v5) ++ ByteArray.mk #[46] ++ g32_0 (Int.tmod (g31_0 x0) v5) x1)])))))))))) else ((P31 x0) ∧ ((v5 ≠ 0) ∧ (InR IntKind.i64 (Int.tdiv (g31_0 x0) v5)) ∧ ((P22 (Int.tdiv (g31_0 x0) v5)) ∧ ((0 + ByteArray.size (g22_0 (Int.tdiv (g31_0 x0) v5)) ≤ 9223372036854775807) ∧ ((ByteArray.size (ByteArray.mk #[] ++ g22_0 (Int.tdiv (g31_0 x0) v5)) + 1 ≤ 9223372036854775807) ∧ ((P31 x0) ∧ ((v5 ≠ 0) ∧ (InR IntKind.i64 (Int.tmod (g31_0 x0) v5)) ∧ ((P32 (Int.tmod (g31_0 x0) v5) x1) ∧ ((ByteArray.size (ByteArray.mk #[] ++ g22_0 (Int.tdiv (g31_0 x0) v5) ++ ByteArray.mk #[46]) + ByteArray.size (g32_0 (Int.tmod (g31_0 x0) v5) x1) ≤ 9223372036854775807) ∧ (ds = [Dyn.mk Ty.str (ByteArray.mk #[] ++ g22_0 (Int.tdiv (g31_0 x0) v5) ++ ByteArray.mk #[46] ++ g32_0 (Int.tmod (g31_0 x0) v5) x1)]))))))))))))
end
theorem p21_0 (x0 : Int) (x1 : Int) : runF tab ext21 false 38 [] 2000 [] oks21 kds21 tys21 Tryd.f21.results [true, true] [.code b21] (entE 0 0 sig21 (x0, x1, ())) (entL sig21 (x0, x1, ())) = some ([Dyn.mk Ty.str (ByteArray.mk #[])], [], [True, (!g30_0 x0 (-1000000000) 1000000000) = Bool.true, Bool.true = Bool.true]) := by kernel_rfl
theorem p21_1 (x0 : Int) (x1 : Int) : runF tab ext21 false 38 [] 2000 [] oks21 kds21 tys21 Tryd.f21.results [false, true] [.code b21] (entE 0 0 sig21 (x0, x1, ())) (entL sig21 (x0, x1, ())) = some ([Dyn.mk Ty.str (ByteArray.mk #[])], [], [True, (!g30_0 x0 (-1000000000) 1000000000) = Bool.false, True, (!g30_0 x1 1 6) = Bool.true]) := by kernel_rfl
theorem p21_2 (x0 : Int) (x1 : Int) : Am.runN tab ext21 false 38 [] 2000 [] [] [0, 1, 5, 15, 16] [] [false, false] [.code b21] (entE 0 0 sig21 (x0, x1, ())) (entL sig21 (x0, x1, ())) = some (cutAt b21 5, E21_5 (1) (0) (x0) (x1), L21_5 (1) (0) (x0) (x1), [True, (!g30_0 x0 (-1000000000) 1000000000) = Bool.false, True, (!g30_0 x1 1 6) = Bool.false]) := by kernel_rfl
theorem p21_3 (v5 : Int) (v16 : Int) (x0 : Int) (x1 : Int) : Am.runN tab ext21 false 38 [] 2000 [] [] [0, 1, 5, 15, 16] [] [true] (cutAt b21 5) (E21_5 v5 v16 x0 x1) (L21_5 v5 v16 x0 x1) = some (cutAt b21 5, E21_5 (v5 * 10) (v16 + 1) (x0) (x1), L21_5 (v5 * 10) (v16 + 1) (x0) (x1), [Decidable.decide (v16 < x1) = Bool.true, InR IntKind.i64 (v5 * 10), InR IntKind.i64 (v16 + 1)]) := by kernel_rfl
theorem p21_4 (v5 : Int) (v16 : Int) (x0 : Int) (x1 : Int) : runF tab ext21 false 38 [] 2000 [] oks21 kds21 tys21 Tryd.f21.results [false, true] (cutAt b21 5) (E21_5 v5 v16 x0 x1) (L21_5 v5 v16 x0 x1) = some ([Dyn.mk Ty.str (ByteArray.mk #[45] ++ g22_0 (Int.tdiv (g31_0 x0) v5) ++ ByteArray.mk #[46] ++ g32_0 (Int.tmod (g31_0 x0) v5) x1)], [], [Decidable.decide (v16 < x1) = Bool.false, Decidable.decide (x0 < 0) = Bool.true, P31 x0, v5 ≠ 0, InR IntKind.i64 (Int.tdiv (g31_0 x0) v5), P22 (Int.tdiv (g31_0 x0) v5), 1 + ByteArray.size (g22_0 (Int.tdiv (g31_0 x0) v5)) ≤ 9223372036854775807, ByteArray.size (ByteArray.mk #[45] ++ g22_0 (Int.tdiv (g31_0 x0) v5)) + 1 ≤ 9223372036854775807, P31 x0, v5 ≠ 0, InR IntKind.i64 (Int.tmod (g31_0 x0) v5), P32 (Int.tmod (g31_0 x0) v5) x1, ByteArray.size (ByteArray.mk #[45] ++ g22_0 (Int.tdiv (g31_0 x0) v5) ++ ByteArray.mk #[46]) + ByteArray.size (g32_0 (Int.tmod (g31_0 x0) v5) x1) ≤ 9223372036854775807]) := by kernel_rfl
theorem p21_5 (v5 : Int) (v16 : Int) (x0 : Int) (x1 : Int) : runF tab ext21 false 38 [] 2000 [] oks21 kds21 tys21 Tryd.f21.results [false, false] (cutAt b21 5) (E21_5 v5 v16 x0 x1) (L21_5 v5 v16 x0 x1) = some ([Dyn.mk Ty.str (ByteArray.mk #[] ++ g22_0 (Int.tdiv (g31_0 x0) v5) ++ ByteArray.mk #[46] ++ g32_0 (Int.tmod (g31_0 x0) v5) x1)], [], [Decidable.decide (v16 < x1) = Bool.false, Decidable.decide (x0 < 0) = Bool.false, P31 x0, v5 ≠ 0, InR IntKind.i64 (Int.tdiv (g31_0 x0) v5), P22 (Int.tdiv (g31_0 x0) v5), 0 + ByteArray.size (g22_0 (Int.tdiv (g31_0 x0) v5)) ≤ 9223372036854775807, ByteArray.size (ByteArray.mk #[] ++ g22_0 (Int.tdiv (g31_0 x0) v5)) + 1 ≤ 9223372036854775807, P31 x0, v5 ≠ 0, InR IntKind.i64 (Int.tmod (g31_0 x0) v5), P32 (Int.tmod (g31_0 x0) v5) x1, ByteArray.size (ByteArray.mk #[] ++ g22_0 (Int.tdiv (g31_0 x0) v5) ++ ByteArray.mk #[46]) + ByteArray.size (g32_0 (Int.tmod (g31_0 x0) v5) x1) ≤ 9223372036854775807]) := by kernel_rfl
theorem snd21 : ∀ n, (∀ (x0 : Int) (x1 : Int) ds, R21 n x0 x1 ds → ∀ K q, AtV Tryd.prog 21 (PostR kds21 oks21 ds [] [] q K) 38 K q [] [.code b21] (entE 0 0 sig21 (x0, x1, ())) (entL sig21 (x0, x1, ()))) ∧ (∀ (v5 : Int) (v16 : Int) (x0 : Int) (x1 : Int) ds, R21_5 n v5 v16 x0 x1 ds → ∀ K q, AtV Tryd.prog 21 (PostR kds21 oks21 ds [] [] q K) 38 K q [] (cutAt b21 5) (E21_5 v5 v16 x0 x1) (L21_5 v5 v16 x0 x1)) := by
  intro n
  induction n with
  | zero => exact ⟨fun _ _ _ h => by simp only [R21] at h, fun _ _ _ _ _ h => by simp only [R21_5] at h⟩
  | succ n ih =>
  obtain ⟨ih, ih5⟩ := ih
  refine ⟨?_, ?_⟩
  · intro x0 x1 ds h K q
    rw [R21] at h
    by_cases b0 : (!g30_0 x0 (-1000000000) 1000000000) = true
    · rw [if_pos b0] at h
      subst h
      exact AtV.fin Tryd.func21 tabOk ext21Ok mixed (p21_0 x0 x1) ⟨trivial, b0, rfl, trivial⟩
    · rw [if_neg b0] at h
      replace b0 := Bool.eq_false_iff.2 b0
      by_cases b1 : (!g30_0 x1 1 6) = true
      · rw [if_pos b1] at h
        subst h
        exact AtV.fin Tryd.func21 tabOk ext21Ok mixed (p21_1 x0 x1) ⟨trivial, b0, trivial, b1, trivial⟩
      · rw [if_neg b1] at h
        replace b1 := Bool.eq_false_iff.2 b1
        exact AtV.runN tabOk ext21Ok mixed (p21_2 x0 x1) ⟨trivial, b0, trivial, b1, trivial⟩ (ih5 _ _ _ _ _ h K q)

  · intro v5 v16 x0 x1 ds h K q
    rw [R21_5] at h
    by_cases b0 : (Decidable.decide (v16 < x1)) = true
    · rw [if_pos b0] at h
      obtain ⟨s0, h⟩ := h
      obtain ⟨s1, h⟩ := h
      exact AtV.runN tabOk ext21Ok mixed (p21_3 v5 v16 x0 x1) ⟨b0, s0, s1, trivial⟩ (ih5 _ _ _ _ _ h K q)
    · rw [if_neg b0] at h
      replace b0 := Bool.eq_false_iff.2 b0
      by_cases b1 : (Decidable.decide (x0 < 0)) = true
      · rw [if_pos b1] at h
        obtain ⟨s0, h⟩ := h
        obtain ⟨s1, s2, h⟩ := h
        obtain ⟨s3, h⟩ := h
        obtain ⟨s4, h⟩ := h
        obtain ⟨s5, h⟩ := h
        obtain ⟨s6, h⟩ := h
        obtain ⟨s7, s8, h⟩ := h
        obtain ⟨s9, h⟩ := h
        obtain ⟨s10, h⟩ := h
        subst h
        exact AtV.fin Tryd.func21 tabOk ext21Ok mixed (p21_4 v5 v16 x0 x1) ⟨b0, b1, s0, s1, s2, s3, s4, s5, s6, s7, s8, s9, s10, trivial⟩
      · rw [if_neg b1] at h
        replace b1 := Bool.eq_false_iff.2 b1
        obtain ⟨s0, h⟩ := h
        obtain ⟨s1, s2, h⟩ := h
        obtain ⟨s3, h⟩ := h
        obtain ⟨s4, h⟩ := h
        obtain ⟨s5, h⟩ := h
        obtain ⟨s6, h⟩ := h
        obtain ⟨s7, s8, h⟩ := h
        obtain ⟨s9, h⟩ := h
        obtain ⟨s10, h⟩ := h
        subst h
        exact AtV.fin Tryd.func21 tabOk ext21Ok mixed (p21_5 v5 v16 x0 x1) ⟨b0, b1, s0, s1, s2, s3, s4, s5, s6, s7, s8, s9, s10, trivial⟩



def u21 (x1 : Int) : Nat := 10 ^ x1.toNat
def g21_0 (x0 x1 : Int) : ByteArray := if (!g30_0 x0 (-1000000000) 1000000000) = true then ⟨#[]⟩ else if (!g30_0 x1 1 6) = true then ⟨#[]⟩ else
  (if x0 < 0 then ByteArray.mk #[45] else ByteArray.mk #[]) ++ g22_0 ((x0.natAbs / u21 x1 : Nat) : Int) ++ ByteArray.mk #[46] ++ g32_0 ((x0.natAbs % u21 x1 : Nat) : Int) x1
def P21 (x0 x1 : Int) : Prop := True

theorem win21 {x a b : Int} (h : ¬ (!g30_0 x a b) = true) : a ≤ x ∧ x ≤ b := by
  unfold g30_0 at h
  by_cases c1 : x ≥ a
  · by_cases c2 : x ≤ b
    · exact ⟨c1, c2⟩
    · simp [c1, c2] at h
  · simp [c1] at h

theorem abs21 {x : Int} (h : -1000000000 ≤ x ∧ x ≤ 1000000000) : P31 x ∧ g31_0 x = ((x.natAbs : Nat) : Int) := by
  unfold P31 g31_0
  by_cases c : x < 0
  · simp only [c, decide_true, if_true, i64_iff]
    constructor
    · first | omega | (refine ⟨?_, trivial⟩; omega)
    · omega
  · simp only [c, decide_false, Bool.false_eq_true, if_false]
    constructor
    · first | trivial | omega
    · omega

theorem dec21 {k : Nat} (h : k ≤ 1000000000) : P22 (k : Int) ∧ (g22_0 (k : Int)).size ≤ 21 :=
  ⟨⟨rfl, trivial⟩, numB_size _ (by omega) (by omega)⟩

theorem pad21 {k : Nat} {d : Int} (h : k ≤ 1000000000) (h1 : 1 ≤ d) (h6 : d ≤ 6) : P32 (k : Int) d ∧ (g32_0 (k : Int) d).size ≤ 27 := by
  obtain ⟨p, hs⟩ := dec21 h
  unfold P32 g32_0
  generalize g22_0 (k : Int) = t at *
  have hm : 0 ≤ (if 0 < d - (t.size : Int) then d - (t.size : Int) else 0) ∧ (if 0 < d - (t.size : Int) then d - (t.size : Int) else 0) ≤ 6 := by
    split <;> omega
  generalize (if 0 < d - (t.size : Int) then d - (t.size : Int) else 0) = c at *
  have hr : (g37_0 (ByteArray.mk #[48]) c).size = c.toNat := by
    show (Lib.repeatL [48] c.toNat).toArray.size = _
    rw [List.size_toArray, Lib.repeatL_length]
    simp
  have h1 : ((ByteArray.mk #[48]).size : Int) = 1 := rfl
  refine ⟨⟨p, by rw [i64_iff]; omega, ⟨hm.1, by rw [h1]; omega⟩, by omega, trivial⟩, ?_⟩
  rw [ByteArray.size_append]
  omega

theorem run21 (x0 x1 : Int) (h0 : -1000000000 ≤ x0 ∧ x0 ≤ 1000000000) (h1 : 1 ≤ x1 ∧ x1 ≤ 6) : ∀ (k i : Nat), (i : Int) + k = x1 → R21_5 (k + 1) ((10 ^ i : Nat) : Int) (i : Int) x0 x1 [⟨.str, (if x0 < 0 then ByteArray.mk #[45] else ByteArray.mk #[]) ++ g22_0 ((x0.natAbs / u21 x1 : Nat) : Int) ++ ByteArray.mk #[46] ++ g32_0 ((x0.natAbs % u21 x1 : Nat) : Int) x1⟩]
  | 0, i, hi => by
    have e : x1.toNat = i := by omega
    have hu : u21 x1 = 10 ^ i := by unfold u21; rw [e]
    rw [R21_5, if_neg (by simp only [decide_eq_true_eq]; omega), hu]
    obtain ⟨pa, ea⟩ := abs21 h0
    rw [ea]
    have hp : 1 ≤ 10 ^ i := Nat.one_le_pow _ _ (by decide)
    have hp6 : 10 ^ i ≤ 10 ^ 6 := Nat.pow_le_pow_right (by decide) (by omega)
    generalize 10 ^ i = q at *
    have hA : x0.natAbs ≤ 1000000000 := by omega
    generalize x0.natAbs = A at *
    have t1 : Int.tdiv (A : Int) (q : Int) = ((A / q : Nat) : Int) := rfl
    have t2 : Int.tmod (A : Int) (q : Int) = ((A % q : Nat) : Int) := rfl
    have b1 : A / q ≤ 1000000000 := Nat.le_trans (Nat.div_le_self _ _) hA
    have b2 : A % q ≤ 1000000000 := Nat.le_trans (Nat.mod_le _ _) hA
    rw [t1, t2]
    clear t1 t2
    generalize A / q = k1 at *
    generalize A % q = k2 at *
    obtain ⟨d1, d2⟩ := dec21 b1
    obtain ⟨e1, e2⟩ := pad21 b2 h1.1 h1.2
    have z1 : (ByteArray.mk #[45]).size = 1 := rfl
    have z2 : (ByteArray.mk #[46]).size = 1 := rfl
    have z0 : (ByteArray.mk #[]).size = 0 := rfl
    by_cases hx : x0 < 0
    · simp only [hx, decide_true, if_true]
      exact ⟨pa, by omega, by rw [i64_iff]; omega, d1, by omega, by rw [ByteArray.size_append]; omega, pa, by omega, by rw [i64_iff]; omega, e1, by rw [ByteArray.size_append, ByteArray.size_append]; omega, trivial⟩
    · simp only [hx, decide_false, Bool.false_eq_true, if_false]
      exact ⟨pa, by omega, by rw [i64_iff]; omega, d1, by omega, by rw [ByteArray.size_append]; omega, pa, by omega, by rw [i64_iff]; omega, e1, by rw [ByteArray.size_append, ByteArray.size_append]; omega, trivial⟩
  | k + 1, i, hi => by
    rw [R21_5, if_pos (by simp only [decide_eq_true_eq]; omega)]
    have hp : 10 ^ i ≤ 10 ^ 17 := Nat.pow_le_pow_right (by decide) (by omega)
    have hp2 : 10 ^ i ≤ 100000000000000000 := hp
    have ih := run21 x0 x1 h0 h1 k (i + 1) (by omega)
    have e1 : ((10 ^ i : Nat) : Int) * 10 = ((10 ^ (i + 1) : Nat) : Int) := by rw [Nat.pow_succ, Int.natCast_mul]; rfl
    have e2 : (i : Int) + 1 = ((i + 1 : Nat) : Int) := by omega
    rw [e1, e2]
    refine ⟨?_, by rw [i64_iff]; omega, ih⟩
    rw [← e1, i64_iff]
    generalize 10 ^ i = q at *
    omega

theorem top21 (x0 x1 : Int) : ∃ n, R21 n x0 x1 [⟨.str, g21_0 x0 x1⟩] := by
  unfold g21_0
  by_cases c0 : (!g30_0 x0 (-1000000000) 1000000000) = true
  · exact ⟨1, by rw [R21, if_pos c0, if_pos c0]⟩
  · by_cases c1 : (!g30_0 x1 1 6) = true
    · exact ⟨1, by rw [R21, if_neg c0, if_pos c1, if_neg c0, if_pos c1]⟩
    · have w1 := win21 c1
      refine ⟨x1.toNat + 1 + 1, ?_⟩
      rw [R21, if_neg c0, if_neg c1, if_neg c0, if_neg c1]
      exact run21 x0 x1 (win21 c0) w1 x1.toNat 0 (by omega)

def S21 : Am.Spec := { sig := sig21, pre := fun ⟨x0, x1, _⟩ => P21 x0 x1, res := fun ⟨x0, x1, _⟩ => [⟨.str, g21_0 x0 x1⟩] }
theorem con21 : Contract Tryd.prog 21 S21 := contract_of Tryd.func21 hb21 (Nat.le_of_ble_eq_true (by kernel_rfl)) (fun ⟨x0, x1, _⟩ h hwf K q => by
  obtain ⟨n, hn⟩ := top21 x0 x1
  exact (snd21 n).1 x0 x1 _ hn K q)

end
end Go.Proofs.YtpledggbnnjbiaaDoor

/- Function 39 (strings.Join): its contract, off what is known of the library. -/
set_option linter.unusedVariables false
set_option linter.unusedSimpArgs false
set_option maxRecDepth 100000
namespace Go.Proofs.YtpledggbnnjbiaaDoor
open Go Go.Am Go.Proofs

def sig39 : List AT := [AT.v (Ty.sl Ty.str), AT.v Ty.str]
def g39_0 (x0 : List ByteArray) (x1 : ByteArray) : ByteArray := ⟨(Lib.join (x0.map fun x => x.data.toList) x1.data.toList).toArray⟩
def P39 (x0 : List ByteArray) (x1 : ByteArray) : Prop := x0.length ≤ 1048576 ∧ (Lib.join (x0.map fun x => x.data.toList) x1.data.toList).length ≤ 140737488355328
def S39 : Am.Spec := { sig := sig39, pre := fun ⟨x0, x1, _⟩ => P39 x0 x1, res := fun ⟨x0, x1, _⟩ => [⟨Ty.str, g39_0 x0 x1⟩] }
theorem con39 : Contract Tryd.prog 39 S39 := contract_flat rfl fun w ⟨x0, x1, _⟩ vs bss hg hp hw ha => by
  obtain ⟨v0, s0, _, _, rfl, _, ⟨_, ho⟩, v1, s1, _, _, rfl, _, ⟨_, rfl, _⟩, rfl, _⟩ := ha
  obtain ⟨h0, h1⟩ : x0.length ≤ 1048576 ∧ (Lib.join (x0.map fun x => x.data.toList) x1.data.toList).length ≤ 140737488355328 := hp
  refine ⟨fun d hd => ?_, ?_⟩
  · rw [List.mem_singleton.1 hd]
    refine ⟨rfl, ?_⟩
    show (List.toArray _).size ≤ maxLen
    rw [List.size_toArray]; exact Nat.le_trans h1 (by decide)
  · obtain ⟨_, _, hcase⟩ := slAt_flat (t := .str) rfl ho
    rcases hcase with ⟨ad, rfl, rfl⟩ | ⟨b', off, cap, rfl, h2, h3, hG, hcells⟩
    · refine (Tryd.strings_Join_none ad 0 x1 w).mono ?_
      rintro e w' ⟨rfl, rfl⟩
      exact ⟨rfl, Kept.refl _ _⟩
    · refine (Tryd.strings_Join b' off cap x0 x1 w (fun j x hx => ?_) hG.1 (by omega) h2 h1).mono ?_
      · refine hcells j _ ?_
        have e : fcs .str x0 = x0.map Value.string := by
          have : ∀ xs : List ByteArray, fcs .str xs = xs.map Value.string := by
            intro xs
            induction xs with
            | nil => rfl
            | cons a r ih => unfold fcs at ih ⊢; rw [List.map_cons, List.flatten_cons, ih]; rfl
          exact this x0
        rw [e, List.getElem?_map, hx]
        rfl
      · rintro e w' ⟨rfl, hb⟩
        exact ⟨rfl, Kept.of_below hb⟩

end Go.Proofs.YtpledggbnnjbiaaDoor

/- Function 38 (strings.TrimRight): its contract, off what is known of the library. -/
set_option linter.unusedVariables false
set_option linter.unusedSimpArgs false
set_option maxRecDepth 100000
namespace Go.Proofs.YtpledggbnnjbiaaDoor
open Go Go.Am Go.Proofs
def sig38 : List AT := [AT.v Ty.str, AT.v Ty.str]
def g38_0 (x0 x1 : ByteArray) : ByteArray := ⟨(Lib.trimRightB x0.data.toList (x1.data.toList.getD 0 0)).toArray⟩
def P38 (x0 x1 : ByteArray) : Prop := ∃ c : UInt8, x1 = ⟨#[c]⟩ ∧ c.toNat < 128
def S38 : Am.Spec := { sig := sig38, pre := fun ⟨x0, x1, _⟩ => P38 x0 x1, res := fun ⟨x0, x1, _⟩ => [⟨Ty.str, g38_0 x0 x1⟩] }

theorem trl38 (l : List UInt8) (c : UInt8) : (Lib.trimRightB l c).length ≤ l.length := by
  unfold Lib.trimRightB
  first
  | (rw [List.length_reverse]; exact Nat.le_trans (List.dropWhile_sublist _).length_le (by rw [List.length_reverse]; exact Nat.le_refl _))
  | (simp; done)

theorem con38 : Contract Tryd.prog 38 S38 := contract_flat rfl fun w ⟨x0, x1, _⟩ vs bss hg hp hw ha => by
  obtain ⟨v0, s0, _, _, rfl, _, ⟨_, rfl, _⟩, v1, s1, _, _, rfl, _, ⟨_, rfl, _⟩, rfl, _⟩ := ha
  have hi : x0.size ≤ maxLen := hw.1
  obtain ⟨c, rfl, hc⟩ := hp
  refine ⟨fun d hd => ?_, ?_⟩
  · rw [List.mem_singleton.1 hd]
    refine ⟨rfl, ?_⟩
    show (List.toArray _).size ≤ maxLen
    rw [List.size_toArray]
    have e : x0.data.toList.length = x0.size := rfl
    have := trl38 x0.data.toList c
    show (Lib.trimRightB x0.data.toList c).length ≤ maxLen
    omega
  · refine (Tryd.strings_TrimRight_one x0 c hc w hi).mono ?_
    rintro e w' ⟨rfl, rfl⟩
    exact ⟨rfl, Kept.refl _ _⟩

end Go.Proofs.YtpledggbnnjbiaaDoor

/- Function 90 (impl.isReportLine$1): its runs between cut points. Written by a program of this repo (gen). -/
set_option linter.unusedVariables false
set_option linter.unusedSimpArgs false
set_option maxRecDepth 100000
namespace Go.Proofs.YtpledggbnnjbiaaDoor
open Go Go.Am Go.Proofs
noncomputable section
def ext90 : Ext := []
theorem ext90Ok : ExtOk Tryd.prog ext90 := trivial

noncomputable def b90 : Code := bodyOf Tryd.f90
theorem hb90 : Tryd.f90.body = some b90 := by kernel_rfl
def sig90 : List AT := [AT.v (Ty.int IntKind.u8)]
def tys90 : List Ty := [Ty.bool]
def kds90 : List RK := []
def oks90 : List AT := owns sig90
def P90 (x0 : Int) : Prop := True
def g90_0 (x0 : Int) : Bool := (if (Decidable.decide (x0 < 32)) = true then Bool.true else Decidable.decide (x0 > 126))
theorem p90_0 (x0 : Int) : runF tab ext90 false 9 [] 2000 [] oks90 kds90 tys90 Tryd.f90.results [true] [.code b90] (entE 0 0 sig90 (x0, ())) (entL sig90 (x0, ())) = some ([Dyn.mk Ty.bool Bool.true], [], [Decidable.decide (x0 < 32) = Bool.true]) := by kernel_rfl
theorem p90_1 (x0 : Int) : runF tab ext90 false 9 [] 2000 [] oks90 kds90 tys90 Tryd.f90.results [false] [.code b90] (entE 0 0 sig90 (x0, ())) (entL sig90 (x0, ())) = some ([Dyn.mk Ty.bool (Decidable.decide (x0 > 126))], [], [Decidable.decide (x0 < 32) = Bool.false]) := by kernel_rfl
theorem at90 (x0 : Int) (h : P90 x0) (K : Ctx) (q : Nat → Value) : AtV Tryd.prog 90 (PostR kds90 oks90 [⟨Ty.bool, g90_0 x0⟩] [] [] q K) 9 K q [] [.code b90] (entE 0 0 sig90 (x0, ())) (entL sig90 (x0, ())) := by
  unfold P90 at h
  unfold g90_0
  by_cases b0 : (Decidable.decide (x0 < 32)) = true
  · try simp only [if_pos b0] at h ⊢
    exact AtV.fin Tryd.func90 tabOk ext90Ok mixed (p90_0 x0) ⟨b0, trivial⟩
  · try simp only [if_neg b0] at h ⊢
    replace b0 := Bool.eq_false_iff.2 b0
    exact AtV.fin Tryd.func90 tabOk ext90Ok mixed (p90_1 x0) ⟨b0, trivial⟩

def S90 : Am.Spec := { sig := sig90, pre := fun ⟨x0, _⟩ => P90 x0, res := fun ⟨x0, _⟩ => [⟨Ty.bool, g90_0 x0⟩], kds := kds90 }
theorem con90 : Contract Tryd.prog 90 S90 := contract_of Tryd.func90 hb90 (Nat.le_of_ble_eq_true (by kernel_rfl)) (fun ⟨x0, _⟩ h _ K q => at90 x0 h K q)


end
end Go.Proofs.YtpledggbnnjbiaaDoor

/- Function 69 (slices.IndexFunc[[]byte,byte]): its runs between cut points. Written by a program of this repo (gen). -/
set_option linter.unusedVariables false
set_option linter.unusedSimpArgs false
set_option maxRecDepth 100000
namespace Go.Proofs.YtpledggbnnjbiaaDoor
open Go Go.Am Go.Proofs
noncomputable section
def ext69c90 : Ext := [(90, S90)]
theorem call69c90_90 : Callable Tryd.prog 90 := ⟨Tryd.f90, Tryd.func90, by kernel_rfl, by kernel_rfl⟩
theorem ext69c90Ok : ExtOk Tryd.prog ext69c90 := ⟨⟨call69c90_90, con90⟩, trivial⟩

noncomputable def b69c90 : Code := bodyOf Tryd.f69
theorem hb69c90 : Tryd.f69.body = some b69c90 := by kernel_rfl
def sig69c90 : List AT := [AT.v (Ty.sl (Ty.int IntKind.u8)), AT.fn 90 []]
def tys69c90 : List Ty := [Ty.int IntKind.i64]
def kds69c90 : List RK := []
def oks69c90 : List AT := owns sig69c90
def E69c90_2 (v8 : Int) (x0 : List Int) : Env := [(0, PV.a (Atom.sl (Ty.int IntKind.u8) x0)), (1, PV.fn 90 []), (7, PV.a (Atom.val (Value.int IntKind.i64 (↑(List.length x0) : Int)))), (8, PV.a (Atom.val (Value.int IntKind.i64 v8)))]
def L69c90_2 (v8 : Int) (x0 : List Int) : Heap := []
mutual
def R69c90 : Nat → List Int → List Dyn → Prop
  | 0, _, _ => False
  | n + 1, x0, ds => (R69c90_2 n (0) (x0) ds)
def R69c90_2 : Nat → Int → List Int → List Dyn → Prop
  | 0, _, _, _ => False
  | n + 1, v8, x0, ds => (if (Decidable.decide (v8 < (↑(List.length x0) : Int))) = true then ((0 ≤ v8) ∧ (v8 < (↑(List.length x0) : Int)) ∧ (if (g90_0 (List.getD x0 (Int.toNat v8) 0)) = true then (ds = [Dyn.mk (Ty.int IntKind.i64) v8]) else ((InR IntKind.i64 (v8 + 1)) ∧ (R69c90_2 n (v8 + 1) (x0) ds)))) else (ds = [Dyn.mk (Ty.int IntKind.i64) (-1)]))
end
theorem p69c90_0 (x0 : List Int) : Am.runN tab ext69c90 false 19 [] 2000 [] [] [0, 1, 7, 8] [] [] [.code b69c90] (entE 0 0 sig69c90 (x0, (), ())) (entL sig69c90 (x0, (), ())) = some (cutAt b69c90 2, E69c90_2 (0) (x0), L69c90_2 (0) (x0), []) := by kernel_rfl
theorem p69c90_1 (v8 : Int) (x0 : List Int) : runF tab ext69c90 false 19 [] 2000 [] oks69c90 kds69c90 tys69c90 Tryd.f69.results [true, true] (cutAt b69c90 2) (E69c90_2 v8 x0) (L69c90_2 v8 x0) = some ([Dyn.mk (Ty.int IntKind.i64) v8], [], [Decidable.decide (v8 < (↑(List.length x0) : Int)) = Bool.true, 0 ≤ v8, v8 < (↑(List.length x0) : Int), True, g90_0 (List.getD x0 (Int.toNat v8) 0) = Bool.true]) := by kernel_rfl
theorem p69c90_2 (v8 : Int) (x0 : List Int) : Am.runN tab ext69c90 false 19 [] 2000 [] [] [0, 1, 7, 8] [] [true, false] (cutAt b69c90 2) (E69c90_2 v8 x0) (L69c90_2 v8 x0) = some (cutAt b69c90 2, E69c90_2 (v8 + 1) (x0), L69c90_2 (v8 + 1) (x0), [Decidable.decide (v8 < (↑(List.length x0) : Int)) = Bool.true, 0 ≤ v8, v8 < (↑(List.length x0) : Int), True, g90_0 (List.getD x0 (Int.toNat v8) 0) = Bool.false, InR IntKind.i64 (v8 + 1)]) := by kernel_rfl
theorem p69c90_3 (v8 : Int) (x0 : List Int) : runF tab ext69c90 false 19 [] 2000 [] oks69c90 kds69c90 tys69c90 Tryd.f69.results [false] (cutAt b69c90 2) (E69c90_2 v8 x0) (L69c90_2 v8 x0) = some ([Dyn.mk (Ty.int IntKind.i64) (-1)], [], [Decidable.decide (v8 < (↑(List.length x0) : Int)) = Bool.false]) := by kernel_rfl
theorem snd69c90 : ∀ n, (∀ (x0 : List Int) ds, R69c90 n x0 ds → ∀ K q, AtV Tryd.prog 69 (PostR kds69c90 oks69c90 ds [] [] q K) 19 K q [] [.code b69c90] (entE 0 0 sig69c90 (x0, (), ())) (entL sig69c90 (x0, (), ()))) ∧ (∀ (v8 : Int) (x0 : List Int) ds, R69c90_2 n v8 x0 ds → ∀ K q, AtV Tryd.prog 69 (PostR kds69c90 oks69c90 ds [] [] q K) 19 K q [] (cutAt b69c90 2) (E69c90_2 v8 x0) (L69c90_2 v8 x0)) := by
  intro n
  induction n with
  | zero => exact ⟨fun _ _ h => by simp only [R69c90] at h, fun _ _ _ h => by simp only [R69c90_2] at h⟩
  | succ n ih =>
  obtain ⟨ih, ih2⟩ := ih
  refine ⟨?_, ?_⟩
  · intro x0 ds h K q
    rw [R69c90] at h
    exact AtV.runN tabOk ext69c90Ok mixed (p69c90_0 x0) trivial (ih2 _ _ _ h K q)

  · intro v8 x0 ds h K q
    rw [R69c90_2] at h
    by_cases b0 : (Decidable.decide (v8 < (↑(List.length x0) : Int))) = true
    · rw [if_pos b0] at h
      obtain ⟨s0, s1, h⟩ := h
      by_cases b1 : (g90_0 (List.getD x0 (Int.toNat v8) 0)) = true
      · rw [if_pos b1] at h
        subst h
        exact AtV.fin Tryd.func69 tabOk ext69c90Ok mixed (p69c90_1 v8 x0) ⟨b0, s0, s1, trivial, b1, trivial⟩
      · rw [if_neg b1] at h
        replace b1 := Bool.eq_false_iff.2 b1
        obtain ⟨s2, h⟩ := h
        exact AtV.runN tabOk ext69c90Ok mixed (p69c90_2 v8 x0) ⟨b0, s0, s1, trivial, b1, s2, trivial⟩ (ih2 _ _ _ h K q)
    · rw [if_neg b0] at h
      replace b0 := Bool.eq_false_iff.2 b0
      subst h
      exact AtV.fin Tryd.func69 tabOk ext69c90Ok mixed (p69c90_3 v8 x0) ⟨b0, trivial⟩



def g69c90_0 (x0 : List (Int)) : Int := idx (x0.findIdx? g90_0)
def P69c90 (x0 : List (Int)) : Prop := True

theorem top69c90 (x0 : List (Int)) (hm : x0.length ≤ maxLen) : R69c90 (x0.length + 1 + 1) x0 [⟨.int .i64, g69c90_0 x0⟩] := by
  rw [R69c90]
  have key := loop_find x0 (0 : Int) g90_0 [(⟨.int .i64, -1⟩ : Dyn)] (fun k => [⟨.int .i64, k⟩]) (fun n i ds => R69c90_2 n i x0 ds) (fun n => ?_) (fun n i hi hok ds hr => ?_) (fun n i hi hok => ?_)
  · unfold g69c90_0
    cases h : x0.findIdx? g90_0 <;> rw [h] at key <;> exact key
  · rw [R69c90_2, if_neg (by simp)]
  · rw [R69c90_2, if_pos (by simp; omega)]
    simp only [Int.toNat_natCast]
    refine ⟨by omega, by omega, ?_⟩
    rw [if_neg (by rw [hok]; simp)]
    exact ⟨inR_up hm hi, hr⟩
  · rw [R69c90_2, if_pos (by simp; omega)]
    simp only [Int.toNat_natCast]
    refine ⟨by omega, by omega, ?_⟩
    rw [if_pos hok] <;> trivial

def S69c90 : Am.Spec := { sig := sig69c90, pre := fun ⟨x0, _⟩ => P69c90 x0, res := fun ⟨x0, _⟩ => [⟨Ty.int .i64, g69c90_0 x0⟩] }
theorem con69c90 : Contract Tryd.prog 69 S69c90 := contract_of Tryd.func69 hb69c90 (Nat.le_of_ble_eq_true (by kernel_rfl)) (fun ⟨x0, _⟩ h hwf K q =>
  (snd69c90 _).1 x0 _ (top69c90 x0 hwf.1.1) K q)

theorem any69c90 (x0 : List (Int)) : decide (g69c90_0 x0 ≥ 0) = x0.any g90_0 := by
  have := findIdx_any g90_0 x0
  unfold g69c90_0
  cases h : x0.any g90_0 with
  | true => rw [h] at this; simpa using this
  | false => rw [h] at this; simpa using this

end
end Go.Proofs.YtpledggbnnjbiaaDoor

/- Function 49 (slices.ContainsFunc[[]byte,byte]): its runs between cut points. Written by a program of this repo (gen). -/
set_option linter.unusedVariables false
set_option linter.unusedSimpArgs false
set_option maxRecDepth 100000
namespace Go.Proofs.YtpledggbnnjbiaaDoor
open Go Go.Am Go.Proofs
noncomputable section
def ext49c90 : Ext := [(69, S69c90), (90, S90)]
theorem call49c90_69 : Callable Tryd.prog 69 := ⟨Tryd.f69, Tryd.func69, by kernel_rfl, by kernel_rfl⟩
theorem call49c90_90 : Callable Tryd.prog 90 := ⟨Tryd.f90, Tryd.func90, by kernel_rfl, by kernel_rfl⟩
theorem ext49c90Ok : ExtOk Tryd.prog ext49c90 := ⟨⟨call49c90_69, con69c90⟩, ⟨call49c90_90, con90⟩, trivial⟩

noncomputable def b49c90 : Code := bodyOf Tryd.f49
theorem hb49c90 : Tryd.f49.body = some b49c90 := by kernel_rfl
def sig49c90 : List AT := [AT.v (Ty.sl (Ty.int IntKind.u8)), AT.fn 90 []]
def tys49c90 : List Ty := [Ty.bool]
def kds49c90 : List RK := []
def oks49c90 : List AT := owns sig49c90
def P49c90 (x0 : List Int) : Prop := True
def g49c90_0 (x0 : List Int) : Bool := Decidable.decide (g69c90_0 x0 ≥ 0)
theorem p49c90_0 (x0 : List Int) : runF tab ext49c90 false 9 [] 2000 [] oks49c90 kds49c90 tys49c90 Tryd.f49.results [] [.code b49c90] (entE 0 0 sig49c90 (x0, (), ())) (entL sig49c90 (x0, (), ())) = some ([Dyn.mk Ty.bool (Decidable.decide (g69c90_0 x0 ≥ 0))], [], [True]) := by kernel_rfl
theorem at49c90 (x0 : List Int) (h : P49c90 x0) (K : Ctx) (q : Nat → Value) : AtV Tryd.prog 49 (PostR kds49c90 oks49c90 [⟨Ty.bool, g49c90_0 x0⟩] [] [] q K) 9 K q [] [.code b49c90] (entE 0 0 sig49c90 (x0, (), ())) (entL sig49c90 (x0, (), ())) := by
  unfold P49c90 at h
  unfold g49c90_0
  exact AtV.fin Tryd.func49 tabOk ext49c90Ok mixed (p49c90_0 x0) ⟨trivial, trivial⟩

def S49c90 : Am.Spec := { sig := sig49c90, pre := fun ⟨x0, _⟩ => P49c90 x0, res := fun ⟨x0, _⟩ => [⟨Ty.bool, g49c90_0 x0⟩], kds := kds49c90 }
theorem con49c90 : Contract Tryd.prog 49 S49c90 := contract_of Tryd.func49 hb49c90 (Nat.le_of_ble_eq_true (by kernel_rfl)) (fun ⟨x0, _⟩ h _ K q => at49c90 x0 h K q)


end
end Go.Proofs.YtpledggbnnjbiaaDoor

/- Function 79 (impl.isReportLine): its runs between cut points. Written by a program of this repo (gen). -/
set_option linter.unusedVariables false
set_option linter.unusedSimpArgs false
set_option maxRecDepth 100000
namespace Go.Proofs.YtpledggbnnjbiaaDoor
open Go Go.Am Go.Proofs
noncomputable section
def ext79 : Ext := [(49, S49c90)]
theorem call79_49 : Callable Tryd.prog 49 := ⟨Tryd.f49, Tryd.func49, by kernel_rfl, by kernel_rfl⟩
theorem ext79Ok : ExtOk Tryd.prog ext79 := ⟨⟨call79_49, con49c90⟩, trivial⟩

noncomputable def b79 : Code := bodyOf Tryd.f79
theorem hb79 : Tryd.f79.body = some b79 := by kernel_rfl
def sig79 : List AT := [AT.v (Ty.str)]
def tys79 : List Ty := [Ty.bool]
def kds79 : List RK := []
def oks79 : List AT := owns sig79
def P79 (x0 : ByteArray) : Prop := True
def g79_0 (x0 : ByteArray) : Bool := (if (Decidable.decide ((↑(ByteArray.size x0) : Int) ≤ 100)) = true then !g49c90_0 (bytesOf x0) else Bool.false)
theorem p79_0 (x0 : ByteArray) : runF tab ext79 false 12 [] 2000 [] oks79 kds79 tys79 Tryd.f79.results [true] [.code b79] (entE 0 0 sig79 (x0, ())) (entL sig79 (x0, ())) = some ([Dyn.mk Ty.bool !g49c90_0 (bytesOf x0)], [], [Decidable.decide ((↑(ByteArray.size x0) : Int) ≤ 100) = Bool.true, True]) := by kernel_rfl
theorem p79_1 (x0 : ByteArray) : runF tab ext79 false 12 [] 2000 [] oks79 kds79 tys79 Tryd.f79.results [false] [.code b79] (entE 0 0 sig79 (x0, ())) (entL sig79 (x0, ())) = some ([Dyn.mk Ty.bool Bool.false], [], [Decidable.decide ((↑(ByteArray.size x0) : Int) ≤ 100) = Bool.false]) := by kernel_rfl
theorem at79 (x0 : ByteArray) (h : P79 x0) (K : Ctx) (q : Nat → Value) : AtV Tryd.prog 79 (PostR kds79 oks79 [⟨Ty.bool, g79_0 x0⟩] [] [] q K) 12 K q [] [.code b79] (entE 0 0 sig79 (x0, ())) (entL sig79 (x0, ())) := by
  unfold P79 at h
  unfold g79_0
  by_cases b0 : (Decidable.decide ((↑(ByteArray.size x0) : Int) ≤ 100)) = true
  · try simp only [if_pos b0] at h ⊢
    exact AtV.fin Tryd.func79 tabOk ext79Ok mixed (p79_0 x0) ⟨b0, trivial, trivial⟩
  · try simp only [if_neg b0] at h ⊢
    replace b0 := Bool.eq_false_iff.2 b0
    exact AtV.fin Tryd.func79 tabOk ext79Ok mixed (p79_1 x0) ⟨b0, trivial⟩

def S79 : Am.Spec := { sig := sig79, pre := fun ⟨x0, _⟩ => P79 x0, res := fun ⟨x0, _⟩ => [⟨Ty.bool, g79_0 x0⟩], kds := kds79 }
theorem con79 : Contract Tryd.prog 79 S79 := contract_of Tryd.func79 hb79 (Nat.le_of_ble_eq_true (by kernel_rfl)) (fun ⟨x0, _⟩ h _ K q => at79 x0 h K q)


end
end Go.Proofs.YtpledggbnnjbiaaDoor

/- Function 78 (impl.ValidReport$1): its runs between cut points. Written by a program of this repo (gen). -/
set_option linter.unusedVariables false
set_option linter.unusedSimpArgs false
set_option maxRecDepth 100000
namespace Go.Proofs.YtpledggbnnjbiaaDoor
open Go Go.Am Go.Proofs
noncomputable section
def ext78 : Ext := [(79, S79)]
theorem call78_79 : Callable Tryd.prog 79 := ⟨Tryd.f79, Tryd.func79, by kernel_rfl, by kernel_rfl⟩
theorem ext78Ok : ExtOk Tryd.prog ext78 := ⟨⟨call78_79, con79⟩, trivial⟩

noncomputable def b78 : Code := bodyOf Tryd.f78
theorem hb78 : Tryd.f78.body = some b78 := by kernel_rfl
def sig78 : List AT := [AT.v (Ty.str)]
def tys78 : List Ty := [Ty.bool]
def kds78 : List RK := []
def oks78 : List AT := owns sig78
def P78 (x0 : ByteArray) : Prop := True
def g78_0 (x0 : ByteArray) : Bool := !g79_0 x0
theorem p78_0 (x0 : ByteArray) : runF tab ext78 false 6 [] 2000 [] oks78 kds78 tys78 Tryd.f78.results [] [.code b78] (entE 0 0 sig78 (x0, ())) (entL sig78 (x0, ())) = some ([Dyn.mk Ty.bool !g79_0 x0], [], [True]) := by kernel_rfl
theorem at78 (x0 : ByteArray) (h : P78 x0) (K : Ctx) (q : Nat → Value) : AtV Tryd.prog 78 (PostR kds78 oks78 [⟨Ty.bool, g78_0 x0⟩] [] [] q K) 6 K q [] [.code b78] (entE 0 0 sig78 (x0, ())) (entL sig78 (x0, ())) := by
  unfold P78 at h
  unfold g78_0
  exact AtV.fin Tryd.func78 tabOk ext78Ok mixed (p78_0 x0) ⟨trivial, trivial⟩

def S78 : Am.Spec := { sig := sig78, pre := fun ⟨x0, _⟩ => P78 x0, res := fun ⟨x0, _⟩ => [⟨Ty.bool, g78_0 x0⟩], kds := kds78 }
theorem con78 : Contract Tryd.prog 78 S78 := contract_of Tryd.func78 hb78 (Nat.le_of_ble_eq_true (by kernel_rfl)) (fun ⟨x0, _⟩ h _ K q => at78 x0 h K q)


end
end Go.Proofs.YtpledggbnnjbiaaDoor

/- Function 68 (slices.IndexFunc[[]string,string]): its runs between cut points. Written by a program of this repo (gen). -/
set_option linter.unusedVariables false
set_option linter.unusedSimpArgs false
set_option maxRecDepth 100000
namespace Go.Proofs.YtpledggbnnjbiaaDoor
open Go Go.Am Go.Proofs
noncomputable section
def ext68c78 : Ext := [(78, S78)]
theorem call68c78_78 : Callable Tryd.prog 78 := ⟨Tryd.f78, Tryd.func78, by kernel_rfl, by kernel_rfl⟩
theorem ext68c78Ok : ExtOk Tryd.prog ext68c78 := ⟨⟨call68c78_78, con78⟩, trivial⟩

noncomputable def b68c78 : Code := bodyOf Tryd.f68
theorem hb68c78 : Tryd.f68.body = some b68c78 := by kernel_rfl
def sig68c78 : List AT := [AT.v (Ty.sl Ty.str), AT.fn 78 []]
def tys68c78 : List Ty := [Ty.int IntKind.i64]
def kds68c78 : List RK := []
def oks68c78 : List AT := owns sig68c78
def E68c78_2 (v8 : Int) (x0 : List ByteArray) : Env := [(0, PV.a (Atom.sl Ty.str x0)), (1, PV.fn 78 []), (7, PV.a (Atom.val (Value.int IntKind.i64 (↑(List.length x0) : Int)))), (8, PV.a (Atom.val (Value.int IntKind.i64 v8)))]
def L68c78_2 (v8 : Int) (x0 : List ByteArray) : Heap := []
mutual
def R68c78 : Nat → List ByteArray → List Dyn → Prop
  | 0, _, _ => False
  | n + 1, x0, ds => (R68c78_2 n (0) (x0) ds)
def R68c78_2 : Nat → Int → List ByteArray → List Dyn → Prop
  | 0, _, _, _ => False
  | n + 1, v8, x0, ds => (if (Decidable.decide (v8 < (↑(List.length x0) : Int))) = true then ((0 ≤ v8) ∧ (v8 < (↑(List.length x0) : Int)) ∧ (if (g78_0 (List.getD x0 (Int.toNat v8) ByteArray.empty)) = true then (ds = [Dyn.mk (Ty.int IntKind.i64) v8]) else ((InR IntKind.i64 (v8 + 1)) ∧ (R68c78_2 n (v8 + 1) (x0) ds)))) else (ds = [Dyn.mk (Ty.int IntKind.i64) (-1)]))
end
theorem p68c78_0 (x0 : List ByteArray) : Am.runN tab ext68c78 false 19 [] 2000 [] [] [0, 1, 7, 8] [] [] [.code b68c78] (entE 0 0 sig68c78 (x0, (), ())) (entL sig68c78 (x0, (), ())) = some (cutAt b68c78 2, E68c78_2 (0) (x0), L68c78_2 (0) (x0), []) := by kernel_rfl
theorem p68c78_1 (v8 : Int) (x0 : List ByteArray) : runF tab ext68c78 false 19 [] 2000 [] oks68c78 kds68c78 tys68c78 Tryd.f68.results [true, true] (cutAt b68c78 2) (E68c78_2 v8 x0) (L68c78_2 v8 x0) = some ([Dyn.mk (Ty.int IntKind.i64) v8], [], [Decidable.decide (v8 < (↑(List.length x0) : Int)) = Bool.true, 0 ≤ v8, v8 < (↑(List.length x0) : Int), True, g78_0 (List.getD x0 (Int.toNat v8) ByteArray.empty) = Bool.true]) := by kernel_rfl
theorem p68c78_2 (v8 : Int) (x0 : List ByteArray) : Am.runN tab ext68c78 false 19 [] 2000 [] [] [0, 1, 7, 8] [] [true, false] (cutAt b68c78 2) (E68c78_2 v8 x0) (L68c78_2 v8 x0) = some (cutAt b68c78 2, E68c78_2 (v8 + 1) (x0), L68c78_2 (v8 + 1) (x0), [Decidable.decide (v8 < (↑(List.length x0) : Int)) = Bool.true, 0 ≤ v8, v8 < (↑(List.length x0) : Int), True, g78_0 (List.getD x0 (Int.toNat v8) ByteArray.empty) = Bool.false, InR IntKind.i64 (v8 + 1)]) := by kernel_rfl
theorem p68c78_3 (v8 : Int) (x0 : List ByteArray) : runF tab ext68c78 false 19 [] 2000 [] oks68c78 kds68c78 tys68c78 Tryd.f68.results [false] (cutAt b68c78 2) (E68c78_2 v8 x0) (L68c78_2 v8 x0) = some ([Dyn.mk (Ty.int IntKind.i64) (-1)], [], [Decidable.decide (v8 < (↑(List.length x0) : Int)) = Bool.false]) := by kernel_rfl
theorem snd68c78 : ∀ n, (∀ (x0 : List ByteArray) ds, R68c78 n x0 ds → ∀ K q, AtV Tryd.prog 68 (PostR kds68c78 oks68c78 ds [] [] q K) 19 K q [] [.code b68c78] (entE 0 0 sig68c78 (x0, (), ())) (entL sig68c78 (x0, (), ()))) ∧ (∀ (v8 : Int) (x0 : List ByteArray) ds, R68c78_2 n v8 x0 ds → ∀ K q, AtV Tryd.prog 68 (PostR kds68c78 oks68c78 ds [] [] q K) 19 K q [] (cutAt b68c78 2) (E68c78_2 v8 x0) (L68c78_2 v8 x0)) := by
  intro n
  induction n with
  | zero => exact ⟨fun _ _ h => by simp only [R68c78] at h, fun _ _ _ h => by simp only [R68c78_2] at h⟩
  | succ n ih =>
  obtain ⟨ih, ih2⟩ := ih
  refine ⟨?_, ?_⟩
  · intro x0 ds h K q
    rw [R68c78] at h
    exact AtV.runN tabOk ext68c78Ok mixed (p68c78_0 x0) trivial (ih2 _ _ _ h K q)

  · intro v8 x0 ds h K q
    rw [R68c78_2] at h
    by_cases b0 : (Decidable.decide (v8 < (↑(List.length x0) : Int))) = true
    · rw [if_pos b0] at h
      obtain ⟨s0, s1, h⟩ := h
      by_cases b1 : (g78_0 (List.getD x0 (Int.toNat v8) ByteArray.empty)) = true
      · rw [if_pos b1] at h
        subst h
        exact AtV.fin Tryd.func68 tabOk ext68c78Ok mixed (p68c78_1 v8 x0) ⟨b0, s0, s1, trivial, b1, trivial⟩
      · rw [if_neg b1] at h
        replace b1 := Bool.eq_false_iff.2 b1
        obtain ⟨s2, h⟩ := h
        exact AtV.runN tabOk ext68c78Ok mixed (p68c78_2 v8 x0) ⟨b0, s0, s1, trivial, b1, s2, trivial⟩ (ih2 _ _ _ h K q)
    · rw [if_neg b0] at h
      replace b0 := Bool.eq_false_iff.2 b0
      subst h
      exact AtV.fin Tryd.func68 tabOk ext68c78Ok mixed (p68c78_3 v8 x0) ⟨b0, trivial⟩



def g68c78_0 (x0 : List (ByteArray)) : Int := idx (x0.findIdx? g78_0)
def P68c78 (x0 : List (ByteArray)) : Prop := True

theorem top68c78 (x0 : List (ByteArray)) (hm : x0.length ≤ maxLen) : R68c78 (x0.length + 1 + 1) x0 [⟨.int .i64, g68c78_0 x0⟩] := by
  rw [R68c78]
  have key := loop_find x0 ByteArray.empty g78_0 [(⟨.int .i64, -1⟩ : Dyn)] (fun k => [⟨.int .i64, k⟩]) (fun n i ds => R68c78_2 n i x0 ds) (fun n => ?_) (fun n i hi hok ds hr => ?_) (fun n i hi hok => ?_)
  · unfold g68c78_0
    cases h : x0.findIdx? g78_0 <;> rw [h] at key <;> exact key
  · rw [R68c78_2, if_neg (by simp)]
  · rw [R68c78_2, if_pos (by simp; omega)]
    simp only [Int.toNat_natCast]
    refine ⟨by omega, by omega, ?_⟩
    rw [if_neg (by rw [hok]; simp)]
    exact ⟨inR_up hm hi, hr⟩
  · rw [R68c78_2, if_pos (by simp; omega)]
    simp only [Int.toNat_natCast]
    refine ⟨by omega, by omega, ?_⟩
    rw [if_pos hok] <;> trivial

def S68c78 : Am.Spec := { sig := sig68c78, pre := fun ⟨x0, _⟩ => P68c78 x0, res := fun ⟨x0, _⟩ => [⟨Ty.int .i64, g68c78_0 x0⟩] }
theorem con68c78 : Contract Tryd.prog 68 S68c78 := contract_of Tryd.func68 hb68c78 (Nat.le_of_ble_eq_true (by kernel_rfl)) (fun ⟨x0, _⟩ h hwf K q =>
  (snd68c78 _).1 x0 _ (top68c78 x0 hwf.1.1) K q)

theorem any68c78 (x0 : List (ByteArray)) : decide (g68c78_0 x0 ≥ 0) = x0.any g78_0 := by
  have := findIdx_any g78_0 x0
  unfold g68c78_0
  cases h : x0.any g78_0 with
  | true => rw [h] at this; simpa using this
  | false => rw [h] at this; simpa using this

end
end Go.Proofs.YtpledggbnnjbiaaDoor

/- Function 47 (slices.ContainsFunc[[]string,string]): its runs between cut points. Written by a program of this repo (gen). -/
set_option linter.unusedVariables false
set_option linter.unusedSimpArgs false
set_option maxRecDepth 100000
namespace Go.Proofs.YtpledggbnnjbiaaDoor
open Go Go.Am Go.Proofs
noncomputable section
def ext47c78 : Ext := [(68, S68c78), (78, S78)]
theorem call47c78_68 : Callable Tryd.prog 68 := ⟨Tryd.f68, Tryd.func68, by kernel_rfl, by kernel_rfl⟩
theorem call47c78_78 : Callable Tryd.prog 78 := ⟨Tryd.f78, Tryd.func78, by kernel_rfl, by kernel_rfl⟩
theorem ext47c78Ok : ExtOk Tryd.prog ext47c78 := ⟨⟨call47c78_68, con68c78⟩, ⟨call47c78_78, con78⟩, trivial⟩

noncomputable def b47c78 : Code := bodyOf Tryd.f47
theorem hb47c78 : Tryd.f47.body = some b47c78 := by kernel_rfl
def sig47c78 : List AT := [AT.v (Ty.sl Ty.str), AT.fn 78 []]
def tys47c78 : List Ty := [Ty.bool]
def kds47c78 : List RK := []
def oks47c78 : List AT := owns sig47c78
def P47c78 (x0 : List ByteArray) : Prop := True
def g47c78_0 (x0 : List ByteArray) : Bool := Decidable.decide (g68c78_0 x0 ≥ 0)
theorem p47c78_0 (x0 : List ByteArray) : runF tab ext47c78 false 9 [] 2000 [] oks47c78 kds47c78 tys47c78 Tryd.f47.results [] [.code b47c78] (entE 0 0 sig47c78 (x0, (), ())) (entL sig47c78 (x0, (), ())) = some ([Dyn.mk Ty.bool (Decidable.decide (g68c78_0 x0 ≥ 0))], [], [True]) := by kernel_rfl
theorem at47c78 (x0 : List ByteArray) (h : P47c78 x0) (K : Ctx) (q : Nat → Value) : AtV Tryd.prog 47 (PostR kds47c78 oks47c78 [⟨Ty.bool, g47c78_0 x0⟩] [] [] q K) 9 K q [] [.code b47c78] (entE 0 0 sig47c78 (x0, (), ())) (entL sig47c78 (x0, (), ())) := by
  unfold P47c78 at h
  unfold g47c78_0
  exact AtV.fin Tryd.func47 tabOk ext47c78Ok mixed (p47c78_0 x0) ⟨trivial, trivial⟩

def S47c78 : Am.Spec := { sig := sig47c78, pre := fun ⟨x0, _⟩ => P47c78 x0, res := fun ⟨x0, _⟩ => [⟨Ty.bool, g47c78_0 x0⟩], kds := kds47c78 }
theorem con47c78 : Contract Tryd.prog 47 S47c78 := contract_of Tryd.func47 hb47c78 (Nat.le_of_ble_eq_true (by kernel_rfl)) (fun ⟨x0, _⟩ h _ K q => at47c78 x0 h K q)


end
end Go.Proofs.YtpledggbnnjbiaaDoor

/- Function 61 (impl.ValidReport): its runs between cut points. Written by a program of this repo (gen). -/
set_option linter.unusedVariables false
set_option linter.unusedSimpArgs false
set_option maxRecDepth 100000
namespace Go.Proofs.YtpledggbnnjbiaaDoor
open Go Go.Am Go.Proofs
noncomputable section
def ext61 : Ext := [(47, S47c78)]
theorem call61_47 : Callable Tryd.prog 47 := ⟨Tryd.f47, Tryd.func47, by kernel_rfl, by kernel_rfl⟩
theorem ext61Ok : ExtOk Tryd.prog ext61 := ⟨⟨call61_47, con47c78⟩, trivial⟩

noncomputable def b61 : Code := bodyOf Tryd.f61
theorem hb61 : Tryd.f61.body = some b61 := by kernel_rfl
def sig61 : List AT := [AT.v (Ty.sl Ty.str)]
def tys61 : List Ty := [Ty.bool]
def kds61 : List RK := []
def oks61 : List AT := owns sig61
def P61 (x0 : List ByteArray) : Prop := True
def g61_0 (x0 : List ByteArray) : Bool := (if (Decidable.decide ((↑(List.length x0) : Int) ≤ 200)) = true then !g47c78_0 x0 else Bool.false)
theorem p61_0 (x0 : List ByteArray) : runF tab ext61 false 11 [] 2000 [] oks61 kds61 tys61 Tryd.f61.results [true] [.code b61] (entE 0 0 sig61 (x0, ())) (entL sig61 (x0, ())) = some ([Dyn.mk Ty.bool !g47c78_0 x0], [], [Decidable.decide ((↑(List.length x0) : Int) ≤ 200) = Bool.true, True]) := by kernel_rfl
theorem p61_1 (x0 : List ByteArray) : runF tab ext61 false 11 [] 2000 [] oks61 kds61 tys61 Tryd.f61.results [false] [.code b61] (entE 0 0 sig61 (x0, ())) (entL sig61 (x0, ())) = some ([Dyn.mk Ty.bool Bool.false], [], [Decidable.decide ((↑(List.length x0) : Int) ≤ 200) = Bool.false]) := by kernel_rfl
theorem at61 (x0 : List ByteArray) (h : P61 x0) (K : Ctx) (q : Nat → Value) : AtV Tryd.prog 61 (PostR kds61 oks61 [⟨Ty.bool, g61_0 x0⟩] [] [] q K) 11 K q [] [.code b61] (entE 0 0 sig61 (x0, ())) (entL sig61 (x0, ())) := by
  unfold P61 at h
  unfold g61_0
  by_cases b0 : (Decidable.decide ((↑(List.length x0) : Int) ≤ 200)) = true
  · try simp only [if_pos b0] at h ⊢
    exact AtV.fin Tryd.func61 tabOk ext61Ok mixed (p61_0 x0) ⟨b0, trivial, trivial⟩
  · try simp only [if_neg b0] at h ⊢
    replace b0 := Bool.eq_false_iff.2 b0
    exact AtV.fin Tryd.func61 tabOk ext61Ok mixed (p61_1 x0) ⟨b0, trivial⟩

def S61 : Am.Spec := { sig := sig61, pre := fun ⟨x0, _⟩ => P61 x0, res := fun ⟨x0, _⟩ => [⟨Ty.bool, g61_0 x0⟩], kds := kds61 }
theorem con61 : Contract Tryd.prog 61 S61 := contract_of Tryd.func61 hb61 (Nat.le_of_ble_eq_true (by kernel_rfl)) (fun ⟨x0, _⟩ h _ K q => at61 x0 h K q)


end
end Go.Proofs.YtpledggbnnjbiaaDoor

/- Function 40 (impl.orFull): its runs between cut points. Written by a program of this repo (gen). -/
set_option linter.unusedVariables false
set_option linter.unusedSimpArgs false
set_option maxRecDepth 100000
namespace Go.Proofs.YtpledggbnnjbiaaDoor
open Go Go.Am Go.Proofs
noncomputable section
def ext40 : Ext := [(61, S61)]
theorem call40_61 : Callable Tryd.prog 61 := ⟨Tryd.f61, Tryd.func61, by kernel_rfl, by kernel_rfl⟩
theorem ext40Ok : ExtOk Tryd.prog ext40 := ⟨⟨call40_61, con61⟩, trivial⟩

noncomputable def b40 : Code := bodyOf Tryd.f40
theorem hb40 : Tryd.f40.body = some b40 := by kernel_rfl
def sig40 : List AT := [AT.own Ty.str]
def tys40 : List Ty := [Ty.sl Ty.str, Ty.int IntKind.i64]
def kds40 : List RK := []
def oks40 : List AT := owns sig40
def P40 (x0 : List ByteArray) : Prop := True
def g40_0 (x0 : List ByteArray) : List ByteArray := (if (!g61_0 x0) = true then [] else x0)
def g40_1 (x0 : List ByteArray) : Int := (if (!g61_0 x0) = true then 5 else 0)
theorem p40_0 (x0 : List ByteArray) : runF tab ext40 false 8 [] 2000 [0] oks40 kds40 tys40 Tryd.f40.results [true] [.code b40] (entE 0 0 sig40 (x0, ())) (entL sig40 (x0, ())) = some ([Dyn.mk (Ty.sl Ty.str) [], Dyn.mk (Ty.int IntKind.i64) 5], [Option.some (Lst.mk Ty.str x0)], [True, (!g61_0 x0) = Bool.true]) := by kernel_rfl
theorem p40_1 (x0 : List ByteArray) : runF tab ext40 false 8 [] 2000 [0] oks40 kds40 tys40 Tryd.f40.results [false] [.code b40] (entE 0 0 sig40 (x0, ())) (entL sig40 (x0, ())) = some ([Dyn.mk (Ty.sl Ty.str) x0, Dyn.mk (Ty.int IntKind.i64) 0], [Option.none], [True, (!g61_0 x0) = Bool.false]) := by kernel_rfl
theorem at40 (x0 : List ByteArray) (h : P40 x0) (K : Ctx) (q : Nat → Value) : AtV Tryd.prog 40 (PostR kds40 oks40 [⟨Ty.sl Ty.str, g40_0 x0⟩, ⟨Ty.int IntKind.i64, g40_1 x0⟩] [none] [0] q K) 8 K q [0] [.code b40] (entE 0 0 sig40 (x0, ())) (entL sig40 (x0, ())) := by
  unfold P40 at h
  unfold g40_0 g40_1
  by_cases b0 : (!g61_0 x0) = true
  · try simp only [if_pos b0] at h ⊢
    exact AtV.weak (AtV.fin Tryd.func40 tabOk ext40Ok mixed (p40_0 x0) ⟨trivial, b0, trivial⟩) ⟨.inr rfl, trivial⟩
  · try simp only [if_neg b0] at h ⊢
    replace b0 := Bool.eq_false_iff.2 b0
    exact AtV.weak (AtV.fin Tryd.func40 tabOk ext40Ok mixed (p40_1 x0) ⟨trivial, b0, trivial⟩) ⟨.inr rfl, trivial⟩

def S40 : Am.Spec := { sig := sig40, pre := fun ⟨x0, _⟩ => P40 x0, upd := fun ⟨x0, _⟩ => [none], res := fun ⟨x0, _⟩ => [⟨Ty.sl Ty.str, g40_0 x0⟩, ⟨Ty.int IntKind.i64, g40_1 x0⟩], kds := kds40 }
theorem con40 : Contract Tryd.prog 40 S40 := contract_of Tryd.func40 hb40 (Nat.le_of_ble_eq_true (by kernel_rfl)) (fun ⟨x0, _⟩ h _ K q => at40 x0 h K q)


end
end Go.Proofs.YtpledggbnnjbiaaDoor

/- Function 50 (impl.areCells$1$1): its runs between cut points. Written by a program of this repo (gen). -/
set_option linter.unusedVariables false
set_option linter.unusedSimpArgs false
set_option maxRecDepth 100000
namespace Go.Proofs.YtpledggbnnjbiaaDoor
open Go Go.Am Go.Proofs
noncomputable section
def ext50 : Ext := []
theorem ext50Ok : ExtOk Tryd.prog ext50 := trivial

noncomputable def b50 : Code := bodyOf Tryd.f50
theorem hb50 : Tryd.f50.body = some b50 := by kernel_rfl
def sig50 : List AT := [AT.v (Ty.int IntKind.u8)]
def tys50 : List Ty := [Ty.bool]
def kds50 : List RK := []
def oks50 : List AT := owns sig50
def P50 (x0 : Int) : Prop := True
def g50_0 (x0 : Int) : Bool := (if (Decidable.decide (x0 < 33)) = true then Bool.true else Decidable.decide (x0 > 126))
theorem p50_0 (x0 : Int) : runF tab ext50 false 9 [] 2000 [] oks50 kds50 tys50 Tryd.f50.results [true] [.code b50] (entE 0 0 sig50 (x0, ())) (entL sig50 (x0, ())) = some ([Dyn.mk Ty.bool Bool.true], [], [Decidable.decide (x0 < 33) = Bool.true]) := by kernel_rfl
theorem p50_1 (x0 : Int) : runF tab ext50 false 9 [] 2000 [] oks50 kds50 tys50 Tryd.f50.results [false] [.code b50] (entE 0 0 sig50 (x0, ())) (entL sig50 (x0, ())) = some ([Dyn.mk Ty.bool (Decidable.decide (x0 > 126))], [], [Decidable.decide (x0 < 33) = Bool.false]) := by kernel_rfl
theorem at50 (x0 : Int) (h : P50 x0) (K : Ctx) (q : Nat → Value) : AtV Tryd.prog 50 (PostR kds50 oks50 [⟨Ty.bool, g50_0 x0⟩] [] [] q K) 9 K q [] [.code b50] (entE 0 0 sig50 (x0, ())) (entL sig50 (x0, ())) := by
  unfold P50 at h
  unfold g50_0
  by_cases b0 : (Decidable.decide (x0 < 33)) = true
  · try simp only [if_pos b0] at h ⊢
    exact AtV.fin Tryd.func50 tabOk ext50Ok mixed (p50_0 x0) ⟨b0, trivial⟩
  · try simp only [if_neg b0] at h ⊢
    replace b0 := Bool.eq_false_iff.2 b0
    exact AtV.fin Tryd.func50 tabOk ext50Ok mixed (p50_1 x0) ⟨b0, trivial⟩

def S50 : Am.Spec := { sig := sig50, pre := fun ⟨x0, _⟩ => P50 x0, res := fun ⟨x0, _⟩ => [⟨Ty.bool, g50_0 x0⟩], kds := kds50 }
theorem con50 : Contract Tryd.prog 50 S50 := contract_of Tryd.func50 hb50 (Nat.le_of_ble_eq_true (by kernel_rfl)) (fun ⟨x0, _⟩ h _ K q => at50 x0 h K q)


end
end Go.Proofs.YtpledggbnnjbiaaDoor

/- Function 69 (slices.IndexFunc[[]byte,byte]): its runs between cut points. Written by a program of this repo (gen). -/
set_option linter.unusedVariables false
set_option linter.unusedSimpArgs false
set_option maxRecDepth 100000
namespace Go.Proofs.YtpledggbnnjbiaaDoor
open Go Go.Am Go.Proofs
noncomputable section
def ext69c50 : Ext := [(50, S50)]
theorem call69c50_50 : Callable Tryd.prog 50 := ⟨Tryd.f50, Tryd.func50, by kernel_rfl, by kernel_rfl⟩
theorem ext69c50Ok : ExtOk Tryd.prog ext69c50 := ⟨⟨call69c50_50, con50⟩, trivial⟩

noncomputable def b69c50 : Code := bodyOf Tryd.f69
theorem hb69c50 : Tryd.f69.body = some b69c50 := by kernel_rfl
def sig69c50 : List AT := [AT.v (Ty.sl (Ty.int IntKind.u8)), AT.fn 50 []]
def tys69c50 : List Ty := [Ty.int IntKind.i64]
def kds69c50 : List RK := []
def oks69c50 : List AT := owns sig69c50
def E69c50_2 (v8 : Int) (x0 : List Int) : Env := [(0, PV.a (Atom.sl (Ty.int IntKind.u8) x0)), (1, PV.fn 50 []), (7, PV.a (Atom.val (Value.int IntKind.i64 (↑(List.length x0) : Int)))), (8, PV.a (Atom.val (Value.int IntKind.i64 v8)))]
def L69c50_2 (v8 : Int) (x0 : List Int) : Heap := []
mutual
def R69c50 : Nat → List Int → List Dyn → Prop
  | 0, _, _ => False
  | n + 1, x0, ds => (R69c50_2 n (0) (x0) ds)
def R69c50_2 : Nat → Int → List Int → List Dyn → Prop
  | 0, _, _, _ => False
  | n + 1, v8, x0, ds => (if (Decidable.decide (v8 < (↑(List.length x0) : Int))) = true then ((0 ≤ v8) ∧ (v8 < (↑(List.length x0) : Int)) ∧ (if (g50_0 (List.getD x0 (Int.toNat v8) 0)) = true then (ds = [Dyn.mk (Ty.int IntKind.i64) v8]) else ((InR IntKind.i64 (v8 + 1)) ∧ (R69c50_2 n (v8 + 1) (x0) ds)))) else (ds = [Dyn.mk (Ty.int IntKind.i64) (-1)]))
end
theorem p69c50_0 (x0 : List Int) : Am.runN tab ext69c50 false 19 [] 2000 [] [] [0, 1, 7, 8] [] [] [.code b69c50] (entE 0 0 sig69c50 (x0, (), ())) (entL sig69c50 (x0, (), ())) = some (cutAt b69c50 2, E69c50_2 (0) (x0), L69c50_2 (0) (x0), []) := by kernel_rfl
theorem p69c50_1 (v8 : Int) (x0 : List Int) : runF tab ext69c50 false 19 [] 2000 [] oks69c50 kds69c50 tys69c50 Tryd.f69.results [true, true] (cutAt b69c50 2) (E69c50_2 v8 x0) (L69c50_2 v8 x0) = some ([Dyn.mk (Ty.int IntKind.i64) v8], [], [Decidable.decide (v8 < (↑(List.length x0) : Int)) = Bool.true, 0 ≤ v8, v8 < (↑(List.length x0) : Int), True, g50_0 (List.getD x0 (Int.toNat v8) 0) = Bool.true]) := by kernel_rfl
theorem p69c50_2 (v8 : Int) (x0 : List Int) : Am.runN tab ext69c50 false 19 [] 2000 [] [] [0, 1, 7, 8] [] [true, false] (cutAt b69c50 2) (E69c50_2 v8 x0) (L69c50_2 v8 x0) = some (cutAt b69c50 2, E69c50_2 (v8 + 1) (x0), L69c50_2 (v8 + 1) (x0), [Decidable.decide (v8 < (↑(List.length x0) : Int)) = Bool.true, 0 ≤ v8, v8 < (↑(List.length x0) : Int), True, g50_0 (List.getD x0 (Int.toNat v8) 0) = Bool.false, InR IntKind.i64 (v8 + 1)]) := by kernel_rfl
theorem p69c50_3 (v8 : Int) (x0 : List Int) : runF tab ext69c50 false 19 [] 2000 [] oks69c50 kds69c50 tys69c50 Tryd.f69.results [false] (cutAt b69c50 2) (E69c50_2 v8 x0) (L69c50_2 v8 x0) = some ([Dyn.mk (Ty.int IntKind.i64) (-1)], [], [Decidable.decide (v8 < (↑(List.length x0) : Int)) = Bool.false]) := by kernel_rfl
theorem snd69c50 : ∀ n, (∀ (x0 : List Int) ds, R69c50 n x0 ds → ∀ K q, AtV Tryd.prog 69 (PostR kds69c50 oks69c50 ds [] [] q K) 19 K q [] [.code b69c50] (entE 0 0 sig69c50 (x0, (), ())) (entL sig69c50 (x0, (), ()))) ∧ (∀ (v8 : Int) (x0 : List Int) ds, R69c50_2 n v8 x0 ds → ∀ K q, AtV Tryd.prog 69 (PostR kds69c50 oks69c50 ds [] [] q K) 19 K q [] (cutAt b69c50 2) (E69c50_2 v8 x0) (L69c50_2 v8 x0)) := by
  intro n
  induction n with
  | zero => exact ⟨fun _ _ h => by simp only [R69c50] at h, fun _ _ _ h => by simp only [R69c50_2] at h⟩
  | succ n ih =>
  obtain ⟨ih, ih2⟩ := ih
  refine ⟨?_, ?_⟩
  · intro x0 ds h K q
    rw [R69c50] at h
    exact AtV.runN tabOk ext69c50Ok mixed (p69c50_0 x0) trivial (ih2 _ _ _ h K q)

  · intro v8 x0 ds h K q
    rw [R69c50_2] at h
    by_cases b0 : (Decidable.decide (v8 < (↑(List.length x0) : Int))) = true
    · rw [if_pos b0] at h
      obtain ⟨s0, s1, h⟩ := h
      by_cases b1 : (g50_0 (List.getD x0 (Int.toNat v8) 0)) = true
      · rw [if_pos b1] at h
        subst h
        exact AtV.fin Tryd.func69 tabOk ext69c50Ok mixed (p69c50_1 v8 x0) ⟨b0, s0, s1, trivial, b1, trivial⟩
      · rw [if_neg b1] at h
        replace b1 := Bool.eq_false_iff.2 b1
        obtain ⟨s2, h⟩ := h
        exact AtV.runN tabOk ext69c50Ok mixed (p69c50_2 v8 x0) ⟨b0, s0, s1, trivial, b1, s2, trivial⟩ (ih2 _ _ _ h K q)
    · rw [if_neg b0] at h
      replace b0 := Bool.eq_false_iff.2 b0
      subst h
      exact AtV.fin Tryd.func69 tabOk ext69c50Ok mixed (p69c50_3 v8 x0) ⟨b0, trivial⟩



def g69c50_0 (x0 : List (Int)) : Int := idx (x0.findIdx? g50_0)
def P69c50 (x0 : List (Int)) : Prop := True

theorem top69c50 (x0 : List (Int)) (hm : x0.length ≤ maxLen) : R69c50 (x0.length + 1 + 1) x0 [⟨.int .i64, g69c50_0 x0⟩] := by
  rw [R69c50]
  have key := loop_find x0 (0 : Int) g50_0 [(⟨.int .i64, -1⟩ : Dyn)] (fun k => [⟨.int .i64, k⟩]) (fun n i ds => R69c50_2 n i x0 ds) (fun n => ?_) (fun n i hi hok ds hr => ?_) (fun n i hi hok => ?_)
  · unfold g69c50_0
    cases h : x0.findIdx? g50_0 <;> rw [h] at key <;> exact key
  · rw [R69c50_2, if_neg (by simp)]
  · rw [R69c50_2, if_pos (by simp; omega)]
    simp only [Int.toNat_natCast]
    refine ⟨by omega, by omega, ?_⟩
    rw [if_neg (by rw [hok]; simp)]
    exact ⟨inR_up hm hi, hr⟩
  · rw [R69c50_2, if_pos (by simp; omega)]
    simp only [Int.toNat_natCast]
    refine ⟨by omega, by omega, ?_⟩
    rw [if_pos hok] <;> trivial

def S69c50 : Am.Spec := { sig := sig69c50, pre := fun ⟨x0, _⟩ => P69c50 x0, res := fun ⟨x0, _⟩ => [⟨Ty.int .i64, g69c50_0 x0⟩] }
theorem con69c50 : Contract Tryd.prog 69 S69c50 := contract_of Tryd.func69 hb69c50 (Nat.le_of_ble_eq_true (by kernel_rfl)) (fun ⟨x0, _⟩ h hwf K q =>
  (snd69c50 _).1 x0 _ (top69c50 x0 hwf.1.1) K q)

theorem any69c50 (x0 : List (Int)) : decide (g69c50_0 x0 ≥ 0) = x0.any g50_0 := by
  have := findIdx_any g50_0 x0
  unfold g69c50_0
  cases h : x0.any g50_0 with
  | true => rw [h] at this; simpa using this
  | false => rw [h] at this; simpa using this

end
end Go.Proofs.YtpledggbnnjbiaaDoor

/- Function 49 (slices.ContainsFunc[[]byte,byte]): its runs between cut points. Written by a program of this repo (gen). -/
set_option linter.unusedVariables false
set_option linter.unusedSimpArgs false
set_option maxRecDepth 100000
namespace Go.Proofs.YtpledggbnnjbiaaDoor
open Go Go.Am Go.Proofs
noncomputable section
def ext49c50 : Ext := [(69, S69c50), (50, S50)]
theorem call49c50_69 : Callable Tryd.prog 69 := ⟨Tryd.f69, Tryd.func69, by kernel_rfl, by kernel_rfl⟩
theorem call49c50_50 : Callable Tryd.prog 50 := ⟨Tryd.f50, Tryd.func50, by kernel_rfl, by kernel_rfl⟩
theorem ext49c50Ok : ExtOk Tryd.prog ext49c50 := ⟨⟨call49c50_69, con69c50⟩, ⟨call49c50_50, con50⟩, trivial⟩

noncomputable def b49c50 : Code := bodyOf Tryd.f49
theorem hb49c50 : Tryd.f49.body = some b49c50 := by kernel_rfl
def sig49c50 : List AT := [AT.v (Ty.sl (Ty.int IntKind.u8)), AT.fn 50 []]
def tys49c50 : List Ty := [Ty.bool]
def kds49c50 : List RK := []
def oks49c50 : List AT := owns sig49c50
def P49c50 (x0 : List Int) : Prop := True
def g49c50_0 (x0 : List Int) : Bool := Decidable.decide (g69c50_0 x0 ≥ 0)
theorem p49c50_0 (x0 : List Int) : runF tab ext49c50 false 9 [] 2000 [] oks49c50 kds49c50 tys49c50 Tryd.f49.results [] [.code b49c50] (entE 0 0 sig49c50 (x0, (), ())) (entL sig49c50 (x0, (), ())) = some ([Dyn.mk Ty.bool (Decidable.decide (g69c50_0 x0 ≥ 0))], [], [True]) := by kernel_rfl
theorem at49c50 (x0 : List Int) (h : P49c50 x0) (K : Ctx) (q : Nat → Value) : AtV Tryd.prog 49 (PostR kds49c50 oks49c50 [⟨Ty.bool, g49c50_0 x0⟩] [] [] q K) 9 K q [] [.code b49c50] (entE 0 0 sig49c50 (x0, (), ())) (entL sig49c50 (x0, (), ())) := by
  unfold P49c50 at h
  unfold g49c50_0
  exact AtV.fin Tryd.func49 tabOk ext49c50Ok mixed (p49c50_0 x0) ⟨trivial, trivial⟩

def S49c50 : Am.Spec := { sig := sig49c50, pre := fun ⟨x0, _⟩ => P49c50 x0, res := fun ⟨x0, _⟩ => [⟨Ty.bool, g49c50_0 x0⟩], kds := kds49c50 }
theorem con49c50 : Contract Tryd.prog 49 S49c50 := contract_of Tryd.func49 hb49c50 (Nat.le_of_ble_eq_true (by kernel_rfl)) (fun ⟨x0, _⟩ h _ K q => at49c50 x0 h K q)


end
end Go.Proofs.YtpledggbnnjbiaaDoor

/- Function 48 (impl.areCells$1): its runs between cut points. Written by a program of this repo (gen). -/
set_option linter.unusedVariables false
set_option linter.unusedSimpArgs false
set_option maxRecDepth 100000
namespace Go.Proofs.YtpledggbnnjbiaaDoor
open Go Go.Am Go.Proofs
noncomputable section
def ext48 : Ext := [(49, S49c50)]
theorem call48_49 : Callable Tryd.prog 49 := ⟨Tryd.f49, Tryd.func49, by kernel_rfl, by kernel_rfl⟩
theorem ext48Ok : ExtOk Tryd.prog ext48 := ⟨⟨call48_49, con49c50⟩, trivial⟩

noncomputable def b48 : Code := bodyOf Tryd.f48
theorem hb48 : Tryd.f48.body = some b48 := by kernel_rfl
def sig48 : List AT := [AT.v (Ty.str)]
def tys48 : List Ty := [Ty.bool]
def kds48 : List RK := []
def oks48 : List AT := owns sig48
def P48 (x0 : ByteArray) : Prop := True
def g48_0 (x0 : ByteArray) : Bool := g49c50_0 (bytesOf x0)
theorem p48_0 (x0 : ByteArray) : runF tab ext48 false 6 [] 2000 [] oks48 kds48 tys48 Tryd.f48.results [] [.code b48] (entE 0 0 sig48 (x0, ())) (entL sig48 (x0, ())) = some ([Dyn.mk Ty.bool (g49c50_0 (bytesOf x0))], [], [True]) := by kernel_rfl
theorem at48 (x0 : ByteArray) (h : P48 x0) (K : Ctx) (q : Nat → Value) : AtV Tryd.prog 48 (PostR kds48 oks48 [⟨Ty.bool, g48_0 x0⟩] [] [] q K) 6 K q [] [.code b48] (entE 0 0 sig48 (x0, ())) (entL sig48 (x0, ())) := by
  unfold P48 at h
  unfold g48_0
  exact AtV.fin Tryd.func48 tabOk ext48Ok mixed (p48_0 x0) ⟨trivial, trivial⟩

def S48 : Am.Spec := { sig := sig48, pre := fun ⟨x0, _⟩ => P48 x0, res := fun ⟨x0, _⟩ => [⟨Ty.bool, g48_0 x0⟩], kds := kds48 }
theorem con48 : Contract Tryd.prog 48 S48 := contract_of Tryd.func48 hb48 (Nat.le_of_ble_eq_true (by kernel_rfl)) (fun ⟨x0, _⟩ h _ K q => at48 x0 h K q)


end
end Go.Proofs.YtpledggbnnjbiaaDoor

/- Function 68 (slices.IndexFunc[[]string,string]): its runs between cut points. Written by a program of this repo (gen). -/
set_option linter.unusedVariables false
set_option linter.unusedSimpArgs false
set_option maxRecDepth 100000
namespace Go.Proofs.YtpledggbnnjbiaaDoor
open Go Go.Am Go.Proofs
noncomputable section
def ext68c48 : Ext := [(48, S48)]
theorem call68c48_48 : Callable Tryd.prog 48 := ⟨Tryd.f48, Tryd.func48, by kernel_rfl, by kernel_rfl⟩
theorem ext68c48Ok : ExtOk Tryd.prog ext68c48 := ⟨⟨call68c48_48, con48⟩, trivial⟩

noncomputable def b68c48 : Code := bodyOf Tryd.f68
theorem hb68c48 : Tryd.f68.body = some b68c48 := by kernel_rfl
def sig68c48 : List AT := [AT.v (Ty.sl Ty.str), AT.fn 48 []]
def tys68c48 : List Ty := [Ty.int IntKind.i64]
def kds68c48 : List RK := []
def oks68c48 : List AT := owns sig68c48
def E68c48_2 (v8 : Int) (x0 : List ByteArray) : Env := [(0, PV.a (Atom.sl Ty.str x0)), (1, PV.fn 48 []), (7, PV.a (Atom.val (Value.int IntKind.i64 (↑(List.length x0) : Int)))), (8, PV.a (Atom.val (Value.int IntKind.i64 v8)))]
def L68c48_2 (v8 : Int) (x0 : List ByteArray) : Heap := []
mutual
def R68c48 : Nat → List ByteArray → List Dyn → Prop
  | 0, _, _ => False
  | n + 1, x0, ds => (R68c48_2 n (0) (x0) ds)
def R68c48_2 : Nat → Int → List ByteArray → List Dyn → Prop
  | 0, _, _, _ => False
  | n + 1, v8, x0, ds => (if (Decidable.decide (v8 < (↑(List.length x0) : Int))) = true then ((0 ≤ v8) ∧ (v8 < (↑(List.length x0) : Int)) ∧ (if (g48_0 (List.getD x0 (Int.toNat v8) ByteArray.empty)) = true then (ds = [Dyn.mk (Ty.int IntKind.i64) v8]) else ((InR IntKind.i64 (v8 + 1)) ∧ (R68c48_2 n (v8 + 1) (x0) ds)))) else (ds = [Dyn.mk (Ty.int IntKind.i64) (-1)]))
end
theorem p68c48_0 (x0 : List ByteArray) : Am.runN tab ext68c48 false 19 [] 2000 [] [] [0, 1, 7, 8] [] [] [.code b68c48] (entE 0 0 sig68c48 (x0, (), ())) (entL sig68c48 (x0, (), ())) = some (cutAt b68c48 2, E68c48_2 (0) (x0), L68c48_2 (0) (x0), []) := by kernel_rfl
theorem p68c48_1 (v8 : Int) (x0 : List ByteArray) : runF tab ext68c48 false 19 [] 2000 [] oks68c48 kds68c48 tys68c48 Tryd.f68.results [true, true] (cutAt b68c48 2) (E68c48_2 v8 x0) (L68c48_2 v8 x0) = some ([Dyn.mk (Ty.int IntKind.i64) v8], [], [Decidable.decide (v8 < (↑(List.length x0) : Int)) = Bool.true, 0 ≤ v8, v8 < (↑(List.length x0) : Int), True, g48_0 (List.getD x0 (Int.toNat v8) ByteArray.empty) = Bool.true]) := by kernel_rfl
theorem p68c48_2 (v8 : Int) (x0 : List ByteArray) : Am.runN tab ext68c48 false 19 [] 2000 [] [] [0, 1, 7, 8] [] [true, false] (cutAt b68c48 2) (E68c48_2 v8 x0) (L68c48_2 v8 x0) = some (cutAt b68c48 2, E68c48_2 (v8 + 1) (x0), L68c48_2 (v8 + 1) (x0), [Decidable.decide (v8 < (↑(List.length x0) : Int)) = Bool.true, 0 ≤ v8, v8 < (↑(List.length x0) : Int), True, g48_0 (List.getD x0 (Int.toNat v8) ByteArray.empty) = Bool.false, InR IntKind.i64 (v8 + 1)]) := by kernel_rfl
theorem p68c48_3 (v8 : Int) (x0 : List ByteArray) : runF tab ext68c48 false 19 [] 2000 [] oks68c48 kds68c48 tys68c48 Tryd.f68.results [false] (cutAt b68c48 2) (E68c48_2 v8 x0) (L68c48_2 v8 x0) = some ([Dyn.mk (Ty.int IntKind.i64) (-1)], [], [Decidable.decide (v8 < (↑(List.length x0) : Int)) = Bool.false]) := by kernel_rfl
theorem snd68c48 : ∀ n, (∀ (x0 : List ByteArray) ds, R68c48 n x0 ds → ∀ K q, AtV Tryd.prog 68 (PostR kds68c48 oks68c48 ds [] [] q K) 19 K q [] [.code b68c48] (entE 0 0 sig68c48 (x0, (), ())) (entL sig68c48 (x0, (), ()))) ∧ (∀ (v8 : Int) (x0 : List ByteArray) ds, R68c48_2 n v8 x0 ds → ∀ K q, AtV Tryd.prog 68 (PostR kds68c48 oks68c48 ds [] [] q K) 19 K q [] (cutAt b68c48 2) (E68c48_2 v8 x0) (L68c48_2 v8 x0)) := by
  intro n
  induction n with
  | zero => exact ⟨fun _ _ h => by simp only [R68c48] at h, fun _ _ _ h => by simp only [R68c48_2] at h⟩
  | succ n ih =>
  obtain ⟨ih, ih2⟩ := ih
  refine ⟨?_, ?_⟩
  · intro x0 ds h K q
    rw [R68c48] at h
    exact AtV.runN tabOk ext68c48Ok mixed (p68c48_0 x0) trivial (ih2 _ _ _ h K q)

  · intro v8 x0 ds h K q
    rw [R68c48_2] at h
    by_cases b0 : (Decidable.decide (v8 < (↑(List.length x0) : Int))) = true
    · rw [if_pos b0] at h
      obtain ⟨s0, s1, h⟩ := h
      by_cases b1 : (g48_0 (List.getD x0 (Int.toNat v8) ByteArray.empty)) = true
      · rw [if_pos b1] at h
        subst h
        exact AtV.fin Tryd.func68 tabOk ext68c48Ok mixed (p68c48_1 v8 x0) ⟨b0, s0, s1, trivial, b1, trivial⟩
      · rw [if_neg b1] at h
        replace b1 := Bool.eq_false_iff.2 b1
        obtain ⟨s2, h⟩ := h
        exact AtV.runN tabOk ext68c48Ok mixed (p68c48_2 v8 x0) ⟨b0, s0, s1, trivial, b1, s2, trivial⟩ (ih2 _ _ _ h K q)
    · rw [if_neg b0] at h
      replace b0 := Bool.eq_false_iff.2 b0
      subst h
      exact AtV.fin Tryd.func68 tabOk ext68c48Ok mixed (p68c48_3 v8 x0) ⟨b0, trivial⟩



def g68c48_0 (x0 : List (ByteArray)) : Int := idx (x0.findIdx? g48_0)
def P68c48 (x0 : List (ByteArray)) : Prop := True

theorem top68c48 (x0 : List (ByteArray)) (hm : x0.length ≤ maxLen) : R68c48 (x0.length + 1 + 1) x0 [⟨.int .i64, g68c48_0 x0⟩] := by
  rw [R68c48]
  have key := loop_find x0 ByteArray.empty g48_0 [(⟨.int .i64, -1⟩ : Dyn)] (fun k => [⟨.int .i64, k⟩]) (fun n i ds => R68c48_2 n i x0 ds) (fun n => ?_) (fun n i hi hok ds hr => ?_) (fun n i hi hok => ?_)
  · unfold g68c48_0
    cases h : x0.findIdx? g48_0 <;> rw [h] at key <;> exact key
  · rw [R68c48_2, if_neg (by simp)]
  · rw [R68c48_2, if_pos (by simp; omega)]
    simp only [Int.toNat_natCast]
    refine ⟨by omega, by omega, ?_⟩
    rw [if_neg (by rw [hok]; simp)]
    exact ⟨inR_up hm hi, hr⟩
  · rw [R68c48_2, if_pos (by simp; omega)]
    simp only [Int.toNat_natCast]
    refine ⟨by omega, by omega, ?_⟩
    rw [if_pos hok] <;> trivial

def S68c48 : Am.Spec := { sig := sig68c48, pre := fun ⟨x0, _⟩ => P68c48 x0, res := fun ⟨x0, _⟩ => [⟨Ty.int .i64, g68c48_0 x0⟩] }
theorem con68c48 : Contract Tryd.prog 68 S68c48 := contract_of Tryd.func68 hb68c48 (Nat.le_of_ble_eq_true (by kernel_rfl)) (fun ⟨x0, _⟩ h hwf K q =>
  (snd68c48 _).1 x0 _ (top68c48 x0 hwf.1.1) K q)

theorem any68c48 (x0 : List (ByteArray)) : decide (g68c48_0 x0 ≥ 0) = x0.any g48_0 := by
  have := findIdx_any g48_0 x0
  unfold g68c48_0
  cases h : x0.any g48_0 with
  | true => rw [h] at this; simpa using this
  | false => rw [h] at this; simpa using this

end
end Go.Proofs.YtpledggbnnjbiaaDoor

/- Function 47 (slices.ContainsFunc[[]string,string]): its runs between cut points. Written by a program of this repo (gen). -/
set_option linter.unusedVariables false
set_option linter.unusedSimpArgs false
set_option maxRecDepth 100000
namespace Go.Proofs.YtpledggbnnjbiaaDoor
open Go Go.Am Go.Proofs
noncomputable section
def ext47c48 : Ext := [(68, S68c48), (48, S48)]
theorem call47c48_68 : Callable Tryd.prog 68 := ⟨Tryd.f68, Tryd.func68, by kernel_rfl, by kernel_rfl⟩
theorem call47c48_48 : Callable Tryd.prog 48 := ⟨Tryd.f48, Tryd.func48, by kernel_rfl, by kernel_rfl⟩
theorem ext47c48Ok : ExtOk Tryd.prog ext47c48 := ⟨⟨call47c48_68, con68c48⟩, ⟨call47c48_48, con48⟩, trivial⟩

noncomputable def b47c48 : Code := bodyOf Tryd.f47
theorem hb47c48 : Tryd.f47.body = some b47c48 := by kernel_rfl
def sig47c48 : List AT := [AT.v (Ty.sl Ty.str), AT.fn 48 []]
def tys47c48 : List Ty := [Ty.bool]
def kds47c48 : List RK := []
def oks47c48 : List AT := owns sig47c48
def P47c48 (x0 : List ByteArray) : Prop := True
def g47c48_0 (x0 : List ByteArray) : Bool := Decidable.decide (g68c48_0 x0 ≥ 0)
theorem p47c48_0 (x0 : List ByteArray) : runF tab ext47c48 false 9 [] 2000 [] oks47c48 kds47c48 tys47c48 Tryd.f47.results [] [.code b47c48] (entE 0 0 sig47c48 (x0, (), ())) (entL sig47c48 (x0, (), ())) = some ([Dyn.mk Ty.bool (Decidable.decide (g68c48_0 x0 ≥ 0))], [], [True]) := by kernel_rfl
theorem at47c48 (x0 : List ByteArray) (h : P47c48 x0) (K : Ctx) (q : Nat → Value) : AtV Tryd.prog 47 (PostR kds47c48 oks47c48 [⟨Ty.bool, g47c48_0 x0⟩] [] [] q K) 9 K q [] [.code b47c48] (entE 0 0 sig47c48 (x0, (), ())) (entL sig47c48 (x0, (), ())) := by
  unfold P47c48 at h
  unfold g47c48_0
  exact AtV.fin Tryd.func47 tabOk ext47c48Ok mixed (p47c48_0 x0) ⟨trivial, trivial⟩

def S47c48 : Am.Spec := { sig := sig47c48, pre := fun ⟨x0, _⟩ => P47c48 x0, res := fun ⟨x0, _⟩ => [⟨Ty.bool, g47c48_0 x0⟩], kds := kds47c48 }
theorem con47c48 : Contract Tryd.prog 47 S47c48 := contract_of Tryd.func47 hb47c48 (Nat.le_of_ble_eq_true (by kernel_rfl)) (fun ⟨x0, _⟩ h _ K q => at47c48 x0 h K q)


end
end Go.Proofs.YtpledggbnnjbiaaDoor

/- Function 36 (impl.areCells): its runs between cut points. Written by a program of this repo (gen). -/
set_option linter.unusedVariables false
set_option linter.unusedSimpArgs false
set_option maxRecDepth 100000
namespace Go.Proofs.YtpledggbnnjbiaaDoor
open Go Go.Am Go.Proofs
noncomputable section
def ext36 : Ext := [(47, S47c48)]
theorem call36_47 : Callable Tryd.prog 47 := ⟨Tryd.f47, Tryd.func47, by kernel_rfl, by kernel_rfl⟩
theorem ext36Ok : ExtOk Tryd.prog ext36 := ⟨⟨call36_47, con47c48⟩, trivial⟩

noncomputable def b36 : Code := bodyOf Tryd.f36
theorem hb36 : Tryd.f36.body = some b36 := by kernel_rfl
def sig36 : List AT := [AT.v (Ty.sl Ty.str)]
def tys36 : List Ty := [Ty.bool]
def kds36 : List RK := []
def oks36 : List AT := owns sig36
def P36 (x0 : List ByteArray) : Prop := True
def g36_0 (x0 : List ByteArray) : Bool := (if (Decidable.decide ((↑(List.length x0) : Int) ≤ 12)) = true then !g47c48_0 x0 else Bool.false)
theorem p36_0 (x0 : List ByteArray) : runF tab ext36 false 11 [] 2000 [] oks36 kds36 tys36 Tryd.f36.results [true] [.code b36] (entE 0 0 sig36 (x0, ())) (entL sig36 (x0, ())) = some ([Dyn.mk Ty.bool !g47c48_0 x0], [], [Decidable.decide ((↑(List.length x0) : Int) ≤ 12) = Bool.true, True]) := by kernel_rfl
theorem p36_1 (x0 : List ByteArray) : runF tab ext36 false 11 [] 2000 [] oks36 kds36 tys36 Tryd.f36.results [false] [.code b36] (entE 0 0 sig36 (x0, ())) (entL sig36 (x0, ())) = some ([Dyn.mk Ty.bool Bool.false], [], [Decidable.decide ((↑(List.length x0) : Int) ≤ 12) = Bool.false]) := by kernel_rfl
theorem at36 (x0 : List ByteArray) (h : P36 x0) (K : Ctx) (q : Nat → Value) : AtV Tryd.prog 36 (PostR kds36 oks36 [⟨Ty.bool, g36_0 x0⟩] [] [] q K) 11 K q [] [.code b36] (entE 0 0 sig36 (x0, ())) (entL sig36 (x0, ())) := by
  unfold P36 at h
  unfold g36_0
  by_cases b0 : (Decidable.decide ((↑(List.length x0) : Int) ≤ 12)) = true
  · try simp only [if_pos b0] at h ⊢
    exact AtV.fin Tryd.func36 tabOk ext36Ok mixed (p36_0 x0) ⟨b0, trivial, trivial⟩
  · try simp only [if_neg b0] at h ⊢
    replace b0 := Bool.eq_false_iff.2 b0
    exact AtV.fin Tryd.func36 tabOk ext36Ok mixed (p36_1 x0) ⟨b0, trivial⟩

def S36 : Am.Spec := { sig := sig36, pre := fun ⟨x0, _⟩ => P36 x0, res := fun ⟨x0, _⟩ => [⟨Ty.bool, g36_0 x0⟩], kds := kds36 }
theorem con36 : Contract Tryd.prog 36 S36 := contract_of Tryd.func36 hb36 (Nat.le_of_ble_eq_true (by kernel_rfl)) (fun ⟨x0, _⟩ h _ K q => at36 x0 h K q)


end
end Go.Proofs.YtpledggbnnjbiaaDoor

/- Function 35 (impl.TableLines$1): its runs between cut points. Written by a program of this repo (gen). -/
set_option linter.unusedVariables false
set_option linter.unusedSimpArgs false
set_option maxRecDepth 100000
namespace Go.Proofs.YtpledggbnnjbiaaDoor
open Go Go.Am Go.Proofs
noncomputable section
def ext35 : Ext := [(36, S36)]
theorem call35_36 : Callable Tryd.prog 36 := ⟨Tryd.f36, Tryd.func36, by kernel_rfl, by kernel_rfl⟩
theorem ext35Ok : ExtOk Tryd.prog ext35 := ⟨⟨call35_36, con36⟩, trivial⟩

noncomputable def b35 : Code := bodyOf Tryd.f35
theorem hb35 : Tryd.f35.body = some b35 := by kernel_rfl
def sig35 : List AT := [AT.v (Ty.sl Ty.str)]
def tys35 : List Ty := [Ty.bool]
def kds35 : List RK := []
def oks35 : List AT := owns sig35
def P35 (x0 : List ByteArray) : Prop := True
def g35_0 (x0 : List ByteArray) : Bool := !g36_0 x0
theorem p35_0 (x0 : List ByteArray) : runF tab ext35 false 6 [] 2000 [] oks35 kds35 tys35 Tryd.f35.results [] [.code b35] (entE 0 0 sig35 (x0, ())) (entL sig35 (x0, ())) = some ([Dyn.mk Ty.bool !g36_0 x0], [], [True]) := by kernel_rfl
theorem at35 (x0 : List ByteArray) (h : P35 x0) (K : Ctx) (q : Nat → Value) : AtV Tryd.prog 35 (PostR kds35 oks35 [⟨Ty.bool, g35_0 x0⟩] [] [] q K) 6 K q [] [.code b35] (entE 0 0 sig35 (x0, ())) (entL sig35 (x0, ())) := by
  unfold P35 at h
  unfold g35_0
  exact AtV.fin Tryd.func35 tabOk ext35Ok mixed (p35_0 x0) ⟨trivial, trivial⟩

def S35 : Am.Spec := { sig := sig35, pre := fun ⟨x0, _⟩ => P35 x0, res := fun ⟨x0, _⟩ => [⟨Ty.bool, g35_0 x0⟩], kds := kds35 }
theorem con35 : Contract Tryd.prog 35 S35 := contract_of Tryd.func35 hb35 (Nat.le_of_ble_eq_true (by kernel_rfl)) (fun ⟨x0, _⟩ h _ K q => at35 x0 h K q)


end
end Go.Proofs.YtpledggbnnjbiaaDoor

/- Function 46 (slices.IndexFunc[[][]string,[]string]): its runs between cut points. Written by a program of this repo (gen). -/
set_option linter.unusedVariables false
set_option linter.unusedSimpArgs false
set_option maxRecDepth 100000
namespace Go.Proofs.YtpledggbnnjbiaaDoor
open Go Go.Am Go.Proofs
noncomputable section
def ext46c35 : Ext := [(35, S35)]
theorem call46c35_35 : Callable Tryd.prog 35 := ⟨Tryd.f35, Tryd.func35, by kernel_rfl, by kernel_rfl⟩
theorem ext46c35Ok : ExtOk Tryd.prog ext46c35 := ⟨⟨call46c35_35, con35⟩, trivial⟩

noncomputable def b46c35 : Code := bodyOf Tryd.f46
theorem hb46c35 : Tryd.f46.body = some b46c35 := by kernel_rfl
def sig46c35 : List AT := [AT.v (Ty.sl (Ty.sl Ty.str)), AT.fn 35 []]
def tys46c35 : List Ty := [Ty.int IntKind.i64]
def kds46c35 : List RK := []
def oks46c35 : List AT := owns sig46c35
def E46c35_2 (v8 : Int) (x0 : List (List ByteArray)) : Env := [(0, PV.a (Atom.sl (Ty.sl Ty.str) x0)), (1, PV.fn 35 []), (7, PV.a (Atom.val (Value.int IntKind.i64 (↑(List.length x0) : Int)))), (8, PV.a (Atom.val (Value.int IntKind.i64 v8)))]
def L46c35_2 (v8 : Int) (x0 : List (List ByteArray)) : Heap := []
mutual
def R46c35 : Nat → List (List ByteArray) → List Dyn → Prop
  | 0, _, _ => False
  | n + 1, x0, ds => (R46c35_2 n (0) (x0) ds)
def R46c35_2 : Nat → Int → List (List ByteArray) → List Dyn → Prop
  | 0, _, _, _ => False
  | n + 1, v8, x0, ds => (if (Decidable.decide (v8 < (↑(List.length x0) : Int))) = true then ((0 ≤ v8) ∧ (v8 < (↑(List.length x0) : Int)) ∧ (if (g35_0 (List.getD x0 (Int.toNat v8) [])) = true then (ds = [Dyn.mk (Ty.int IntKind.i64) v8]) else ((InR IntKind.i64 (v8 + 1)) ∧ (R46c35_2 n (v8 + 1) (x0) ds)))) else (ds = [Dyn.mk (Ty.int IntKind.i64) (-1)]))
end
theorem p46c35_0 (x0 : List (List ByteArray)) : Am.runN tab ext46c35 false 19 [] 2000 [] [] [0, 1, 7, 8] [] [] [.code b46c35] (entE 0 0 sig46c35 (x0, (), ())) (entL sig46c35 (x0, (), ())) = some (cutAt b46c35 2, E46c35_2 (0) (x0), L46c35_2 (0) (x0), []) := by kernel_rfl
theorem p46c35_1 (v8 : Int) (x0 : List (List ByteArray)) : runF tab ext46c35 false 19 [] 2000 [] oks46c35 kds46c35 tys46c35 Tryd.f46.results [true, true] (cutAt b46c35 2) (E46c35_2 v8 x0) (L46c35_2 v8 x0) = some ([Dyn.mk (Ty.int IntKind.i64) v8], [], [Decidable.decide (v8 < (↑(List.length x0) : Int)) = Bool.true, 0 ≤ v8, v8 < (↑(List.length x0) : Int), True, g35_0 (List.getD x0 (Int.toNat v8) []) = Bool.true]) := by kernel_rfl
theorem p46c35_2 (v8 : Int) (x0 : List (List ByteArray)) : Am.runN tab ext46c35 false 19 [] 2000 [] [] [0, 1, 7, 8] [] [true, false] (cutAt b46c35 2) (E46c35_2 v8 x0) (L46c35_2 v8 x0) = some (cutAt b46c35 2, E46c35_2 (v8 + 1) (x0), L46c35_2 (v8 + 1) (x0), [Decidable.decide (v8 < (↑(List.length x0) : Int)) = Bool.true, 0 ≤ v8, v8 < (↑(List.length x0) : Int), True, g35_0 (List.getD x0 (Int.toNat v8) []) = Bool.false, InR IntKind.i64 (v8 + 1)]) := by kernel_rfl
theorem p46c35_3 (v8 : Int) (x0 : List (List ByteArray)) : runF tab ext46c35 false 19 [] 2000 [] oks46c35 kds46c35 tys46c35 Tryd.f46.results [false] (cutAt b46c35 2) (E46c35_2 v8 x0) (L46c35_2 v8 x0) = some ([Dyn.mk (Ty.int IntKind.i64) (-1)], [], [Decidable.decide (v8 < (↑(List.length x0) : Int)) = Bool.false]) := by kernel_rfl
theorem snd46c35 : ∀ n, (∀ (x0 : List (List ByteArray)) ds, R46c35 n x0 ds → ∀ K q, AtV Tryd.prog 46 (PostR kds46c35 oks46c35 ds [] [] q K) 19 K q [] [.code b46c35] (entE 0 0 sig46c35 (x0, (), ())) (entL sig46c35 (x0, (), ()))) ∧ (∀ (v8 : Int) (x0 : List (List ByteArray)) ds, R46c35_2 n v8 x0 ds → ∀ K q, AtV Tryd.prog 46 (PostR kds46c35 oks46c35 ds [] [] q K) 19 K q [] (cutAt b46c35 2) (E46c35_2 v8 x0) (L46c35_2 v8 x0)) := by
  intro n
  induction n with
  | zero => exact ⟨fun _ _ h => by simp only [R46c35] at h, fun _ _ _ h => by simp only [R46c35_2] at h⟩
  | succ n ih =>
  obtain ⟨ih, ih2⟩ := ih
  refine ⟨?_, ?_⟩
  · intro x0 ds h K q
    rw [R46c35] at h
    exact AtV.runN tabOk ext46c35Ok mixed (p46c35_0 x0) trivial (ih2 _ _ _ h K q)

  · intro v8 x0 ds h K q
    rw [R46c35_2] at h
    by_cases b0 : (Decidable.decide (v8 < (↑(List.length x0) : Int))) = true
    · rw [if_pos b0] at h
      obtain ⟨s0, s1, h⟩ := h
      by_cases b1 : (g35_0 (List.getD x0 (Int.toNat v8) [])) = true
      · rw [if_pos b1] at h
        subst h
        exact AtV.fin Tryd.func46 tabOk ext46c35Ok mixed (p46c35_1 v8 x0) ⟨b0, s0, s1, trivial, b1, trivial⟩
      · rw [if_neg b1] at h
        replace b1 := Bool.eq_false_iff.2 b1
        obtain ⟨s2, h⟩ := h
        exact AtV.runN tabOk ext46c35Ok mixed (p46c35_2 v8 x0) ⟨b0, s0, s1, trivial, b1, s2, trivial⟩ (ih2 _ _ _ h K q)
    · rw [if_neg b0] at h
      replace b0 := Bool.eq_false_iff.2 b0
      subst h
      exact AtV.fin Tryd.func46 tabOk ext46c35Ok mixed (p46c35_3 v8 x0) ⟨b0, trivial⟩



def g46c35_0 (x0 : List (List (ByteArray))) : Int := idx (x0.findIdx? g35_0)
def P46c35 (x0 : List (List (ByteArray))) : Prop := True

theorem top46c35 (x0 : List (List (ByteArray))) (hm : x0.length ≤ maxLen) : R46c35 (x0.length + 1 + 1) x0 [⟨.int .i64, g46c35_0 x0⟩] := by
  rw [R46c35]
  have key := loop_find x0 [] g35_0 [(⟨.int .i64, -1⟩ : Dyn)] (fun k => [⟨.int .i64, k⟩]) (fun n i ds => R46c35_2 n i x0 ds) (fun n => ?_) (fun n i hi hok ds hr => ?_) (fun n i hi hok => ?_)
  · unfold g46c35_0
    cases h : x0.findIdx? g35_0 <;> rw [h] at key <;> exact key
  · rw [R46c35_2, if_neg (by simp)]
  · rw [R46c35_2, if_pos (by simp; omega)]
    simp only [Int.toNat_natCast]
    refine ⟨by omega, by omega, ?_⟩
    rw [if_neg (by rw [hok]; simp)]
    exact ⟨inR_up hm hi, hr⟩
  · rw [R46c35_2, if_pos (by simp; omega)]
    simp only [Int.toNat_natCast]
    refine ⟨by omega, by omega, ?_⟩
    rw [if_pos hok] <;> trivial

def S46c35 : Am.Spec := { sig := sig46c35, pre := fun ⟨x0, _⟩ => P46c35 x0, res := fun ⟨x0, _⟩ => [⟨Ty.int .i64, g46c35_0 x0⟩] }
theorem con46c35 : Contract Tryd.prog 46 S46c35 := contract_of Tryd.func46 hb46c35 (Nat.le_of_ble_eq_true (by kernel_rfl)) (fun ⟨x0, _⟩ h hwf K q =>
  (snd46c35 _).1 x0 _ (top46c35 x0 hwf.1.1) K q)

theorem any46c35 (x0 : List (List (ByteArray))) : decide (g46c35_0 x0 ≥ 0) = x0.any g35_0 := by
  have := findIdx_any g35_0 x0
  unfold g46c35_0
  cases h : x0.any g35_0 with
  | true => rw [h] at this; simpa using this
  | false => rw [h] at this; simpa using this

end
end Go.Proofs.YtpledggbnnjbiaaDoor

/- Function 34 (slices.ContainsFunc[[][]string,[]string]): its runs between cut points. Written by a program of this repo (gen). -/
set_option linter.unusedVariables false
set_option linter.unusedSimpArgs false
set_option maxRecDepth 100000
namespace Go.Proofs.YtpledggbnnjbiaaDoor
open Go Go.Am Go.Proofs
noncomputable section
def ext34c35 : Ext := [(46, S46c35), (35, S35)]
theorem call34c35_46 : Callable Tryd.prog 46 := ⟨Tryd.f46, Tryd.func46, by kernel_rfl, by kernel_rfl⟩
theorem call34c35_35 : Callable Tryd.prog 35 := ⟨Tryd.f35, Tryd.func35, by kernel_rfl, by kernel_rfl⟩
theorem ext34c35Ok : ExtOk Tryd.prog ext34c35 := ⟨⟨call34c35_46, con46c35⟩, ⟨call34c35_35, con35⟩, trivial⟩

noncomputable def b34c35 : Code := bodyOf Tryd.f34
theorem hb34c35 : Tryd.f34.body = some b34c35 := by kernel_rfl
def sig34c35 : List AT := [AT.v (Ty.sl (Ty.sl Ty.str)), AT.fn 35 []]
def tys34c35 : List Ty := [Ty.bool]
def kds34c35 : List RK := []
def oks34c35 : List AT := owns sig34c35
def P34c35 (x0 : List (List ByteArray)) : Prop := True
def g34c35_0 (x0 : List (List ByteArray)) : Bool := Decidable.decide (g46c35_0 x0 ≥ 0)
theorem p34c35_0 (x0 : List (List ByteArray)) : runF tab ext34c35 false 9 [] 2000 [] oks34c35 kds34c35 tys34c35 Tryd.f34.results [] [.code b34c35] (entE 0 0 sig34c35 (x0, (), ())) (entL sig34c35 (x0, (), ())) = some ([Dyn.mk Ty.bool (Decidable.decide (g46c35_0 x0 ≥ 0))], [], [True]) := by kernel_rfl
theorem at34c35 (x0 : List (List ByteArray)) (h : P34c35 x0) (K : Ctx) (q : Nat → Value) : AtV Tryd.prog 34 (PostR kds34c35 oks34c35 [⟨Ty.bool, g34c35_0 x0⟩] [] [] q K) 9 K q [] [.code b34c35] (entE 0 0 sig34c35 (x0, (), ())) (entL sig34c35 (x0, (), ())) := by
  unfold P34c35 at h
  unfold g34c35_0
  exact AtV.fin Tryd.func34 tabOk ext34c35Ok mixed (p34c35_0 x0) ⟨trivial, trivial⟩

def S34c35 : Am.Spec := { sig := sig34c35, pre := fun ⟨x0, _⟩ => P34c35 x0, res := fun ⟨x0, _⟩ => [⟨Ty.bool, g34c35_0 x0⟩], kds := kds34c35 }
theorem con34c35 : Contract Tryd.prog 34 S34c35 := contract_of Tryd.func34 hb34c35 (Nat.le_of_ble_eq_true (by kernel_rfl)) (fun ⟨x0, _⟩ h _ K q => at34c35 x0 h K q)


end
end Go.Proofs.YtpledggbnnjbiaaDoor
