/- Several texts in one: the functions that this law reaches, and their laws. -/
import Derived.Test.YtbepbihblhhfkaaGreatDoorZ3A
import Derived.Test.YtbepbihblhhfkaaGreatDoorZ3B
import Derived.Test.YtbepbihblhhfkaaGreatDoorZ3C
import Derived.Lib.ItoaNum
import Derived.Shelf.Strings.Builder1
import Derived.Shelf.Strings.Builder2
import Derived.Shelf.Strings.OnBuilder
import Derived.Shelf.Strings.BuilderF
import Derived.Shelf.Strings.BuilderK
import Derived.Shelf.Utf8.RuneCount
import Derived.Shelf.Strings.Builder2Cap
import Derived.Shelf.Strconv.Itoa0
import Derived.Shelf.Strconv.Itoa1
import Derived.Shelf.LaysM
import Derived.Shelf.Strconv.Itoa2
import Derived.Shelf.Strconv.Itoa3
import Derived.Shelf.Strconv.Itoa4
import Derived.Shelf.Strconv.ParseIntEmpty
import Derived.Shelf.Strconv.Clone
import Derived.Shelf.Strconv.SyntaxError
import Derived.Shelf.LaysC
import Derived.Shelf.Strconv.ToError
import Derived.Shelf.Strconv.Lower
import Derived.Shelf.Strconv.ParseUint10
import Derived.Shelf.Strconv.ParseUint10Empty
import Derived.Shelf.Strconv.ParseUint10Any
import Derived.Shelf.Strconv.ParseInt10
import Derived.Shelf.Strconv.RangeError
import Derived.Shelf.Strconv.ToErrorRange
import Derived.Shelf.Strconv.ParseUintEmpty
import Derived.Shelf.Strconv.ParseUint10b64
import Derived.Shelf.Strconv.ParseUint10b32
import Derived.Shelf.Strconv.ParseUint10b16
import Derived.Shelf.Strconv.ParseUint10b8
import Derived.Shelf.Strconv.ParseUint10At
import Derived.Shelf.Strconv.ParseInt10At64
import Derived.Shelf.Strconv.ParseInt10At32
import Derived.Shelf.Strconv.ParseInt10At16
import Derived.Shelf.Strconv.ParseInt10At8
import Derived.Shelf.Strconv.ParseInt10All
import Derived.Shelf.Strconv.ParseIntPublic10
import Derived.Shelf.Strings.Search1
import Derived.Shelf.Strings.Search2
import Derived.Shelf.Strings.Search3
import Derived.Shelf.Strings.Cut
import Derived.Shelf.Strings.Count
import Derived.Shelf.Strings.Shaped
import Derived.Shelf.Strings.Prefix
import Derived.Shelf.Strings.Split
import Derived.Shelf.Strings.SplitShaped
import Derived.Shelf.Unicode.Decode
import Derived.Shelf.Strings.RuneCount
import Derived.Shelf.Strings.Explode
import Derived.Shelf.Bits.Mul64
import Derived.Shelf.Strings.Repeat
import Derived.Shelf.Unicode.DecodeSlow
import Derived.Shelf.Unicode.DecodeAny
import Derived.Shelf.Strings.BuilderCap
import Derived.Ground.SlgfProg
import Derived.Shelf.SlicesE.IndexFunc
set_option linter.unusedVariables false
set_option linter.unusedSimpArgs false
set_option maxRecDepth 100000
namespace Go.Proofs.YtbepbihblhhfkaaGreatDoor
open Go Go.Am Go.Proofs
noncomputable section
def ext75 : Ext := []
theorem ext75Ok : ExtOk Tryz.prog ext75 := trivial
noncomputable def b75 : Code := bodyOf Tryz.f75
theorem hb75 : Tryz.f75.body = some b75 := by kernel_rfl
def sig75 : List AT := [AT.pb YA2]
def tys75 : List Ty := [Ty.int .i64]
def kds75 : List RK := []
def oks75 : List AT := owns sig75
def P75 (x0 : List Int × Int × Int × Unit) : Prop := (if (decide (x0.2.1 < (↑(List.length x0.1) : Int))) = true then ((0 ≤ x0.2.1) ∧ (x0.2.1 < (↑(List.length x0.1) : Int)) ∧ (if (decide (IntKind.wrap IntKind.i64 (x0.2.1 + 1) ≤ (↑(List.length x0.1) : Int))) = true then True else ((InR .u64 (Int.fdiv (IntKind.wrap IntKind.u64 (IntKind.wrap IntKind.u64 (IntKind.wrap IntKind.u64 (x0.2.2.1 * 6364136223846793005) + IntKind.wrap IntKind.u64 (IntKind.wrap IntKind.i64 (List.getD x0.1 (Int.toNat x0.2.1) 0))) + 1442695040888963407)) 1099511627776)) ∧ True))) else (if (decide (IntKind.wrap IntKind.i64 (x0.2.1 + 1) ≤ (↑(List.length x0.1) : Int))) = true then True else ((InR .u64 (Int.fdiv (IntKind.wrap IntKind.u64 (IntKind.wrap IntKind.u64 (IntKind.wrap IntKind.u64 (x0.2.2.1 * 6364136223846793005) + 0) + 1442695040888963407)) 1099511627776)) ∧ True)))
def g75_0 (x0 : List Int × Int × Int × Unit) : Int := (if (decide (x0.2.1 < (↑(List.length x0.1) : Int))) = true then (if (decide (IntKind.wrap IntKind.i64 (x0.2.1 + 1) ≤ (↑(List.length x0.1) : Int))) = true then IntKind.wrap IntKind.i64 (List.getD x0.1 (Int.toNat x0.2.1) 0) else IntKind.wrap IntKind.i64 (IntKind.wrap IntKind.u64 (↑(BitVec.toNat (BitVec.ofInt 64 (Int.fdiv (IntKind.wrap IntKind.u64 (IntKind.wrap IntKind.u64 (IntKind.wrap IntKind.u64 (x0.2.2.1 * 6364136223846793005) + IntKind.wrap IntKind.u64 (IntKind.wrap IntKind.i64 (List.getD x0.1 (Int.toNat x0.2.1) 0))) + 1442695040888963407)) 1099511627776) &&& BitVec.ofInt 64 255)) : Int))) else (if (decide (IntKind.wrap IntKind.i64 (x0.2.1 + 1) ≤ (↑(List.length x0.1) : Int))) = true then 0 else IntKind.wrap IntKind.i64 (IntKind.wrap IntKind.u64 (↑(BitVec.toNat (BitVec.ofInt 64 (Int.fdiv (IntKind.wrap IntKind.u64 (IntKind.wrap IntKind.u64 (IntKind.wrap IntKind.u64 (x0.2.2.1 * 6364136223846793005) + 0) + 1442695040888963407)) 1099511627776) &&& BitVec.ofInt 64 255)) : Int))))
def u75_0 (x0 : List Int × Int × Int × Unit) : List Int × Int × Int × Unit := (if (decide (x0.2.1 < (↑(List.length x0.1) : Int))) = true then (if (decide (IntKind.wrap IntKind.i64 (x0.2.1 + 1) ≤ (↑(List.length x0.1) : Int))) = true then (x0.1, IntKind.wrap IntKind.i64 (x0.2.1 + 1), IntKind.wrap IntKind.u64 (IntKind.wrap IntKind.u64 (IntKind.wrap IntKind.u64 (x0.2.2.1 * 6364136223846793005) + IntKind.wrap IntKind.u64 (IntKind.wrap IntKind.i64 (List.getD x0.1 (Int.toNat x0.2.1) 0))) + 1442695040888963407), ()) else (x0.1, IntKind.wrap IntKind.i64 (x0.2.1 + 1), IntKind.wrap IntKind.u64 (IntKind.wrap IntKind.u64 (IntKind.wrap IntKind.u64 (x0.2.2.1 * 6364136223846793005) + IntKind.wrap IntKind.u64 (IntKind.wrap IntKind.i64 (List.getD x0.1 (Int.toNat x0.2.1) 0))) + 1442695040888963407), ())) else (if (decide (IntKind.wrap IntKind.i64 (x0.2.1 + 1) ≤ (↑(List.length x0.1) : Int))) = true then (x0.1, IntKind.wrap IntKind.i64 (x0.2.1 + 1), IntKind.wrap IntKind.u64 (IntKind.wrap IntKind.u64 (IntKind.wrap IntKind.u64 (x0.2.2.1 * 6364136223846793005) + 0) + 1442695040888963407), ()) else (x0.1, IntKind.wrap IntKind.i64 (x0.2.1 + 1), IntKind.wrap IntKind.u64 (IntKind.wrap IntKind.u64 (IntKind.wrap IntKind.u64 (x0.2.2.1 * 6364136223846793005) + 0) + 1442695040888963407), ())))
theorem at75 (x0 : List Int × Int × Int × Unit) (h : P75 x0) (K : Ctx) (q : Nat → Value) : AtV Tryz.prog 75 (PostR kds75 oks75 [⟨Ty.int .i64, g75_0 x0⟩] [some ⟨Ty.cons (Ty.sl (Ty.int .u8)) YA4, [u75_0 x0]⟩] [0] q K) 62 K q [0] [.code b75] (entE 0 0 sig75 (x0, ())) (entL sig75 (x0, ())) := by
  unfold P75 at h
  unfold g75_0 u75_0
  by_cases b0 : (decide (x0.2.1 < (↑(List.length x0.1) : Int))) = true
  · try simp only [if_pos b0] at h ⊢
    obtain ⟨s0, s1, h⟩ := h
    by_cases b1 : (decide (IntKind.wrap IntKind.i64 (x0.2.1 + 1) ≤ (↑(List.length x0.1) : Int))) = true
    · try simp only [if_pos b1] at h ⊢
      exact AtV.weak (AtV.ret (us := [Option.some (Lst.mk YA2 [(x0.1, IntKind.wrap IntKind.i64 (x0.2.1 + 1), IntKind.wrap IntKind.u64 (IntKind.wrap IntKind.u64 (IntKind.wrap IntKind.u64 (x0.2.2.1 * 6364136223846793005) + IntKind.wrap IntKind.u64 (IntKind.wrap IntKind.i64 (List.getD x0.1 (Int.toNat x0.2.1) 0))) + 1442695040888963407), ())])]) Tryz.func75 tabOk ext75Ok mixed true [] tys75 [true, true] (a1 b0 (a1 s0 (a1 s1 (a1 b1 trivial)))) (by kernel_rfl)) ⟨.inl rfl, trivial⟩
    · try simp only [if_neg b1] at h ⊢
      replace b1 := Bool.eq_false_iff.2 b1
      obtain ⟨s2, h⟩ := h
      exact AtV.weak (AtV.ret (us := [Option.some (Lst.mk YA2 [(x0.1, IntKind.wrap IntKind.i64 (x0.2.1 + 1), IntKind.wrap IntKind.u64 (IntKind.wrap IntKind.u64 (IntKind.wrap IntKind.u64 (x0.2.2.1 * 6364136223846793005) + IntKind.wrap IntKind.u64 (IntKind.wrap IntKind.i64 (List.getD x0.1 (Int.toNat x0.2.1) 0))) + 1442695040888963407), ())])]) Tryz.func75 tabOk ext75Ok mixed true [] tys75 [true, false] (a1 b0 (a1 s0 (a1 s1 (a1 b1 (a1 ((by decide) : (0 : Int) ≤ (40 : Int)) (a1 s2 trivial)))))) (by kernel_rfl)) ⟨.inl rfl, trivial⟩
  · try simp only [if_neg b0] at h ⊢
    replace b0 := Bool.eq_false_iff.2 b0
    by_cases b1 : (decide (IntKind.wrap IntKind.i64 (x0.2.1 + 1) ≤ (↑(List.length x0.1) : Int))) = true
    · try simp only [if_pos b1] at h ⊢
      exact AtV.weak (AtV.ret (us := [Option.some (Lst.mk YA2 [(x0.1, IntKind.wrap IntKind.i64 (x0.2.1 + 1), IntKind.wrap IntKind.u64 (IntKind.wrap IntKind.u64 (IntKind.wrap IntKind.u64 (x0.2.2.1 * 6364136223846793005) + 0) + 1442695040888963407), ())])]) Tryz.func75 tabOk ext75Ok mixed true [] tys75 [false, true] (a1 b0 (a1 b1 trivial)) (by kernel_rfl)) ⟨.inl rfl, trivial⟩
    · try simp only [if_neg b1] at h ⊢
      replace b1 := Bool.eq_false_iff.2 b1
      obtain ⟨s0, h⟩ := h
      exact AtV.weak (AtV.ret (us := [Option.some (Lst.mk YA2 [(x0.1, IntKind.wrap IntKind.i64 (x0.2.1 + 1), IntKind.wrap IntKind.u64 (IntKind.wrap IntKind.u64 (IntKind.wrap IntKind.u64 (x0.2.2.1 * 6364136223846793005) + 0) + 1442695040888963407), ())])]) Tryz.func75 tabOk ext75Ok mixed true [] tys75 [false, false] (a1 b0 (a1 b1 (a1 ((by decide) : (0 : Int) ≤ (40 : Int)) (a1 s0 trivial)))) (by kernel_rfl)) ⟨.inl rfl, trivial⟩
def S75 : Am.Spec := { sig := sig75, pre := fun ⟨x0, _⟩ => P75 x0, upd := fun ⟨x0, _⟩ => [some ⟨Ty.cons (Ty.sl (Ty.int .u8)) YA4, [u75_0 x0]⟩], res := fun ⟨x0, _⟩ => [⟨Ty.int .i64, g75_0 x0⟩], kds := kds75 }
theorem con75 : Contract Tryz.prog 75 S75 := contract_of Tryz.func75 hb75 (Nat.le_of_ble_eq_true (by kernel_rfl)) (fun ⟨x0, _⟩ h _ K q => at75 x0 h K q)
end
noncomputable section
def ext45 : Ext := [(75, S75)]
theorem ext45Ok : ExtOk Tryz.prog ext45 := ⟨⟨ca75, con75⟩, trivial⟩
noncomputable def b45 : Code := bodyOf Tryz.f45
theorem hb45 : Tryz.f45.body = some b45 := by kernel_rfl
def sig45 : List AT := [AT.pb YA2, AT.v (Ty.int .i64)]
def tys45 : List Ty := [Ty.int .i64]
def kds45 : List RK := []
def oks45 : List AT := owns sig45
def P45 (x0 : List Int × Int × Int × Unit) (x1 : Int) : Prop := (if (decide (x1 ≤ 1)) = true then True else ((P75 x0) ∧ (if (decide (x1 > 200)) = true then ((InR .i64 (g75_0 x0 * 256)) ∧ ((P75 (u75_0 x0)) ∧ ((InR .i64 (g75_0 x0 * 256 + g75_0 (u75_0 x0))) ∧ ((x1 ≠ 0) ∧ (InR .i64 (Int.tmod (g75_0 x0 * 256 + g75_0 (u75_0 x0)) x1)) ∧ True)))) else ((x1 ≠ 0) ∧ (InR .i64 (Int.tmod (g75_0 x0) x1)) ∧ True))))
def g45_0 (x0 : List Int × Int × Int × Unit) (x1 : Int) : Int := (if (decide (x1 ≤ 1)) = true then 0 else (if (decide (x1 > 200)) = true then Int.tmod (g75_0 x0 * 256 + g75_0 (u75_0 x0)) x1 else Int.tmod (g75_0 x0) x1))
def u45_0 (x0 : List Int × Int × Int × Unit) (x1 : Int) : List Int × Int × Int × Unit := (if (decide (x1 ≤ 1)) = true then x0 else (if (decide (x1 > 200)) = true then u75_0 (u75_0 x0) else u75_0 x0))
theorem at45 (x0 : List Int × Int × Int × Unit) (x1 : Int) (h : P45 x0 x1) (K : Ctx) (q : Nat → Value) : AtV Tryz.prog 45 (PostR kds45 oks45 [⟨Ty.int .i64, g45_0 x0 x1⟩] [some ⟨Ty.cons (Ty.sl (Ty.int .u8)) YA4, [u45_0 x0 x1]⟩] [0] q K) 20 K q [0] [.code b45] (entE 0 0 sig45 (x0, x1, ())) (entL sig45 (x0, x1, ())) := by
  unfold P45 at h
  unfold g45_0 u45_0
  by_cases b0 : (decide (x1 ≤ 1)) = true
  · try simp only [if_pos b0] at h ⊢
    exact AtV.weak (AtV.ret (us := [Option.some (Lst.mk YA2 [x0])]) Tryz.func45 tabOk ext45Ok mixed false [] tys45 [true] (a1 b0 trivial) (by kernel_rfl)) ⟨.inl rfl, trivial⟩
  · try simp only [if_neg b0] at h ⊢
    replace b0 := Bool.eq_false_iff.2 b0
    obtain ⟨s0, h⟩ := h
    by_cases b1 : (decide (x1 > 200)) = true
    · try simp only [if_pos b1] at h ⊢
      obtain ⟨s1, h⟩ := h
      obtain ⟨s2, h⟩ := h
      obtain ⟨s3, h⟩ := h
      obtain ⟨s4, s5, h⟩ := h
      exact AtV.weak (AtV.ret (us := [Option.some (Lst.mk YA2 [u75_0 (u75_0 x0)])]) Tryz.func45 tabOk ext45Ok mixed false [] tys45 [false, true] (a1 b0 (a1 s0 (a1 b1 (a1 s1 (a1 s2 (a1 s3 (a1 s4 (a1 s5 trivial)))))))) (by kernel_rfl)) ⟨.inl rfl, trivial⟩
    · try simp only [if_neg b1] at h ⊢
      replace b1 := Bool.eq_false_iff.2 b1
      obtain ⟨s1, s2, h⟩ := h
      exact AtV.weak (AtV.ret (us := [Option.some (Lst.mk YA2 [u75_0 x0])]) Tryz.func45 tabOk ext45Ok mixed false [] tys45 [false, false] (a1 b0 (a1 s0 (a1 b1 (a1 s1 (a1 s2 trivial))))) (by kernel_rfl)) ⟨.inl rfl, trivial⟩
def S45 : Am.Spec := { sig := sig45, pre := fun ⟨x0, x1, _⟩ => P45 x0 x1, upd := fun ⟨x0, x1, _⟩ => [some ⟨Ty.cons (Ty.sl (Ty.int .u8)) YA4, [u45_0 x0 x1]⟩], res := fun ⟨x0, x1, _⟩ => [⟨Ty.int .i64, g45_0 x0 x1⟩], kds := kds45 }
theorem con45 : Contract Tryz.prog 45 S45 := contract_of Tryz.func45 hb45 (Nat.le_of_ble_eq_true (by kernel_rfl)) (fun ⟨x0, x1, _⟩ h _ K q => at45 x0 x1 h K q)
end
noncomputable section
def ext77 : Ext := [(45, S45)]
theorem ext77Ok : ExtOk Tryz.prog ext77 := ⟨⟨ca45, con45⟩, trivial⟩
noncomputable def b77 : Code := bodyOf Tryz.f77
theorem hb77 : Tryz.f77.body = some b77 := by kernel_rfl
def sig77 : List AT := [AT.pb YA2, AT.v (Ty.sl Ty.str)]
def tys77 : List Ty := [Ty.str]
def kds77 : List RK := []
def oks77 : List AT := owns sig77
def P77 (x0 : List Int × Int × Int × Unit) (x1 : List ByteArray) : Prop := ((P45 x0 (↑(List.length x1) : Int)) ∧ ((0 ≤ g45_0 x0 (↑(List.length x1) : Int)) ∧ (g45_0 x0 (↑(List.length x1) : Int) < (↑(List.length x1) : Int)) ∧ True))
def g77_0 (x0 : List Int × Int × Int × Unit) (x1 : List ByteArray) : ByteArray := List.getD x1 (Int.toNat (g45_0 x0 (↑(List.length x1) : Int))) ByteArray.empty
def u77_0 (x0 : List Int × Int × Int × Unit) (x1 : List ByteArray) : List Int × Int × Int × Unit := u45_0 x0 (↑(List.length x1) : Int)
theorem at77 (x0 : List Int × Int × Int × Unit) (x1 : List ByteArray) (h : P77 x0 x1) (K : Ctx) (q : Nat → Value) : AtV Tryz.prog 77 (PostR kds77 oks77 [⟨Ty.str, g77_0 x0 x1⟩] [some ⟨Ty.cons (Ty.sl (Ty.int .u8)) YA4, [u77_0 x0 x1]⟩] [0] q K) 12 K q [0] [.code b77] (entE 0 0 sig77 (x0, x1, ())) (entL sig77 (x0, x1, ())) := by
  unfold P77 at h
  unfold g77_0 u77_0
  obtain ⟨s0, h⟩ := h
  obtain ⟨s1, s2, h⟩ := h
  exact AtV.weak (AtV.ret (us := [Option.some (Lst.mk YA2 [u45_0 x0 (↑(List.length x1) : Int)])]) Tryz.func77 tabOk ext77Ok mixed false [] tys77 [] (a1 s0 (a1 s1 (a1 s2 trivial))) (by kernel_rfl)) ⟨.inl rfl, trivial⟩
def S77 : Am.Spec := { sig := sig77, pre := fun ⟨x0, x1, _⟩ => P77 x0 x1, upd := fun ⟨x0, x1, _⟩ => [some ⟨Ty.cons (Ty.sl (Ty.int .u8)) YA4, [u77_0 x0 x1]⟩], res := fun ⟨x0, x1, _⟩ => [⟨Ty.str, g77_0 x0 x1⟩], kds := kds77 }
theorem con77 : Contract Tryz.prog 77 S77 := contract_of Tryz.func77 hb77 (Nat.le_of_ble_eq_true (by kernel_rfl)) (fun ⟨x0, x1, _⟩ h _ K q => at77 x0 x1 h K q)
end
noncomputable section
def ext78 : Ext := [(45, S45)]
theorem ext78Ok : ExtOk Tryz.prog ext78 := ⟨⟨ca45, con45⟩, trivial⟩
noncomputable def b78 : Code := bodyOf Tryz.f78
theorem hb78 : Tryz.f78.body = some b78 := by kernel_rfl
def sig78 : List AT := [AT.pb YA2, AT.v (Ty.int .i64)]
def tys78 : List Ty := [Ty.bool]
def kds78 : List RK := []
def oks78 : List AT := owns sig78
def P78 (x0 : List Int × Int × Int × Unit) (x1 : Int) : Prop := ((P45 x0 x1) ∧ True)
def g78_0 (x0 : List Int × Int × Int × Unit) (x1 : Int) : Bool := g45_0 x0 x1 == 0
def u78_0 (x0 : List Int × Int × Int × Unit) (x1 : Int) : List Int × Int × Int × Unit := u45_0 x0 x1
theorem at78 (x0 : List Int × Int × Int × Unit) (x1 : Int) (h : P78 x0 x1) (K : Ctx) (q : Nat → Value) : AtV Tryz.prog 78 (PostR kds78 oks78 [⟨Ty.bool, g78_0 x0 x1⟩] [some ⟨Ty.cons (Ty.sl (Ty.int .u8)) YA4, [u78_0 x0 x1]⟩] [0] q K) 9 K q [0] [.code b78] (entE 0 0 sig78 (x0, x1, ())) (entL sig78 (x0, x1, ())) := by
  unfold P78 at h
  unfold g78_0 u78_0
  obtain ⟨s0, h⟩ := h
  exact AtV.weak (AtV.ret (us := [Option.some (Lst.mk YA2 [u45_0 x0 x1])]) Tryz.func78 tabOk ext78Ok mixed false [] tys78 [] (a1 s0 trivial) (by kernel_rfl)) ⟨.inl rfl, trivial⟩
def S78 : Am.Spec := { sig := sig78, pre := fun ⟨x0, x1, _⟩ => P78 x0 x1, upd := fun ⟨x0, x1, _⟩ => [some ⟨Ty.cons (Ty.sl (Ty.int .u8)) YA4, [u78_0 x0 x1]⟩], res := fun ⟨x0, x1, _⟩ => [⟨Ty.bool, g78_0 x0 x1⟩], kds := kds78 }
theorem con78 : Contract Tryz.prog 78 S78 := contract_of Tryz.func78 hb78 (Nat.le_of_ble_eq_true (by kernel_rfl)) (fun ⟨x0, x1, _⟩ h _ K q => at78 x0 x1 h K q)
end
def SrcOk (n : Int) (s : List Int × Int × Int × Unit) : Prop := (∀ b ∈ s.1, 0 ≤ b ∧ b ≤ 255) ∧ 0 ≤ s.2.1 ∧ s.2.1 ≤ n
theorem SrcOk.up {n m : Int} {s : List Int × Int × Int × Unit} (h : SrcOk n s) (hm : n ≤ m) : SrcOk m s := ⟨h.1, h.2.1, Int.le_trans h.2.2 hm⟩
theorem src_start {x : List Int} (hw : Wf (.sl (.int .u8)) x) : SrcOk 0 (x, 0, 0, ()) := by
  refine ⟨fun b hb => ?_, Int.le_refl _, Int.le_refl _⟩
  have := hw.2 b hb
  exact (u8_iff b).1 this
theorem wrap_small {n : Int} (h1 : -9223372036854775808 ≤ n) (h2 : n ≤ 9223372036854775807) : IntKind.wrap .i64 n = n := wrap_of_inR ((i64_iff n).2 ⟨h1, h2⟩)
theorem src_u64 (n : Int) : InR .u64 n ↔ 0 ≤ n ∧ n ≤ 18446744073709551615 := by
  have e1 : (IntKind.u64).min = 0 := by decide
  have e2 : (IntKind.u64).max = 18446744073709551615 := by decide
  simp only [InR, e1, e2]
theorem seed_in (z : Int) : InR .u64 (Int.fdiv (IntKind.wrap .u64 z) 1099511627776) := by
  have h := (src_u64 _).1 (wrap_inR .u64 z)
  rw [src_u64, Int.fdiv_eq_ediv_of_nonneg _ (by decide)]
  omega
theorem low_byte (z : Int) : 0 ≤ IntKind.wrap .i64 (IntKind.wrap .u64 ((BitVec.toNat (BitVec.ofInt 64 z &&& BitVec.ofInt 64 255) : Nat) : Int)) ∧ IntKind.wrap .i64 (IntKind.wrap .u64 ((BitVec.toNat (BitVec.ofInt 64 z &&& BitVec.ofInt 64 255) : Nat) : Int)) ≤ 255 := by
  have h : BitVec.toNat (BitVec.ofInt 64 z &&& BitVec.ofInt 64 255) ≤ 255 := by
    rw [BitVec.toNat_and]
    exact Nat.le_trans Nat.and_le_right (by decide)
  have e : IntKind.wrap .u64 ((BitVec.toNat (BitVec.ofInt 64 z &&& BitVec.ofInt 64 255) : Nat) : Int) = ((BitVec.toNat (BitVec.ofInt 64 z &&& BitVec.ofInt 64 255) : Nat) : Int) := wrap_of_inR ((src_u64 _).2 (by omega))
  rw [e, wrap_small (by omega) (by omega)]
  omega
theorem next_ok {n : Int} {s : List Int × Int × Int × Unit} (h : SrcOk n s) (hn : n ≤ 4611686018427387904) :
    P75 s ∧ SrcOk (n + 1) (u75_0 s) ∧ 0 ≤ g75_0 s ∧ g75_0 s ≤ 255 := by
  obtain ⟨h1, h2, h3⟩ := h
  have e : IntKind.wrap .i64 (s.2.1 + 1) = s.2.1 + 1 := wrap_small (by omega) (by omega)
  unfold P75 u75_0 g75_0 SrcOk
  by_cases hc : s.2.1 < (s.1.length : Int)
  · have hb := h1 _ (mem_getD s.1 s.2.1.toNat 0 (by omega))
    have eb : IntKind.wrap .i64 (s.1.getD s.2.1.toNat 0) = s.1.getD s.2.1.toNat 0 := wrap_small (by omega) (by omega)
    by_cases hd : s.2.1 + 1 ≤ (s.1.length : Int)
    · simp only [hc, e, hd, decide_true, if_true, eb]
      exact ⟨⟨h2, trivial, trivial⟩, ⟨h1, by omega, by omega⟩, hb⟩
    · omega
  · by_cases hd : s.2.1 + 1 ≤ (s.1.length : Int)
    · omega
    · simp only [hc, e, hd, decide_false, Bool.false_eq_true, if_false]
      exact ⟨⟨seed_in _, trivial⟩, ⟨h1, by omega, by omega⟩, low_byte _⟩
theorem tmod_in {x m : Int} (hx : 0 ≤ x) (hx2 : x ≤ 65535) (hm : 1 ≤ m) : InR .i64 (Int.tmod x m) ∧ 0 ≤ Int.tmod x m ∧ Int.tmod x m < m := by
  rw [Int.tmod_eq_emod_of_nonneg hx, i64_iff]
  have h1 := Int.emod_nonneg x (show m ≠ 0 by omega)
  have h2 := Int.emod_lt_of_pos x (show 0 < m by omega)
  have h3 : x % m ≤ x := by
    rcases Int.lt_or_le x m with h | h
    · rw [Int.emod_eq_of_lt hx h]; exact Int.le_refl _
    · omega
  exact ⟨⟨by omega, by omega⟩, h1, h2⟩
theorem pick_ok {n : Int} {s : List Int × Int × Int × Unit} (h : SrcOk n s) (m : Int) (hn : n ≤ 4611686018427387902) :
    P45 s m ∧ SrcOk (n + 2) (u45_0 s m) ∧ 0 ≤ g45_0 s m ∧ (1 ≤ m → g45_0 s m < m) ∧ (m ≤ 1 → g45_0 s m = 0) := by
  obtain ⟨p1, s1, a1, b1⟩ := next_ok h (by omega)
  obtain ⟨p2, s2, a2, b2⟩ := next_ok s1 (by omega)
  unfold P45 u45_0 g45_0
  by_cases hm : m ≤ 1
  · simp only [hm, decide_true, if_true]
    exact ⟨trivial, h.up (by omega), by omega, fun _ => by omega, by first | trivial | exact fun _ => rfl⟩
  · by_cases hb : m > 200
    · simp only [hm, hb, decide_true, decide_false, Bool.false_eq_true, if_true, if_false]
      obtain ⟨t1, t2, t3⟩ := tmod_in (x := g75_0 s * 256 + g75_0 (u75_0 s)) (m := m) (by omega) (by omega) (by omega)
      exact ⟨⟨p1, by rw [i64_iff]; omega, p2, by rw [i64_iff]; omega, by omega, t1, trivial⟩, s2.up (by omega), t2, fun _ => t3, by first | trivial | exact fun h => absurd h (by simp)⟩
    · simp only [hm, hb, decide_true, decide_false, Bool.false_eq_true, if_true, if_false]
      obtain ⟨t1, t2, t3⟩ := tmod_in (x := g75_0 s) (m := m) a1 (by omega) (by omega)
      exact ⟨⟨p1, by omega, t1, trivial⟩, s1.up (by omega), t2, fun _ => t3, by first | trivial | exact fun h => absurd h (by simp)⟩
noncomputable section
def ext79 : Ext := [(45, S45), (75, S75)]
theorem ext79Ok : ExtOk Tryz.prog ext79 := ⟨⟨ca45, con45⟩, ⟨ca75, con75⟩, trivial⟩
noncomputable def b79 : Code := bodyOf Tryz.f79
theorem hb79 : Tryz.f79.body = some b79 := by kernel_rfl
def sig79 : List AT := [AT.pb YA2, AT.v (Ty.int .i64)]
def tys79 : List Ty := [Ty.str]
def kds79 : List RK := []
def oks79 : List AT := owns sig79
def E79_3 (v6 : Int) (h0 : List Int × Int × Int × Unit) (h1 : List Int) : Env := [(0, PV.a (Atom.optr 0 0 [])), (5, PV.a (Atom.osl 1 Option.none)), (6, PV.a (Atom.val (Value.int .i64 v6)))]
def L79_3 (v6 : Int) (h0 : List Int × Int × Int × Unit) (h1 : List Int) : Heap := [Option.some (Arr.mk YA2 [h0] true Option.none (Option.some true)), Option.some (Arr.mk (Ty.int .u8) h1 false Option.none Option.none)]
mutual
def R79 : Nat → List Int × Int × Int × Unit → Int → List Dyn → List (Option Lst) → Prop
  | 0, _, _, _, _ => False
  | n + 1, x0, x1, ds, us => ((P45 x0 x1) ∧ (R79_3 n (g45_0 x0 x1) (u45_0 x0 x1) ([]) ds us))
def R79_3 : Nat → Int → List Int × Int × Int × Unit → List Int → List Dyn → List (Option Lst) → Prop
  | 0, _, _, _, _, _ => False
  | n + 1, v6, h0, h1, ds, us => (if (decide (v6 > 0)) = true then ((P75 h0) ∧ ((InR .u8 (g75_0 h0)) ∧ (((List.length h1 + 1) * 1 ≤ 140737488355328) ∧ ((InR .i64 (v6 - 1)) ∧ (R79_3 n (v6 - 1) (u75_0 h0) (h1 ++ [g75_0 h0]) ds us))))) else (ds = [Dyn.mk Ty.str (bytesStr h1)] ∧ us = [Option.some (Lst.mk YA2 [h0])]))
end
theorem snd79 : ∀ n, (∀ (x0 : List Int × Int × Int × Unit) (x1 : Int) ds us, R79 n x0 x1 ds us → ∀ K q, AtV Tryz.prog 79 (PostR kds79 oks79 ds us [0] q K) 23 K q [0] [.code b79] (entE 0 0 sig79 (x0, x1, ())) (entL sig79 (x0, x1, ()))) ∧ (∀ (v6 : Int) (h0 : List Int × Int × Int × Unit) (h1 : List Int) ds us, R79_3 n v6 h0 h1 ds us → ∀ K q, AtV Tryz.prog 79 (PostR kds79 oks79 ds us [0] q K) 23 K q [0] (cutAt b79 3) (E79_3 v6 h0 h1) (L79_3 v6 h0 h1)) := by
  intro n
  induction n with
  | zero => exact ⟨fun _ _ _ _ h => by simp only [R79] at h, fun _ _ _ _ _ h => by simp only [R79_3] at h⟩
  | succ n ih =>
  obtain ⟨ih, ih3⟩ := ih
  refine ⟨?_, ?_⟩
  · intro x0 x1 ds us h K q
    rw [R79] at h
    obtain ⟨s0, h⟩ := h
    exact AtV.go tabOk ext79Ok mixed false [] [] [0, 5, 6] [0, 1] [] (a1 s0 trivial) (ih3 _ _ _ _ _ h K q) (by kernel_rfl)
  · intro v6 h0 h1 ds us h K q
    rw [R79_3] at h
    by_cases b0 : (decide (v6 > 0)) = true
    · rw [if_pos b0] at h
      obtain ⟨s0, h⟩ := h
      obtain ⟨s1, h⟩ := h
      obtain ⟨s2, h⟩ := h
      obtain ⟨s3, h⟩ := h
      exact AtV.go tabOk ext79Ok mixed false [] [] [0, 5, 6] [0, 1] [true] (a1 b0 (a1 s0 (a1 s1 (a1 s2 (a1 s3 trivial))))) (ih3 _ _ _ _ _ h K q) (by kernel_rfl)
    · rw [if_neg b0] at h
      replace b0 := Bool.eq_false_iff.2 b0
      obtain ⟨h, h'⟩ := h; subst h; subst h'
      exact AtV.ret Tryz.func79 tabOk ext79Ok mixed false [] tys79 [false] (a1 b0 trivial) (by kernel_rfl)
def wd79 : Nat → (List Int × Int × Int × Unit) → (List Int × Int × Int × Unit) × List Int
  | 0, s => (s, [])
  | k + 1, s => ((wd79 k (u75_0 s)).1, g75_0 s :: (wd79 k (u75_0 s)).2)
theorem wl79 : ∀ (k : Nat) (s : (List Int × Int × Int × Unit)), (wd79 k s).2.length = k
  | 0, s => rfl
  | k + 1, s => by simp only [wd79, List.length_cons, wl79 k]
theorem ws79 : ∀ (k : Nat) (s : (List Int × Int × Int × Unit)) (m : Int), SrcOk m s → m + k ≤ 4000000000 → SrcOk (m + k) (wd79 k s).1
  | 0, s, m, h, _ => by simpa [wd79] using h
  | k + 1, s, m, h, hm => by
    obtain ⟨_, s1, _, _⟩ := next_ok h (by omega)
    have := ws79 k _ _ s1 (by omega)
    simp only [wd79]
    exact this.up (by omega)
theorem run79 : ∀ (k : Nat) (v : Int) (s : (List Int × Int × Int × Unit)) (h : List Int) (m : Int), v = (k : Int) → SrcOk m s → m + k ≤ 4000000000 → h.length + k ≤ 1000000 → R79_3 (k + 1) v s h [⟨.str, bytesStr (h ++ (wd79 k s).2)⟩] [some ⟨(.cons (.sl (.int .u8)) (.cons (.int .i64) (.cons (.int .u64) .unit))), [(wd79 k s).1]⟩] := by
  intro k
  induction k with
  | zero =>
    intro v s h m hv hs hm hl
    rw [R79_3, if_neg (by simp only [decide_eq_true_eq]; omega)]
    simp only [wd79, List.append_nil, and_self]
  | succ k ih =>
    intro v s h m hv hs hm hl
    obtain ⟨p1, s1, a1, b1⟩ := next_ok hs (by omega)
    rw [R79_3, if_pos (by simp only [decide_eq_true_eq]; omega)]
    refine ⟨p1, (u8_iff _).2 ⟨a1, b1⟩, by omega, by rw [i64_iff]; omega, ?_⟩
    have := ih (v - 1) _ (h ++ [g75_0 s]) (m + 1) (by omega) s1 (by omega) (by rw [List.length_append, List.length_singleton]; omega)
    simpa only [wd79, List.append_assoc, List.singleton_append] using this
def P79 (x0 : (List Int × Int × Int × Unit)) (x1 : Int) : Prop := SrcOk 1000000000 x0 ∧ x1 ≤ 1000
def g79_0 (x0 : (List Int × Int × Int × Unit)) (x1 : Int) : ByteArray := bytesStr (wd79 (g45_0 x0 x1).toNat (u45_0 x0 x1)).2
def u79_0 (x0 : (List Int × Int × Int × Unit)) (x1 : Int) : (List Int × Int × Int × Unit) := (wd79 (g45_0 x0 x1).toNat (u45_0 x0 x1)).1
theorem word_ok {n : Int} {s : (List Int × Int × Int × Unit)} (h : SrcOk n s) (m : Int) (hn : n ≤ 1000000000) (hm : m ≤ 1000) :
    P79 s m ∧ SrcOk (n + 1002) (u79_0 s m) ∧ (g79_0 s m).size ≤ 1000 := by
  obtain ⟨_, s1, a, b, c⟩ := pick_ok h m (by omega)
  have hk : (g45_0 s m).toNat ≤ 1000 := by
    by_cases h1 : 1 ≤ m
    · have := b h1; omega
    · have := c (by omega); omega
  refine ⟨⟨h.up hn, hm⟩, (ws79 _ _ _ s1 (by omega)).up (by omega), ?_⟩
  unfold g79_0
  rw [bytesStr_size, wl79]
  exact hk
theorem top79 (x0 : (List Int × Int × Int × Unit)) (x1 : Int) (h : P79 x0 x1) : R79 ((g45_0 x0 x1).toNat + 1 + 1) x0 x1 [⟨.str, g79_0 x0 x1⟩] [some ⟨(.cons (.sl (.int .u8)) (.cons (.int .i64) (.cons (.int .u64) .unit))), [u79_0 x0 x1]⟩] := by
  obtain ⟨hs, hm⟩ := h
  obtain ⟨p1, s1, a, b, c⟩ := pick_ok hs x1 (by omega)
  have hk : (g45_0 x0 x1).toNat ≤ 1000 := by
    by_cases h1 : 1 ≤ x1
    · have := b h1; omega
    · have := c (by omega); omega
  unfold g79_0 u79_0
  rw [R79]
  refine ⟨p1, ?_⟩
  have := run79 (g45_0 x0 x1).toNat (g45_0 x0 x1) _ [] _ (by omega) s1 (by omega) (by simp only [List.length_nil]; omega)
  simpa only [List.nil_append] using this
def S79 : Am.Spec := { sig := sig79, pre := fun ⟨x0, x1, _⟩ => P79 x0 x1, upd := fun ⟨x0, x1, _⟩ => [some ⟨(.cons (.sl (.int .u8)) (.cons (.int .i64) (.cons (.int .u64) .unit))), [u79_0 x0 x1]⟩], res := fun ⟨x0, x1, _⟩ => [⟨.str, g79_0 x0 x1⟩], kds := kds79 }
theorem con79 : Contract Tryz.prog 79 S79 := contract_of Tryz.func79 hb79 (Nat.le_of_ble_eq_true (by kernel_rfl)) (fun ⟨x0, x1, _⟩ h hwf K q =>
  (snd79 _).1 x0 x1 _ _ (top79 x0 x1 h) K q)
end
noncomputable section
def ext100 : Ext := [(45, S45)]
theorem ext100Ok : ExtOk Tryz.prog ext100 := ⟨⟨ca45, con45⟩, trivial⟩
noncomputable def b100 : Code := bodyOf Tryz.f100
theorem hb100 : Tryz.f100.body = some b100 := by kernel_rfl
def sig100 : List AT := [AT.pb YA2, AT.v (Ty.sl (Ty.int .i64))]
def tys100 : List Ty := [Ty.int .i64]
def kds100 : List RK := []
def oks100 : List AT := owns sig100
def P100 (x0 : List Int × Int × Int × Unit) (x1 : List Int) : Prop := ((P45 x0 (↑(List.length x1) : Int)) ∧ ((0 ≤ g45_0 x0 (↑(List.length x1) : Int)) ∧ (g45_0 x0 (↑(List.length x1) : Int) < (↑(List.length x1) : Int)) ∧ True))
def g100_0 (x0 : List Int × Int × Int × Unit) (x1 : List Int) : Int := List.getD x1 (Int.toNat (g45_0 x0 (↑(List.length x1) : Int))) 0
def u100_0 (x0 : List Int × Int × Int × Unit) (x1 : List Int) : List Int × Int × Int × Unit := u45_0 x0 (↑(List.length x1) : Int)
theorem at100 (x0 : List Int × Int × Int × Unit) (x1 : List Int) (h : P100 x0 x1) (K : Ctx) (q : Nat → Value) : AtV Tryz.prog 100 (PostR kds100 oks100 [⟨Ty.int .i64, g100_0 x0 x1⟩] [some ⟨Ty.cons (Ty.sl (Ty.int .u8)) YA4, [u100_0 x0 x1]⟩] [0] q K) 12 K q [0] [.code b100] (entE 0 0 sig100 (x0, x1, ())) (entL sig100 (x0, x1, ())) := by
  unfold P100 at h
  unfold g100_0 u100_0
  obtain ⟨s0, h⟩ := h
  obtain ⟨s1, s2, h⟩ := h
  exact AtV.weak (AtV.ret (us := [Option.some (Lst.mk YA2 [u45_0 x0 (↑(List.length x1) : Int)])]) Tryz.func100 tabOk ext100Ok mixed false [] tys100 [] (a1 s0 (a1 s1 (a1 s2 trivial))) (by kernel_rfl)) ⟨.inl rfl, trivial⟩
def S100 : Am.Spec := { sig := sig100, pre := fun ⟨x0, x1, _⟩ => P100 x0 x1, upd := fun ⟨x0, x1, _⟩ => [some ⟨Ty.cons (Ty.sl (Ty.int .u8)) YA4, [u100_0 x0 x1]⟩], res := fun ⟨x0, x1, _⟩ => [⟨Ty.int .i64, g100_0 x0 x1⟩], kds := kds100 }
theorem con100 : Contract Tryz.prog 100 S100 := contract_of Tryz.func100 hb100 (Nat.le_of_ble_eq_true (by kernel_rfl)) (fun ⟨x0, x1, _⟩ h _ K q => at100 x0 x1 h K q)
end
noncomputable section
def ext66 : Ext := [(100, S100), (45, S45)]
theorem ext66Ok : ExtOk Tryz.prog ext66 := ⟨⟨ca100, con100⟩, ⟨ca45, con45⟩, trivial⟩
noncomputable def b66 : Code := bodyOf Tryz.f66
theorem hb66 : Tryz.f66.body = some b66 := by kernel_rfl
def sig66 : List AT := [AT.pb YA2, AT.v (Ty.str)]
def tys66 : List Ty := [Ty.cons Ty.str YA1]
def kds66 : List RK := []
def oks66 : List AT := owns sig66
def P66 (x0 : List Int × Int × Int × Unit) (x1 : ByteArray) : Prop := ((P100 x0 [1, 7, 30, 365]) ∧ ((P45 (u100_0 x0 [1, 7, 30, 365]) 60) ∧ ((P45 (u45_0 (u100_0 x0 [1, 7, 30, 365]) 60) 60) ∧ ((InR .i64 (1 + g45_0 (u45_0 (u100_0 x0 [1, 7, 30, 365]) 60) 60)) ∧ ((InR .i64 (50 * (1 + g45_0 (u45_0 (u100_0 x0 [1, 7, 30, 365]) 60) 60))) ∧ ((P45 (u45_0 (u45_0 (u100_0 x0 [1, 7, 30, 365]) 60) 60) 3000) ∧ True))))))
def g66_0 (x0 : List Int × Int × Int × Unit) (x1 : ByteArray) : ByteArray × Int × Int × Int × Int × Unit := (x1, g100_0 x0 [1, 7, 30, 365], 50 * (1 + g45_0 (u45_0 (u100_0 x0 [1, 7, 30, 365]) 60) 60), g45_0 (u100_0 x0 [1, 7, 30, 365]) 60, g45_0 (u45_0 (u45_0 (u100_0 x0 [1, 7, 30, 365]) 60) 60) 3000, ())
def u66_0 (x0 : List Int × Int × Int × Unit) (x1 : ByteArray) : List Int × Int × Int × Unit := u45_0 (u45_0 (u45_0 (u100_0 x0 [1, 7, 30, 365]) 60) 60) 3000
theorem at66 (x0 : List Int × Int × Int × Unit) (x1 : ByteArray) (h : P66 x0 x1) (K : Ctx) (q : Nat → Value) : AtV Tryz.prog 66 (PostR kds66 oks66 [⟨Ty.cons Ty.str YA1, g66_0 x0 x1⟩] [some ⟨Ty.cons (Ty.sl (Ty.int .u8)) YA4, [u66_0 x0 x1]⟩] [0] q K) 22 K q [0] [.code b66] (entE 0 0 sig66 (x0, x1, ())) (entL sig66 (x0, x1, ())) := by
  unfold P66 at h
  unfold g66_0 u66_0
  obtain ⟨s0, h⟩ := h
  obtain ⟨s1, h⟩ := h
  obtain ⟨s2, h⟩ := h
  obtain ⟨s3, h⟩ := h
  obtain ⟨s4, h⟩ := h
  obtain ⟨s5, h⟩ := h
  exact AtV.weak (AtV.ret (us := [Option.some (Lst.mk YA2 [u45_0 (u45_0 (u45_0 (u100_0 x0 [1, 7, 30, 365]) 60) 60) 3000])]) Tryz.func66 tabOk ext66Ok mixed false [] tys66 [] (a1 s0 (a1 s1 (a1 s2 (a1 s3 (a1 s4 (a1 s5 trivial)))))) (by kernel_rfl)) ⟨.inl rfl, trivial⟩
def S66 : Am.Spec := { sig := sig66, pre := fun ⟨x0, x1, _⟩ => P66 x0 x1, upd := fun ⟨x0, x1, _⟩ => [some ⟨Ty.cons (Ty.sl (Ty.int .u8)) YA4, [u66_0 x0 x1]⟩], res := fun ⟨x0, x1, _⟩ => [⟨Ty.cons Ty.str YA1, g66_0 x0 x1⟩], kds := kds66 }
theorem con66 : Contract Tryz.prog 66 S66 := contract_of Tryz.func66 hb66 (Nat.le_of_ble_eq_true (by kernel_rfl)) (fun ⟨x0, x1, _⟩ h _ K q => at66 x0 x1 h K q)
end
noncomputable section
def ext64 : Ext := []
theorem ext64Ok : ExtOk Tryz.prog ext64 := trivial
noncomputable def b64 : Code := bodyOf Tryz.f64
theorem hb64 : Tryz.f64.body = some b64 := by kernel_rfl
def sig64 : List AT := [AT.v (Ty.int .i64)]
def tys64 : List Ty := [Ty.str]
def kds64 : List RK := []
def oks64 : List AT := owns sig64
def E64_5 (v4 : Int) (h0 : List Int) (x0 : Int) : Env := [(0, PV.a (Atom.val (Value.int .i64 x0))), (3, PV.a (Atom.osl 0 Option.none)), (4, PV.a (Atom.val (Value.int .i64 v4)))]
def L64_5 (v4 : Int) (h0 : List Int) (x0 : Int) : Heap := [Option.some (Arr.mk (Ty.int .u8) h0 false Option.none Option.none)]
def E64_15 (v7 : Int) (h0 : List Int) (h1 : List Int) : Env := [(3, PV.a (Atom.osl 0 Option.none)), (6, PV.a (Atom.osl 1 Option.none)), (7, PV.a (Atom.val (Value.int .i64 v7)))]
def L64_15 (v7 : Int) (h0 : List Int) (h1 : List Int) : Heap := [Option.some (Arr.mk (Ty.int .u8) h0 false Option.none Option.none), Option.some (Arr.mk (Ty.int .u8) h1 false Option.none Option.none)]
mutual
def R64 : Nat → Int → List Dyn → Prop
  | 0, _, _ => False
  | n + 1, x0, ds => (if (x0 == 0) = true then (ds = [Dyn.mk Ty.str (ByteArray.mk #[48])]) else (R64_5 n (x0) ([]) (x0) ds))
def R64_5 : Nat → Int → List Int → Int → List Dyn → Prop
  | 0, _, _, _, _ => False
  | n + 1, v4, h0, x0, ds => (if (v4 != 0) = true then ((InR .i64 (Int.tmod v4 10)) ∧ (if (decide (Int.tmod v4 10 < 0)) = true then ((InR .i64 (0 - Int.tmod v4 10)) ∧ ((InR .i64 (48 + (0 - Int.tmod v4 10))) ∧ ((InR .u8 (48 + (0 - Int.tmod v4 10))) ∧ (((List.length h0 + 1) * 1 ≤ 140737488355328) ∧ ((InR .i64 (Int.tdiv v4 10)) ∧ (R64_5 n (Int.tdiv v4 10) (h0 ++ [48 + (0 - Int.tmod v4 10)]) (x0) ds)))))) else ((InR .i64 (48 + Int.tmod v4 10)) ∧ ((InR .u8 (48 + Int.tmod v4 10)) ∧ (((List.length h0 + 1) * 1 ≤ 140737488355328) ∧ ((InR .i64 (Int.tdiv v4 10)) ∧ (R64_5 n (Int.tdiv v4 10) (h0 ++ [48 + Int.tmod v4 10]) (x0) ds))))))) else (if (decide (x0 < 0)) = true then (((List.length h0 + 1) * 1 ≤ 140737488355328) ∧ ((InR .i64 ((↑(List.length (h0 ++ [45])) : Int) - 1)) ∧ (R64_15 n ((↑(List.length (h0 ++ [45])) : Int) - 1) (h0 ++ [45]) ([]) ds))) else ((InR .i64 ((↑(List.length h0) : Int) - 1)) ∧ (R64_15 n ((↑(List.length h0) : Int) - 1) (h0) ([]) ds))))
def R64_15 : Nat → Int → List Int → List Int → List Dyn → Prop
  | 0, _, _, _, _ => False
  | n + 1, v7, h0, h1, ds => (if (decide (v7 ≥ 0)) = true then ((0 ≤ v7) ∧ (v7 < (↑(List.length h0) : Int)) ∧ (((List.length h1 + 1) * 1 ≤ 140737488355328) ∧ ((InR .i64 (v7 - 1)) ∧ (R64_15 n (v7 - 1) (h0) (h1 ++ [List.getD h0 (Int.toNat v7) 0]) ds)))) else (ds = [Dyn.mk Ty.str (bytesStr h1)]))
end
theorem snd64 : ∀ n, (∀ (x0 : Int) ds, R64 n x0 ds → ∀ K q, AtV Tryz.prog 64 (PostR kds64 oks64 ds [] [] q K) 50 K q [] [.code b64] (entE 0 0 sig64 (x0, ())) (entL sig64 (x0, ()))) ∧ (∀ (v4 : Int) (h0 : List Int) (x0 : Int) ds, R64_5 n v4 h0 x0 ds → ∀ K q, AtV Tryz.prog 64 (PostR kds64 oks64 ds [] [] q K) 50 K q [] (cutAt b64 5) (E64_5 v4 h0 x0) (L64_5 v4 h0 x0)) ∧ (∀ (v7 : Int) (h0 : List Int) (h1 : List Int) ds, R64_15 n v7 h0 h1 ds → ∀ K q, AtV Tryz.prog 64 (PostR kds64 oks64 ds [] [] q K) 50 K q [] (cutAt b64 15) (E64_15 v7 h0 h1) (L64_15 v7 h0 h1)) := by
  intro n
  induction n with
  | zero => exact ⟨fun _ _ h => by simp only [R64] at h, fun _ _ _ _ h => by simp only [R64_5] at h, fun _ _ _ _ h => by simp only [R64_15] at h⟩
  | succ n ih =>
  obtain ⟨ih, ih5, ih15⟩ := ih
  refine ⟨?_, ?_, ?_⟩
  · intro x0 ds h K q
    rw [R64] at h
    by_cases b0 : (x0 == 0) = true
    · rw [if_pos b0] at h
      subst h
      exact AtV.ret Tryz.func64 tabOk ext64Ok mixed false [] tys64 [true] (a1 b0 trivial) (by kernel_rfl)
    · rw [if_neg b0] at h
      replace b0 := Bool.eq_false_iff.2 b0
      exact AtV.go tabOk ext64Ok mixed false [] [] [0, 3, 4] [0] [false] (a1 b0 trivial) (ih5 _ _ _ _ h K q) (by kernel_rfl)
  · intro v4 h0 x0 ds h K q
    rw [R64_5] at h
    by_cases b0 : (v4 != 0) = true
    · rw [if_pos b0] at h
      obtain ⟨s0, h⟩ := h
      by_cases b1 : (decide (Int.tmod v4 10 < 0)) = true
      · rw [if_pos b1] at h
        obtain ⟨s1, h⟩ := h
        obtain ⟨s2, h⟩ := h
        obtain ⟨s3, h⟩ := h
        obtain ⟨s4, h⟩ := h
        obtain ⟨s5, h⟩ := h
        exact AtV.go tabOk ext64Ok mixed false [] [] [0, 3, 4] [0] [true, true] (a1 b0 (a1 ((by decide) : (10 : Int) ≠ (0 : Int)) (a1 s0 (a1 b1 (a1 s1 (a1 s2 (a1 s3 (a1 s4 (a1 ((by decide) : (10 : Int) ≠ (0 : Int)) (a1 s5 trivial)))))))))) (ih5 _ _ _ _ h K q) (by kernel_rfl)
      · rw [if_neg b1] at h
        replace b1 := Bool.eq_false_iff.2 b1
        obtain ⟨s1, h⟩ := h
        obtain ⟨s2, h⟩ := h
        obtain ⟨s3, h⟩ := h
        obtain ⟨s4, h⟩ := h
        exact AtV.go tabOk ext64Ok mixed false [] [] [0, 3, 4] [0] [true, false] (a1 b0 (a1 ((by decide) : (10 : Int) ≠ (0 : Int)) (a1 s0 (a1 b1 (a1 s1 (a1 s2 (a1 s3 (a1 ((by decide) : (10 : Int) ≠ (0 : Int)) (a1 s4 trivial))))))))) (ih5 _ _ _ _ h K q) (by kernel_rfl)
    · rw [if_neg b0] at h
      replace b0 := Bool.eq_false_iff.2 b0
      by_cases b1 : (decide (x0 < 0)) = true
      · rw [if_pos b1] at h
        obtain ⟨s0, h⟩ := h
        obtain ⟨s1, h⟩ := h
        exact AtV.go tabOk ext64Ok mixed false [] [] [3, 6, 7] [0, 2] [false, true] (a1 b0 (a1 b1 (a1 s0 (a1 s1 trivial)))) (ih15 _ _ _ _ h K q) (by kernel_rfl)
      · rw [if_neg b1] at h
        replace b1 := Bool.eq_false_iff.2 b1
        obtain ⟨s0, h⟩ := h
        exact AtV.go tabOk ext64Ok mixed false [] [] [3, 6, 7] [0, 1] [false, false] (a1 b0 (a1 b1 (a1 s0 trivial))) (ih15 _ _ _ _ h K q) (by kernel_rfl)
  · intro v7 h0 h1 ds h K q
    rw [R64_15] at h
    by_cases b0 : (decide (v7 ≥ 0)) = true
    · rw [if_pos b0] at h
      obtain ⟨s0, s1, h⟩ := h
      obtain ⟨s2, h⟩ := h
      obtain ⟨s3, h⟩ := h
      exact AtV.go tabOk ext64Ok mixed false [] [] [3, 6, 7] [0, 1] [true] (a1 b0 (a1 s0 (a1 s1 (a1 s2 (a1 s3 trivial))))) (ih15 _ _ _ _ h K q) (by kernel_rfl)
    · rw [if_neg b0] at h
      replace b0 := Bool.eq_false_iff.2 b0
      subst h
      exact AtV.ret Tryz.func64 tabOk ext64Ok mixed false [] tys64 [false] (a1 b0 trivial) (by kernel_rfl)
def g64_0 (x0 : Int) : ByteArray := numB x0
def P64 (x0 : Int) : Prop := True
theorem bstr64 (xs : List Int) : bytesStr xs = ⟨⟨xs.map fun n => UInt8.ofNat n.toNat⟩⟩ := by
  have key : ∀ (xs : List Int) (s : ByteArray), (xs.foldl (fun r n => r.push (UInt8.ofNat n.toNat)) s).data.toList = s.data.toList ++ xs.map fun n => UInt8.ofNat n.toNat := by
    intro xs
    induction xs with
    | nil => intro s; simp
    | cons a r ih =>
      intro s
      rw [List.foldl_cons, ih]
      show (s.data.push _).toList ++ _ = _
      rw [Array.toList_push]
      simp
  apply ByteArray.ext
  apply Array.ext'
  have := key xs ByteArray.empty
  unfold bytesStr
  rw [this]
  rfl
theorem bstrB64 (l : List UInt8) : bytesStr (l.map fun b => (b.toNat : Int)) = ⟨⟨l⟩⟩ := by
  rw [bstr64, List.map_map]
  congr 2
  conv => rhs; rw [← List.map_id l]
  refine List.map_congr_left fun b _ => ?_
  show UInt8.ofNat ((b.toNat : Int)).toNat = b
  rw [Int.toNat_natCast, UInt8.ofNat_toNat]
def rd64 (m : Nat) : List Int := if h : m = 0 then [] else ((48 + m % 10 : Nat) : Int) :: rd64 (m / 10)
termination_by m
decreasing_by omega
theorem rd064 : rd64 0 = [] := by rw [rd64, dif_pos rfl]
theorem rds64 {m : Nat} (h : m ≠ 0) : rd64 m = ((48 + m % 10 : Nat) : Int) :: rd64 (m / 10) := by rw [rd64, dif_neg h]
theorem rdl64 : ∀ (k m : Nat), m < 10 ^ k → (rd64 m).length ≤ k
  | 0, m, h => by obtain rfl : m = 0 := by simpa using h
                  rw [rd064]; exact Nat.le_refl _
  | k + 1, m, h => by
    by_cases h0 : m = 0
    · rw [h0, rd064]; exact Nat.zero_le _
    · rw [rds64 h0, List.length_cons]
      have := rdl64 k (m / 10) (by rw [Nat.pow_succ] at h; omega)
      omega
theorem rdd64 (m : Nat) (h : m ≠ 0) : bytesStr (rd64 m).reverse = ⟨⟨Lib.decDigits m⟩⟩ := by
  have key : ∀ m : Nat, m ≠ 0 → (rd64 m).reverse = (Lib.decDigits m).map fun b => (b.toNat : Int) := by
    intro m
    induction m using Nat.strongRecOn with
    | _ m ih =>
      intro h
      rw [rds64 h, List.reverse_cons, Lib.decDigits]
      have e : (UInt8.ofNat (48 + m % 10)).toNat = 48 + m % 10 := by rw [UInt8.toNat_ofNat']; omega
      split
      · rename_i hs
        rw [show m / 10 = 0 by omega, rd064]
        have e' : (UInt8.ofNat (48 + m)).toNat = 48 + m % 10 := by rw [UInt8.toNat_ofNat']; omega
        rw [List.map_singleton, e']
        rfl
      · rw [ih (m / 10) (by omega) (by omega), List.map_append, List.map_singleton, e]
  rw [key m h]
  exact bstrB64 _
theorem back64 (h0 : List Int) : ∀ (j : Nat) (h1 : List Int), j ≤ h0.length → h1.length + j ≤ 64 → R64_15 (j + 1) ((j : Int) - 1) h0 h1 [⟨.str, bytesStr (h1 ++ (h0.take j).reverse)⟩]
  | 0, h1, _, _ => by
    rw [R64_15, if_neg (by decide)]
    simp
  | j + 1, h1, hj, hl => by
    have ih := back64 h0 j (h1 ++ [h0.getD j 0]) (by omega) (by rw [List.length_append, List.length_singleton]; omega)
    have e : ((j + 1 : Nat) : Int) - 1 = (j : Int) := by omega
    rw [R64_15, e, if_pos (by simp only [decide_eq_true_eq]; omega), Int.toNat_natCast]
    refine ⟨by omega, by omega, by omega, by rw [i64_iff]; omega, ?_⟩
    have et : (h0.take (j + 1)).reverse = h0.getD j 0 :: (h0.take j).reverse := by
      have hlt : j < h0.length := by omega
      rw [List.take_add_one, List.getElem?_eq_getElem hlt, List.reverse_append, List.getD_eq_getElem?_getD, List.getElem?_eq_getElem hlt]
      rfl
    rw [et]
    rw [List.append_assoc] at ih
    exact ih
theorem last64 (x0 : Int) (h0 : List Int) (hl : h0.length ≤ 20) : R64_5 ((if x0 < 0 then h0.length + 1 else h0.length) + 1 + 1) 0 h0 x0 [⟨.str, bytesStr ((if x0 < 0 then h0 ++ [45] else h0)).reverse⟩] := by
  rw [R64_5, if_neg (by decide)]
  by_cases hx : x0 < 0
  · have b := back64 (h0 ++ [45]) (h0.length + 1) [] (by rw [List.length_append, List.length_singleton]; omega) (by simp; omega)
    have e : (h0 ++ [(45 : Int)]).length = h0.length + 1 := by rw [List.length_append, List.length_singleton]
    rw [List.take_of_length_le (by omega)] at b
    simp only [hx, decide_true, if_true]
    rw [e]
    exact ⟨by omega, by rw [i64_iff]; omega, b⟩
  · have b := back64 h0 h0.length [] (Nat.le_refl _) (by simp; omega)
    rw [List.take_of_length_le (Nat.le_refl _)] at b
    simp only [hx, decide_false, Bool.false_eq_true, if_false]
    exact ⟨by rw [i64_iff]; omega, b⟩
theorem run64 (x0 : Int) (ds : List Dyn) (F : List Int) (K : Nat) (hF : R64_5 K 0 F x0 ds) : ∀ (m : Nat) (v : Int) (h0 : List Int), (v = (m : Int) ∨ v = -(m : Int)) → m ≤ 9223372036854775808 → InR .i64 v → h0.length + (rd64 m).length ≤ 20 → h0 ++ rd64 m = F → R64_5 ((rd64 m).length + K) v h0 x0 ds := by
  intro m
  induction m using Nat.strongRecOn with
  | _ m ih =>
    intro v h0 hv hm hi hl he
    by_cases h : m = 0
    · subst h
      obtain rfl : v = 0 := by omega
      rw [rd064] at he ⊢
      rw [List.append_nil] at he
      rw [he, List.length_nil, Nat.zero_add]
      exact hF
    · have hr := rds64 h
      rw [hr] at he hl ⊢
      rw [List.length_cons] at hl ⊢
      have hne : (v != 0) = true := by
        have : v ≠ 0 := by omega
        simpa using this
      rw [i64_iff] at hi
      have e1 : (rd64 (m / 10)).length + 1 + K = ((rd64 (m / 10)).length + K) + 1 := by omega
      have next : ∀ v', (v' = ((m / 10 : Nat) : Int) ∨ v' = -((m / 10 : Nat) : Int)) → R64_5 ((rd64 (m / 10)).length + K) v' (h0 ++ [((48 + m % 10 : Nat) : Int)]) x0 ds := fun v' hv' =>
        ih (m / 10) (by omega) v' _ hv' (by omega) (by rw [i64_iff]; omega) (by rw [List.length_append, List.length_singleton]; omega) (by rw [List.append_assoc]; exact he)
      rw [e1, R64_5, if_pos hne]
      rcases hv with rfl | rfl
      · have t1 : Int.tmod (m : Int) 10 = ((m % 10 : Nat) : Int) := rfl
        have t2 : Int.tdiv (m : Int) 10 = ((m / 10 : Nat) : Int) := rfl
        rw [t1, t2]
        refine ⟨by rw [i64_iff]; omega, ?_⟩
        rw [if_neg (by simp only [decide_eq_true_eq]; omega)]
        have e2 : 48 + ((m % 10 : Nat) : Int) = ((48 + m % 10 : Nat) : Int) := by omega
        rw [e2]
        exact ⟨by rw [i64_iff]; omega, by rw [u8_iff]; omega, by omega, by rw [i64_iff]; omega, next _ (.inl rfl)⟩
      · have t1 : Int.tmod (-(m : Int)) 10 = -((m % 10 : Nat) : Int) := by rw [Int.neg_tmod]; rfl
        have t2 : Int.tdiv (-(m : Int)) 10 = -((m / 10 : Nat) : Int) := by rw [Int.neg_tdiv]; rfl
        rw [t1, t2]
        refine ⟨by rw [i64_iff]; omega, ?_⟩
        by_cases hz : m % 10 = 0
        · rw [if_neg (by simp only [decide_eq_true_eq]; omega)]
          have e2 : 48 + -((m % 10 : Nat) : Int) = ((48 + m % 10 : Nat) : Int) := by omega
          rw [e2]
          exact ⟨by rw [i64_iff]; omega, by rw [u8_iff]; omega, by omega, by rw [i64_iff]; omega, next _ (.inr rfl)⟩
        · rw [if_pos (by simp only [decide_eq_true_eq]; omega)]
          have e2 : 48 + (0 - -((m % 10 : Nat) : Int)) = ((48 + m % 10 : Nat) : Int) := by omega
          rw [e2]
          exact ⟨by rw [i64_iff]; omega, by rw [i64_iff]; omega, by rw [u8_iff]; omega, by omega, by rw [i64_iff]; omega, next _ (.inr rfl)⟩
theorem top64 (x0 : Int) (hi : InR .i64 x0) : ∃ n, R64 n x0 [⟨.str, g64_0 x0⟩] := by
  unfold g64_0 numB Lib.itoa
  by_cases h : x0 = 0
  · subst h
    refine ⟨1, ?_⟩
    rw [R64, if_pos (by rfl), if_neg (by decide)]
    have e : Lib.decDigits (Int.toNat 0) = [48] := by rw [Lib.decDigits, dif_pos (by decide)]; rfl
    rw [e]
  · have hi' := hi
    rw [i64_iff] at hi'
    have hn : x0.natAbs ≠ 0 := by omega
    have hl := rdl64 19 x0.natAbs (by omega)
    refine ⟨(rd64 x0.natAbs).length + ((if x0 < 0 then (rd64 x0.natAbs).length + 1 else (rd64 x0.natAbs).length) + 1 + 1) + 1, ?_⟩
    rw [R64, if_neg (by simpa using h)]
    have hlast := last64 x0 (rd64 x0.natAbs) (by omega)
    have hrun := run64 x0 _ (rd64 x0.natAbs) _ hlast x0.natAbs x0 [] (by omega) (by omega) hi (by simp; omega) rfl
    have e : bytesStr (if x0 < 0 then rd64 x0.natAbs ++ [45] else rd64 x0.natAbs).reverse = ⟨(if x0 < 0 then 45 :: Lib.decDigits x0.natAbs else Lib.decDigits x0.toNat).toArray⟩ := by
      by_cases hx : x0 < 0
      · rw [if_pos hx, if_pos hx, List.reverse_append]
        show bytesStr ((45 : Int) :: (rd64 x0.natAbs).reverse) = _
        have := rdd64 x0.natAbs hn
        have e0 : bytesStr ((45 : Int) :: (rd64 x0.natAbs).reverse) = ⟨⟨45 :: (bytesStr (rd64 x0.natAbs).reverse).data.toList⟩⟩ := by rw [bstr64, bstr64]; rfl
        rw [e0, this]
      · rw [if_neg hx, if_neg hx, rdd64 x0.natAbs hn, show x0.natAbs = x0.toNat by omega]
    rw [e] at hrun
    exact hrun
def S64 : Am.Spec := { sig := sig64, pre := fun ⟨x0, _⟩ => P64 x0, res := fun ⟨x0, _⟩ => [⟨.str, g64_0 x0⟩] }
theorem con64 : Contract Tryz.prog 64 S64 := contract_of Tryz.func64 hb64 (Nat.le_of_ble_eq_true (by kernel_rfl)) (fun ⟨x0, _⟩ h hwf K q => by
  obtain ⟨n, hn⟩ := top64 x0 hwf.1
  exact (snd64 n).1 x0 _ hn K q)
end
noncomputable section
def ext74 : Ext := [(64, S64)]
theorem ext74Ok : ExtOk Tryz.prog ext74 := ⟨⟨ca64, con64⟩, trivial⟩
noncomputable def b74 : Code := bodyOf Tryz.f74
theorem hb74 : Tryz.f74.body = some b74 := by kernel_rfl
def sig74 : List AT := [AT.v (Ty.sl (Ty.int .i64))]
def tys74 : List Ty := [Ty.str]
def kds74 : List RK := []
def oks74 : List AT := owns sig74
def E74_5 (v3 : ByteArray) (v4 : Int) (x0 : List Int) : Env := [(0, PV.a (Atom.sl (Ty.int .i64) x0)), (3, PV.a (Atom.val (Value.string v3))), (4, PV.a (Atom.val (Value.int .i64 v4)))]
def L74_5 (v3 : ByteArray) (v4 : Int) (x0 : List Int) : Heap := []
mutual
def R74 : Nat → List Int → List Dyn → Prop
  | 0, _, _ => False
  | n + 1, x0, ds => (if ((↑(List.length x0) : Int) == 0) = true then (ds = [Dyn.mk Ty.str (ByteArray.mk #[45])]) else (R74_5 n (ByteArray.mk #[]) (0) (x0) ds))
def R74_5 : Nat → ByteArray → Int → List Int → List Dyn → Prop
  | 0, _, _, _, _ => False
  | n + 1, v3, v4, x0, ds => (if (decide (v4 < (↑(List.length x0) : Int))) = true then (if (decide (v4 > 0)) = true then ((ByteArray.size v3 + 1 ≤ 9223372036854775807) ∧ ((0 ≤ v4) ∧ (v4 < (↑(List.length x0) : Int)) ∧ ((ByteArray.size (v3 ++ ByteArray.mk #[44]) + ByteArray.size (g64_0 (List.getD x0 (Int.toNat v4) 0)) ≤ 9223372036854775807) ∧ ((InR .i64 (v4 + 1)) ∧ (R74_5 n (v3 ++ ByteArray.mk #[44] ++ g64_0 (List.getD x0 (Int.toNat v4) 0)) (v4 + 1) (x0) ds))))) else ((0 ≤ v4) ∧ (v4 < (↑(List.length x0) : Int)) ∧ ((ByteArray.size v3 + ByteArray.size (g64_0 (List.getD x0 (Int.toNat v4) 0)) ≤ 9223372036854775807) ∧ ((InR .i64 (v4 + 1)) ∧ (R74_5 n (v3 ++ g64_0 (List.getD x0 (Int.toNat v4) 0)) (v4 + 1) (x0) ds))))) else (ds = [Dyn.mk Ty.str v3]))
end
theorem snd74 : ∀ n, (∀ (x0 : List Int) ds, R74 n x0 ds → ∀ K q, AtV Tryz.prog 74 (PostR kds74 oks74 ds [] [] q K) 26 K q [] [.code b74] (entE 0 0 sig74 (x0, ())) (entL sig74 (x0, ()))) ∧ (∀ (v3 : ByteArray) (v4 : Int) (x0 : List Int) ds, R74_5 n v3 v4 x0 ds → ∀ K q, AtV Tryz.prog 74 (PostR kds74 oks74 ds [] [] q K) 26 K q [] (cutAt b74 5) (E74_5 v3 v4 x0) (L74_5 v3 v4 x0)) := by
  intro n
  induction n with
  | zero => exact ⟨fun _ _ h => by simp only [R74] at h, fun _ _ _ _ h => by simp only [R74_5] at h⟩
  | succ n ih =>
  obtain ⟨ih, ih5⟩ := ih
  refine ⟨?_, ?_⟩
  · intro x0 ds h K q
    rw [R74] at h
    by_cases b0 : ((↑(List.length x0) : Int) == 0) = true
    · rw [if_pos b0] at h
      subst h
      exact AtV.ret Tryz.func74 tabOk ext74Ok mixed false [] tys74 [true] (a1 b0 trivial) (by kernel_rfl)
    · rw [if_neg b0] at h
      replace b0 := Bool.eq_false_iff.2 b0
      exact AtV.go tabOk ext74Ok mixed false [] [] [0, 3, 4] [] [false] (a1 b0 trivial) (ih5 _ _ _ _ h K q) (by kernel_rfl)
  · intro v3 v4 x0 ds h K q
    rw [R74_5] at h
    by_cases b0 : (decide (v4 < (↑(List.length x0) : Int))) = true
    · rw [if_pos b0] at h
      by_cases b1 : (decide (v4 > 0)) = true
      · rw [if_pos b1] at h
        obtain ⟨s0, h⟩ := h
        obtain ⟨s1, s2, h⟩ := h
        obtain ⟨s3, h⟩ := h
        obtain ⟨s4, h⟩ := h
        exact AtV.go tabOk ext74Ok mixed false [] [] [0, 3, 4] [] [true, true] (a1 b0 (a1 b1 (a1 s0 (a1 s1 (a1 s2 (a1 trivial (a1 s3 (a1 s4 trivial)))))))) (ih5 _ _ _ _ h K q) (by kernel_rfl)
      · rw [if_neg b1] at h
        replace b1 := Bool.eq_false_iff.2 b1
        obtain ⟨s0, s1, h⟩ := h
        obtain ⟨s2, h⟩ := h
        obtain ⟨s3, h⟩ := h
        exact AtV.go tabOk ext74Ok mixed false [] [] [0, 3, 4] [] [true, false] (a1 b0 (a1 b1 (a1 s0 (a1 s1 (a1 trivial (a1 s2 (a1 s3 trivial))))))) (ih5 _ _ _ _ h K q) (by kernel_rfl)
    · rw [if_neg b0] at h
      replace b0 := Bool.eq_false_iff.2 b0
      subst h
      exact AtV.ret Tryz.func74 tabOk ext74Ok mixed false [] tys74 [false] (a1 b0 trivial) (by kernel_rfl)
def ap74 : Nat → ByteArray → List Int → ByteArray
  | _, o, [] => o
  | i, o, x :: r => ap74 (i + 1) ((if 0 < i then o ++ ByteArray.mk #[44] else o) ++ g64_0 x) r
def g74_0 (x0 : List Int) : ByteArray := if x0.length = 0 then ByteArray.mk #[45] else ap74 0 (ByteArray.mk #[]) x0
def P74 (x0 : List Int) : Prop := x0.length ≤ 1000 ∧ ∀ x ∈ x0, InR .i64 x
theorem run74 (x0 : List Int) (hm : x0.length ≤ 1000) (hx : ∀ x ∈ x0, InR .i64 x) : ∀ (k i : Nat) (o : ByteArray), i + k = x0.length → o.size ≤ 22 * i →
    R74_5 (k + 1) o (i : Int) x0 [⟨.str, ap74 i o (x0.drop i)⟩] := by
  intro k
  induction k with
  | zero =>
    intro i o hi ho
    rw [R74_5, if_neg (by simp; omega), drop_end x0 i (by omega)]
    rfl
  | succ k ih =>
    intro i o hi ho
    have hlt : i < x0.length := by omega
    have hr := hx (x0.getD i 0) (mem_getD x0 i 0 hlt)
    have hup : InR .i64 ((i : Int) + 1) := inR_up (xs := x0) (by unfold maxLen; omega) hlt
    rw [i64_iff] at hr
    have hs : (g64_0 (x0.getD i 0)).size ≤ 21 := numB_size _ (by omega) (by omega)
    rw [R74_5, if_pos (by simp; omega), drop_get x0 i 0 hlt]
    simp only [Int.toNat_natCast]
    unfold ap74
    have i44 : (ByteArray.mk #[44]).size = 1 := rfl
    by_cases h0 : 0 < i
    · rw [if_pos (by simp; omega), if_pos h0]
      have hs1 : (o ++ ByteArray.mk #[44]).size = o.size + 1 := by rw [ByteArray.size_append, i44]
      refine ⟨by omega, by omega, by omega, by rw [hs1]; omega, hup, ?_⟩
      exact ih (i + 1) _ (by omega) (by rw [ByteArray.size_append, hs1]; omega)
    · rw [if_neg (by simp; omega), if_neg h0]
      refine ⟨by omega, by omega, by omega, hup, ?_⟩
      exact ih (i + 1) _ (by omega) (by rw [ByteArray.size_append]; omega)
theorem top74 (x0 : List Int) (h : P74 x0) : R74 (x0.length + 1 + 1) x0 [⟨.str, g74_0 x0⟩] := by
  rw [R74]
  unfold g74_0
  by_cases h0 : x0.length = 0
  · rw [if_pos (by simp [h0]), if_pos h0]
  · rw [if_neg (by simp only [beq_iff_eq]; omega), if_neg h0]
    exact run74 x0 h.1 h.2 x0.length 0 (ByteArray.mk #[]) (by omega) (by decide)
def S74 : Am.Spec := { sig := sig74, pre := fun ⟨x0, _⟩ => P74 x0, res := fun ⟨x0, _⟩ => [⟨Ty.str, g74_0 x0⟩] }
theorem con74 : Contract Tryz.prog 74 S74 := contract_of Tryz.func74 hb74 (Nat.le_of_ble_eq_true (by kernel_rfl)) (fun ⟨x0, _⟩ h hwf K q =>
  (snd74 _).1 x0 _ (top74 x0 h) K q)
end
noncomputable section
def ext44 : Ext := [(74, S74)]
theorem ext44Ok : ExtOk Tryz.prog ext44 := ⟨⟨ca74, con74⟩, trivial⟩
noncomputable def b44 : Code := bodyOf Tryz.f44
theorem hb44 : Tryz.f44.body = some b44 := by kernel_rfl
def sig44 : List AT := [AT.p YA0]
def tys44 : List Ty := [Ty.str]
def kds44 : List RK := []
def oks44 : List AT := owns sig44
def P44 (x0 : ByteArray × Int × Int × Int × Int × Unit) : Prop := ((ByteArray.size x0.1 + 1 ≤ 9223372036854775807) ∧ ((P74 [x0.2.1, x0.2.2.1, x0.2.2.2.1, x0.2.2.2.2.1]) ∧ ((ByteArray.size (x0.1 ++ ByteArray.mk #[32]) + ByteArray.size (g74_0 [x0.2.1, x0.2.2.1, x0.2.2.2.1, x0.2.2.2.2.1]) ≤ 9223372036854775807) ∧ True)))
def g44_0 (x0 : ByteArray × Int × Int × Int × Int × Unit) : ByteArray := x0.1 ++ ByteArray.mk #[32] ++ g74_0 [x0.2.1, x0.2.2.1, x0.2.2.2.1, x0.2.2.2.2.1]
theorem at44 (x0 : ByteArray × Int × Int × Int × Int × Unit) (h : P44 x0) (K : Ctx) (q : Nat → Value) : AtV Tryz.prog 44 (PostR kds44 oks44 [⟨Ty.str, g44_0 x0⟩] [] [] q K) 27 K q [] [.code b44] (entE 0 0 sig44 (x0, ())) (entL sig44 (x0, ())) := by
  unfold P44 at h
  unfold g44_0
  obtain ⟨s0, h⟩ := h
  obtain ⟨s1, h⟩ := h
  obtain ⟨s2, h⟩ := h
  exact AtV.ret Tryz.func44 tabOk ext44Ok mixed false [] tys44 [] (a1 s0 (a1 s1 (a1 s2 trivial))) (by kernel_rfl)
def S44 : Am.Spec := { sig := sig44, pre := fun ⟨x0, _⟩ => P44 x0, res := fun ⟨x0, _⟩ => [⟨Ty.str, g44_0 x0⟩], kds := kds44 }
theorem con44 : Contract Tryz.prog 44 S44 := contract_of Tryz.func44 hb44 (Nat.le_of_ble_eq_true (by kernel_rfl)) (fun ⟨x0, _⟩ h _ K q => at44 x0 h K q)
end
theorem SrcOk.self {n : Int} {s : (List Int × Int × Int × Unit)} (h : SrcOk n s) : SrcOk s.2.1 s := ⟨h.1, h.2.1, Int.le_refl _⟩
theorem text_ok {n : Int} {s : (List Int × Int × Int × Unit)} (h : SrcOk n s) (l : List ByteArray) (hl : 1 ≤ l.length) (hn : n ≤ 4611686018427387902) :
    P77 s l ∧ SrcOk (n + 2) (u77_0 s l) ∧ g77_0 s l ∈ l := by
  obtain ⟨p, s1, a, b, _⟩ := pick_ok h (l.length : Int) hn
  have b := b (by omega)
  exact ⟨⟨p, a, b, trivial⟩, s1, mem_getD l _ ByteArray.empty (by omega)⟩
theorem one_ok {n : Int} {s : List Int × Int × Int × Unit} (h : SrcOk n s) (m : Int) (hn : n ≤ 4611686018427387902) :
    P78 s m ∧ SrcOk (n + 2) (u78_0 s m) := by
  obtain ⟨p, s1, _⟩ := pick_ok h m hn
  exact ⟨⟨p, trivial⟩, s1⟩
theorem among_ok {n : Int} {s : List Int × Int × Int × Unit} (h : SrcOk n s) (l : List Int) (hl : 1 ≤ l.length) (hn : n ≤ 4611686018427387902) :
    P100 s l ∧ SrcOk (n + 2) (u100_0 s l) ∧ g100_0 s l ∈ l := by
  obtain ⟨p, s1, a, b, _⟩ := pick_ok h (l.length : Int) hn
  have b := b (by omega)
  exact ⟨⟨p, a, b, trivial⟩, s1, mem_getD l _ 0 (by omega)⟩
noncomputable section
def ext30 : Ext := []
theorem ext30Ok : ExtOk Tryz.prog ext30 := trivial
noncomputable def b30 : Code := bodyOf Tryz.f30
theorem hb30 : Tryz.f30.body = some b30 := by kernel_rfl
def sig30 : List AT := [AT.v (Ty.int .i64), AT.v (Ty.int .i64), AT.v (Ty.int .i64)]
def tys30 : List Ty := [Ty.bool]
def kds30 : List RK := []
def oks30 : List AT := owns sig30
def P30 (x0 : Int) (x1 : Int) (x2 : Int) : Prop := True
def g30_0 (x0 : Int) (x1 : Int) (x2 : Int) : Bool := (if (decide (x0 ≥ x1)) = true then decide (x0 ≤ x2) else false)
theorem at30 (x0 : Int) (x1 : Int) (x2 : Int) (h : P30 x0 x1 x2) (K : Ctx) (q : Nat → Value) : AtV Tryz.prog 30 (PostR kds30 oks30 [⟨Ty.bool, g30_0 x0 x1 x2⟩] [] [] q K) 15 K q [] [.code b30] (entE 0 0 sig30 (x0, x1, x2, ())) (entL sig30 (x0, x1, x2, ())) := by
  unfold P30 at h
  unfold g30_0
  by_cases b0 : (decide (x0 ≥ x1)) = true
  · try simp only [if_pos b0] at h ⊢
    exact AtV.ret Tryz.func30 tabOk ext30Ok mixed false [] tys30 [true] (a1 b0 trivial) (by kernel_rfl)
  · try simp only [if_neg b0] at h ⊢
    replace b0 := Bool.eq_false_iff.2 b0
    exact AtV.ret Tryz.func30 tabOk ext30Ok mixed false [] tys30 [false] (a1 b0 trivial) (by kernel_rfl)
def S30 : Am.Spec := { sig := sig30, pre := fun ⟨x0, x1, x2, _⟩ => P30 x0 x1 x2, res := fun ⟨x0, x1, x2, _⟩ => [⟨Ty.bool, g30_0 x0 x1 x2⟩], kds := kds30 }
theorem con30 : Contract Tryz.prog 30 S30 := contract_of Tryz.func30 hb30 (Nat.le_of_ble_eq_true (by kernel_rfl)) (fun ⟨x0, x1, x2, _⟩ h _ K q => at30 x0 x1 x2 h K q)
end
noncomputable section
def ext105 : Ext := [(30, S30)]
theorem ext105Ok : ExtOk Tryz.prog ext105 := ⟨⟨ca30, con30⟩, trivial⟩
noncomputable def b105 : Code := bodyOf Tryz.f105
theorem hb105 : Tryz.f105.body = some b105 := by kernel_rfl
def sig105 : List AT := [AT.v (Ty.int .i64)]
def tys105 : List Ty := [Ty.bool]
def kds105 : List RK := []
def oks105 : List AT := owns sig105
def P105 (x0 : Int) : Prop := True
def g105_0 (x0 : Int) : Bool := g30_0 x0 (-1000000000000) 1000000000000
theorem at105 (x0 : Int) (h : P105 x0) (K : Ctx) (q : Nat → Value) : AtV Tryz.prog 105 (PostR kds105 oks105 [⟨Ty.bool, g105_0 x0⟩] [] [] q K) 5 K q [] [.code b105] (entE 0 0 sig105 (x0, ())) (entL sig105 (x0, ())) := by
  unfold P105 at h
  unfold g105_0
  exact AtV.ret Tryz.func105 tabOk ext105Ok mixed false [] tys105 [] (a1 trivial trivial) (by kernel_rfl)
def S105 : Am.Spec := { sig := sig105, pre := fun ⟨x0, _⟩ => P105 x0, res := fun ⟨x0, _⟩ => [⟨Ty.bool, g105_0 x0⟩], kds := kds105 }
theorem con105 : Contract Tryz.prog 105 S105 := contract_of Tryz.func105 hb105 (Nat.le_of_ble_eq_true (by kernel_rfl)) (fun ⟨x0, _⟩ h _ K q => at105 x0 h K q)
end
end Go.Proofs.YtbepbihblhhfkaaGreatDoor
set_option linter.unusedVariables false
set_option maxRecDepth 100000
namespace Go.Proofs
open Go.Shelf
def Tryz.lays169_ren : Go.Shelf.Ren := ⟨fun | 169 => 25 | n => n, fun | 70 => 48 | 9 => 9 | 0 => 0 | 72 => 50 | 37 => 22 | 127 => 92 | 3 => 3 | 5 => 5 | n => n, fun | n => n⟩
theorem Tryz.lays169 : Go.Proofs.Lays.n169 Tryz.prog Tryz.lays169_ren := {
  mixed := by kernel_rfl
  f169 := Tryz.func25.trans (congrArg some (by kernel_rfl))
  t0 := Tryz.underlying0
  a0 := Tryz.isAgg0
  z0 := Tryz.sizeOf0
  v0 := Tryz.zeroValue0
  t3 := Tryz.underlying3
  a3 := Tryz.isAgg3
  z3 := Tryz.sizeOf3
  v3 := Tryz.zeroValue3
  t9 := Tryz.underlying9
  a9 := Tryz.isAgg9
  z9 := Tryz.sizeOf9
  v9 := Tryz.zeroValue9
  t37 := Tryz.underlying22
  a37 := Tryz.isAgg22
  z37 := Tryz.sizeOf22
  v37 := Tryz.zeroValue22
  t70 := Tryz.underlying48
  a70 := Tryz.isAgg48
  z70 := Tryz.sizeOf48
  v70 := Tryz.zeroValue48
  t72 := Tryz.underlying50
  a72 := Tryz.isAgg50
  z72 := Tryz.sizeOf50
  v72 := Tryz.zeroValue50
  t127 := Tryz.underlying92
  a127 := Tryz.isAgg92
  z127 := Tryz.sizeOf92
  v127 := Tryz.zeroValue92 }
theorem Tryz.Builder_Extra_169 : Builder.Extra Tryz.prog Tryz.lays169_ren := {
  sizeBuilder := by kernel_rfl
  liesBuilder := by kernel_rfl
  t5 := Tryz.underlying5
  a5 := Tryz.isAgg5
  z5 := Tryz.sizeOf5
  v5 := Tryz.zeroValue5
  infoByte := by kernel_rfl
  cellsByte := by kernel_rfl
  sizeByte := by kernel_rfl
  neB5 := by decide }
def Tryz.lays156_ren : Go.Shelf.Ren := ⟨fun | 156 => 106 | 165 => 86 | 166 => 21 | 169 => 25 | 240 => 49 | 241 => 117 | 276 => 82 | 277 => 135 | n => n, fun | 31 => 62 | 9 => 9 | 3 => 3 | 4 => 4 | 0 => 0 | 20 => 20 | 72 => 50 | 76 => 53 | 70 => 48 | 37 => 22 | 75 => 52 | 127 => 92 | 164 => 114 | 5 => 5 | 80 => 60 | n => n, fun | n => n⟩
theorem Tryz.lays156 : Go.Proofs.Lays.n156 Tryz.prog Tryz.lays156_ren := {
  mixed := by kernel_rfl
  f156 := Tryz.func106.trans (congrArg some (by kernel_rfl))
  f165 := Tryz.func86.trans (congrArg some (by kernel_rfl))
  f166 := Tryz.func21.trans (congrArg some (by kernel_rfl))
  f169 := Tryz.func25.trans (congrArg some (by kernel_rfl))
  f240 := Tryz.func49.trans (congrArg some (by kernel_rfl))
  f241 := Tryz.func117.trans (congrArg some (by kernel_rfl))
  f276 := Tryz.func82.trans (congrArg some (by kernel_rfl))
  f277 := Tryz.func135.trans (congrArg some (by kernel_rfl))
  t0 := Tryz.underlying0
  a0 := Tryz.isAgg0
  z0 := Tryz.sizeOf0
  v0 := Tryz.zeroValue0
  t3 := Tryz.underlying3
  a3 := Tryz.isAgg3
  z3 := Tryz.sizeOf3
  v3 := Tryz.zeroValue3
  t4 := Tryz.underlying4
  a4 := Tryz.isAgg4
  z4 := Tryz.sizeOf4
  v4 := Tryz.zeroValue4
  t9 := Tryz.underlying9
  a9 := Tryz.isAgg9
  z9 := Tryz.sizeOf9
  v9 := Tryz.zeroValue9
  t20 := Tryz.underlying20
  a20 := Tryz.isAgg20
  z20 := Tryz.sizeOf20
  v20 := Tryz.zeroValue20
  t31 := Tryz.underlying62
  a31 := Tryz.isAgg62
  z31 := Tryz.sizeOf62
  v31 := Tryz.zeroValue62
  t37 := Tryz.underlying22
  a37 := Tryz.isAgg22
  z37 := Tryz.sizeOf22
  v37 := Tryz.zeroValue22
  t70 := Tryz.underlying48
  a70 := Tryz.isAgg48
  z70 := Tryz.sizeOf48
  v70 := Tryz.zeroValue48
  t72 := Tryz.underlying50
  a72 := Tryz.isAgg50
  z72 := Tryz.sizeOf50
  v72 := Tryz.zeroValue50
  t75 := Tryz.underlying52
  a75 := Tryz.isAgg52
  z75 := Tryz.sizeOf52
  v75 := Tryz.zeroValue52
  t76 := Tryz.underlying53
  a76 := Tryz.isAgg53
  z76 := Tryz.sizeOf53
  v76 := Tryz.zeroValue53
  t127 := Tryz.underlying92
  a127 := Tryz.isAgg92
  z127 := Tryz.sizeOf92
  v127 := Tryz.zeroValue92
  t164 := Tryz.underlying114
  a164 := Tryz.isAgg114
  z164 := Tryz.sizeOf114
  v164 := Tryz.zeroValue114 }
theorem Tryz.Builder_Extra_156 : Builder.Extra Tryz.prog Tryz.lays156_ren := {
  sizeBuilder := by kernel_rfl
  liesBuilder := by kernel_rfl
  t5 := Tryz.underlying5
  a5 := Tryz.isAgg5
  z5 := Tryz.sizeOf5
  v5 := Tryz.zeroValue5
  infoByte := by kernel_rfl
  cellsByte := by kernel_rfl
  sizeByte := by kernel_rfl
  neB5 := by decide }
open Go.RowKit in theorem Tryz.strings_Join_none (a : Option Addr) (c : Nat) (sep : ByteArray) (w : World) :
    Calls Tryz.prog 106 #[.slice a 0 c, .string sep] w fun e w' => e = .returned (.string ⟨#[]⟩) ∧ w' = w := Any.strings_Join_none Tryz.lays156 Tryz.Builder_Extra_156 a c sep w
open Go.RowKit in theorem Tryz.strings_Join (bk o c : Nat) (xs : List ByteArray) (sep : ByteArray) (w : World) (hcells : ∀ (j : Nat) x, xs[j]? = some x → w.cell? ⟨bk, o + j, none⟩ = some (.string x)) (hbk : bk < w.heap.size) (hN : xs.length ≤ 140737488355328) (hcap : xs.length ≤ c) (hlen : (Lib.join (xs.map (·.data.toList)) sep.data.toList).length ≤ 140737488355328) :
    Calls Tryz.prog 106 #[.slice (some ⟨bk, o, none⟩) xs.length c, .string sep] w fun e w' => e = .returned (.string ⟨(Lib.join (xs.map (·.data.toList)) sep.data.toList).toArray⟩) ∧ Below w.heap.size w w' := Any.strings_Join Tryz.lays156 Tryz.Builder_Extra_156 bk o c xs sep w hcells hbk hN hcap hlen
open Go.RowKit in theorem Tryz.Builder_String_any_k (B b : Nat) (l : List UInt8) (w : World) (h : Lib.IsBuilderF 50 5 B b (Lib.byteCells l) w) (hBw : B ≤ w.heap.size) :
    Calls Tryz.prog 25 #[.pointer (some ⟨b, 0, none⟩)] w fun e w' => e = .returned (.string ⟨l.toArray⟩) ∧ (Lib.IsBuilderF 50 5 B b (Lib.byteCells l) w' ∧ Below B w w' ∧ Lib.OthersKept 5 (some b) w w') := Any.Builder_String_any_k Tryz.lays169 Tryz.Builder_Extra_169 B b l w h hBw
def Tryz.laysM173_ren : Go.Shelf.Ren := ⟨fun | 173 => 50 | 246 => 83 | 283 => 111 | 284 => 112 | 285 => 113 | 286 => 114 | 129 => 131 | 317 => 130 | 318 => 132 | 319 => 133 | 320 => 134 | 337 => 149 | 338 => 150 | n => n, fun | 2 => 2 | 3 => 3 | 9 => 9 | 4 => 4 | 171 => 135 | 0 => 0 | 53 => 83 | 37 => 22 | 5 => 5 | 173 => 138 | 212 => 157 | 51 => 140 | 20 => 20 | 213 => 158 | 46 => 116 | 232 => 177 | 233 => 178 | n => n, fun | 17 => 0 | 18 => 4 | 19 => 5 | n => n⟩
theorem Tryz.laysM173 : Go.Proofs.LaysM.n173 Tryz.prog Tryz.laysM173_ren := {
  mixed := by kernel_rfl
  f129 := Tryz.func131.trans (congrArg some (by kernel_rfl))
  f173 := Tryz.func50.trans (congrArg some (by kernel_rfl))
  f246 := Tryz.func83.trans (congrArg some (by kernel_rfl))
  f283 := Tryz.func111.trans (congrArg some (by kernel_rfl))
  f284 := Tryz.func112.trans (congrArg some (by kernel_rfl))
  f285 := Tryz.func113.trans (congrArg some (by kernel_rfl))
  f286 := Tryz.func114.trans (congrArg some (by kernel_rfl))
  f317 := Tryz.func130.trans (congrArg some (by kernel_rfl))
  f318 := Tryz.func132.trans (congrArg some (by kernel_rfl))
  f319 := Tryz.func133.trans (congrArg some (by kernel_rfl))
  f320 := Tryz.func134.trans (congrArg some (by kernel_rfl))
  f337 := Tryz.func149.trans (congrArg some (by kernel_rfl))
  f338 := Tryz.func150.trans (congrArg some (by kernel_rfl))
  t0 := Tryz.underlying0
  a0 := Tryz.isAgg0
  z0 := Tryz.sizeOf0
  v0 := Tryz.zeroValue0
  t2 := Tryz.underlying2
  a2 := Tryz.isAgg2
  z2 := Tryz.sizeOf2
  v2 := Tryz.zeroValue2
  t3 := Tryz.underlying3
  a3 := Tryz.isAgg3
  z3 := Tryz.sizeOf3
  v3 := Tryz.zeroValue3
  t4 := Tryz.underlying4
  a4 := Tryz.isAgg4
  z4 := Tryz.sizeOf4
  v4 := Tryz.zeroValue4
  t5 := Tryz.underlying5
  a5 := Tryz.isAgg5
  z5 := Tryz.sizeOf5
  v5 := Tryz.zeroValue5
  t9 := Tryz.underlying9
  a9 := Tryz.isAgg9
  z9 := Tryz.sizeOf9
  v9 := Tryz.zeroValue9
  t20 := Tryz.underlying20
  a20 := Tryz.isAgg20
  z20 := Tryz.sizeOf20
  v20 := Tryz.zeroValue20
  t37 := Tryz.underlying22
  a37 := Tryz.isAgg22
  z37 := Tryz.sizeOf22
  v37 := Tryz.zeroValue22
  t46 := Tryz.underlying116
  a46 := Tryz.isAgg116
  z46 := Tryz.sizeOf116
  v46 := Tryz.zeroValue116
  t51 := Tryz.underlying140
  a51 := Tryz.isAgg140
  z51 := Tryz.sizeOf140
  v51 := Tryz.zeroValue140
  t53 := Tryz.underlying83
  a53 := Tryz.isAgg83
  z53 := Tryz.sizeOf83
  v53 := Tryz.zeroValue83
  t171 := Tryz.underlying135
  a171 := Tryz.isAgg135
  z171 := Tryz.sizeOf135
  v171 := Tryz.zeroValue135
  t173 := Tryz.underlying138
  a173 := Tryz.isAgg138
  z173 := Tryz.sizeOf138
  v173 := Tryz.zeroValue138
  t212 := Tryz.underlying157
  a212 := Tryz.isAgg157
  z212 := Tryz.sizeOf157
  v212 := Tryz.zeroValue157
  t213 := Tryz.underlying158
  a213 := Tryz.isAgg158
  z213 := Tryz.sizeOf158
  t232 := Tryz.underlying177
  a232 := Tryz.isAgg177
  z232 := Tryz.sizeOf177
  v232 := Tryz.zeroValue177
  t233 := Tryz.underlying178
  a233 := Tryz.isAgg178
  z233 := Tryz.sizeOf178
  v233 := Tryz.zeroValue178
  g17 := by kernel_rfl
  g18 := by kernel_rfl
  g19 := by kernel_rfl
  i0 := by kernel_rfl
  i2 := by kernel_rfl
  i3 := by kernel_rfl
  i4 := by kernel_rfl
  i5 := by kernel_rfl
  i9 := by kernel_rfl
  i20 := by kernel_rfl
  i37 := by kernel_rfl
  i46 := by kernel_rfl
  i51 := by kernel_rfl
  i53 := by kernel_rfl
  i171 := by kernel_rfl
  i173 := by kernel_rfl
  i212 := by kernel_rfl
  i232 := by kernel_rfl
  i233 := by kernel_rfl
  m17 := by kernel_rfl
  m18 := by kernel_rfl
  m19 := by kernel_rfl }
open Go.RowKit Go.Sort Go.Lib in theorem Tryz.strconv_FormatInt_10 (n : Int) (h0 : -9223372036854775808 ≤ n) (h1 : n ≤ 9223372036854775807) (w : World) (htab : Lib.TabIs Tryz.prog w "internal/strconv.uint64pow10" .u64 Lib.pow10Tab) :
    Calls Tryz.prog 50 #[.int .i64 n, .int .i64 10] w fun e w' => e = .returned (.string ⟨(Lib.itoa n).toArray⟩) ∧ ∃ k os, w' = grow (w.drewN k) os := Any.strconv_FormatInt_10 Tryz.laysM173 n h0 h1 w htab
def Tryz.laysC174_ren : Go.Shelf.Ren := ⟨fun | 174 => 56 | 247 => 90 | 245 => 91 | 287 => 120 | 279 => 121 | 280 => 122 | 281 => 123 | 282 => 124 | 321 => 139 | 322 => 140 | 316 => 141 | 171 => 143 | 205 => 142 | 243 => 152 | 246 => 83 | 283 => 111 | 284 => 112 | 285 => 113 | 286 => 114 | 129 => 131 | 317 => 130 | 318 => 132 | 319 => 133 | 320 => 134 | 337 => 149 | 338 => 150 | n => n, fun | 9 => 9 | 3 => 3 | 2 => 2 | 75 => 52 | 85 => 94 | 4 => 4 | 167 => 146 | 5 => 5 | 53 => 83 | 175 => 147 | 46 => 116 | 168 => 149 | 37 => 22 | 0 => 0 | 210 => 169 | 21 => 21 | 127 => 92 | 145 => 174 | 143 => 172 | 171 => 135 | 173 => 138 | 212 => 157 | 51 => 140 | 20 => 20 | 213 => 158 | 232 => 177 | 233 => 178 | 80 => 60 | n => n, fun | 15 => 1 | 16 => 2 | 17 => 0 | 18 => 4 | 19 => 5 | n => n⟩
theorem Tryz.laysC174 : Go.Proofs.LaysC.n174 Tryz.prog Tryz.laysC174_ren := {
  mixed := by kernel_rfl
  f129 := Tryz.func131.trans (congrArg some (by kernel_rfl))
  f171 := Tryz.func143.trans (congrArg some (by kernel_rfl))
  f174 := Tryz.func56.trans (congrArg some (by kernel_rfl))
  f205 := Tryz.func142.trans (congrArg some (by kernel_rfl))
  f243 := Tryz.func152.trans (congrArg some (by kernel_rfl))
  f245 := Tryz.func91.trans (congrArg some (by kernel_rfl))
  f246 := Tryz.func83.trans (congrArg some (by kernel_rfl))
  f247 := Tryz.func90.trans (congrArg some (by kernel_rfl))
  f279 := Tryz.func121.trans (congrArg some (by kernel_rfl))
  f280 := Tryz.func122.trans (congrArg some (by kernel_rfl))
  f281 := Tryz.func123.trans (congrArg some (by kernel_rfl))
  f282 := Tryz.func124.trans (congrArg some (by kernel_rfl))
  f283 := Tryz.func111.trans (congrArg some (by kernel_rfl))
  f284 := Tryz.func112.trans (congrArg some (by kernel_rfl))
  f285 := Tryz.func113.trans (congrArg some (by kernel_rfl))
  f286 := Tryz.func114.trans (congrArg some (by kernel_rfl))
  f287 := Tryz.func120.trans (congrArg some (by kernel_rfl))
  f316 := Tryz.func141.trans (congrArg some (by kernel_rfl))
  f317 := Tryz.func130.trans (congrArg some (by kernel_rfl))
  f318 := Tryz.func132.trans (congrArg some (by kernel_rfl))
  f319 := Tryz.func133.trans (congrArg some (by kernel_rfl))
  f320 := Tryz.func134.trans (congrArg some (by kernel_rfl))
  f321 := Tryz.func139.trans (congrArg some (by kernel_rfl))
  f322 := Tryz.func140.trans (congrArg some (by kernel_rfl))
  f337 := Tryz.func149.trans (congrArg some (by kernel_rfl))
  f338 := Tryz.func150.trans (congrArg some (by kernel_rfl))
  t0 := Tryz.underlying0
  a0 := Tryz.isAgg0
  z0 := Tryz.sizeOf0
  v0 := Tryz.zeroValue0
  t2 := Tryz.underlying2
  a2 := Tryz.isAgg2
  z2 := Tryz.sizeOf2
  v2 := Tryz.zeroValue2
  t3 := Tryz.underlying3
  a3 := Tryz.isAgg3
  z3 := Tryz.sizeOf3
  v3 := Tryz.zeroValue3
  t4 := Tryz.underlying4
  a4 := Tryz.isAgg4
  z4 := Tryz.sizeOf4
  v4 := Tryz.zeroValue4
  t5 := Tryz.underlying5
  a5 := Tryz.isAgg5
  z5 := Tryz.sizeOf5
  v5 := Tryz.zeroValue5
  t9 := Tryz.underlying9
  a9 := Tryz.isAgg9
  z9 := Tryz.sizeOf9
  v9 := Tryz.zeroValue9
  t20 := Tryz.underlying20
  a20 := Tryz.isAgg20
  z20 := Tryz.sizeOf20
  v20 := Tryz.zeroValue20
  t21 := Tryz.underlying21
  a21 := Tryz.isAgg21
  z21 := Tryz.sizeOf21
  v21 := Tryz.zeroValue21
  t37 := Tryz.underlying22
  a37 := Tryz.isAgg22
  z37 := Tryz.sizeOf22
  v37 := Tryz.zeroValue22
  t46 := Tryz.underlying116
  a46 := Tryz.isAgg116
  z46 := Tryz.sizeOf116
  v46 := Tryz.zeroValue116
  t51 := Tryz.underlying140
  a51 := Tryz.isAgg140
  z51 := Tryz.sizeOf140
  v51 := Tryz.zeroValue140
  t53 := Tryz.underlying83
  a53 := Tryz.isAgg83
  z53 := Tryz.sizeOf83
  v53 := Tryz.zeroValue83
  t75 := Tryz.underlying52
  a75 := Tryz.isAgg52
  z75 := Tryz.sizeOf52
  v75 := Tryz.zeroValue52
  t85 := Tryz.underlying94
  a85 := Tryz.isAgg94
  z85 := Tryz.sizeOf94
  v85 := Tryz.zeroValue94
  t127 := Tryz.underlying92
  a127 := Tryz.isAgg92
  z127 := Tryz.sizeOf92
  v127 := Tryz.zeroValue92
  t143 := Tryz.underlying172
  a143 := Tryz.isAgg172
  z143 := Tryz.sizeOf172
  v143 := Tryz.zeroValue172
  t145 := Tryz.underlying174
  a145 := Tryz.isAgg174
  z145 := Tryz.sizeOf174
  v145 := Tryz.zeroValue174
  t167 := Tryz.underlying146
  a167 := Tryz.isAgg146
  z167 := Tryz.sizeOf146
  v167 := Tryz.zeroValue146
  t168 := Tryz.underlying149
  a168 := Tryz.isAgg149
  z168 := Tryz.sizeOf149
  v168 := Tryz.zeroValue149
  t171 := Tryz.underlying135
  a171 := Tryz.isAgg135
  z171 := Tryz.sizeOf135
  v171 := Tryz.zeroValue135
  t173 := Tryz.underlying138
  a173 := Tryz.isAgg138
  z173 := Tryz.sizeOf138
  v173 := Tryz.zeroValue138
  t175 := Tryz.underlying147
  a175 := Tryz.isAgg147
  z175 := Tryz.sizeOf147
  v175 := Tryz.zeroValue147
  t210 := Tryz.underlying169
  a210 := Tryz.isAgg169
  z210 := Tryz.sizeOf169
  v210 := Tryz.zeroValue169
  t212 := Tryz.underlying157
  a212 := Tryz.isAgg157
  z212 := Tryz.sizeOf157
  v212 := Tryz.zeroValue157
  t213 := Tryz.underlying158
  a213 := Tryz.isAgg158
  z213 := Tryz.sizeOf158
  t232 := Tryz.underlying177
  a232 := Tryz.isAgg177
  z232 := Tryz.sizeOf177
  v232 := Tryz.zeroValue177
  t233 := Tryz.underlying178
  a233 := Tryz.isAgg178
  z233 := Tryz.sizeOf178
  v233 := Tryz.zeroValue178
  g15 := by kernel_rfl
  g16 := by kernel_rfl
  g17 := by kernel_rfl
  g18 := by kernel_rfl
  g19 := by kernel_rfl
  t80 := Tryz.underlying60
  a80 := Tryz.isAgg60
  z80 := Tryz.sizeOf60
  v80 := Tryz.zeroValue60
  i0 := by kernel_rfl
  i2 := by kernel_rfl
  i3 := by kernel_rfl
  i4 := by kernel_rfl
  i5 := by kernel_rfl
  i9 := by kernel_rfl
  i20 := by kernel_rfl
  i21 := by kernel_rfl
  i37 := by kernel_rfl
  i46 := by kernel_rfl
  i51 := by kernel_rfl
  i53 := by kernel_rfl
  i75 := by kernel_rfl
  i80 := by kernel_rfl
  i85 := by kernel_rfl
  i127 := by kernel_rfl
  i143 := by kernel_rfl
  i145 := by kernel_rfl
  i167 := by kernel_rfl
  i168 := by kernel_rfl
  i171 := by kernel_rfl
  i173 := by kernel_rfl
  i175 := by kernel_rfl
  i210 := by kernel_rfl
  i212 := by kernel_rfl
  i232 := by kernel_rfl
  i233 := by kernel_rfl
  m15 := by kernel_rfl
  m16 := by kernel_rfl
  m17 := by kernel_rfl
  m18 := by kernel_rfl
  m19 := by kernel_rfl
  c0 := by kernel_rfl
  c2 := by kernel_rfl
  c3 := by kernel_rfl
  c4 := by kernel_rfl
  c5 := by kernel_rfl
  c9 := by kernel_rfl
  c20 := by kernel_rfl
  c21 := by kernel_rfl
  c37 := by kernel_rfl
  c46 := by kernel_rfl
  c51 := by kernel_rfl
  c53 := by kernel_rfl
  c75 := by kernel_rfl
  c80 := by kernel_rfl
  c85 := by kernel_rfl
  c127 := by kernel_rfl
  c143 := by kernel_rfl
  c145 := by kernel_rfl
  c167 := by kernel_rfl
  c168 := by kernel_rfl
  c171 := by kernel_rfl
  c173 := by kernel_rfl
  c175 := by kernel_rfl
  c210 := by kernel_rfl
  c212 := by kernel_rfl
  c213 := by kernel_rfl
  c232 := by kernel_rfl
  c233 := by kernel_rfl }
open Go.RowKit in theorem Tryz.strconv_ParseInt_10_at64_ok (s : ByteArray) (hmax : s.size ≤ 9223372036854775806) (v : Int) (h : Lib.parseIntB 64 s.data.toList = .ok v) (w : World) :
    Calls Tryz.prog 56 #[.string s, .int .i64 10, .int .i64 64] w fun e w' => e = .returned (.tuple #[.int .i64 v, .nilIface]) ∧ (w' = w ∨ ∃ t, w' = Lib.bytesWorld w 5 t) := Any.strconv_ParseInt_10_at64_ok Tryz.laysC174 s hmax v h w
open Go.RowKit in theorem Tryz.strconv_ParseInt_10_at64_syntax (s : ByteArray) (hlim : s.size ≤ 281474976710656) (h : Lib.parseIntB 64 s.data.toList = .syntax) (ev : Value) (w : World) (hv : w.cell? ⟨1, 0, none⟩ = some ev) (hev : ev = .nilIface ∨ ∃ te pe, ev = .iface te pe) :
    Calls Tryz.prog 56 #[.string s, .int .i64 10, .int .i64 64] w fun e w' => ∃ N, e = .returned (.tuple #[.int .i64 (0), .iface 149 (.pointer (some ⟨N, 0, none⟩))]) ∧ w.heap.size ≤ N ∧ w'.heap[N]? = some (.cells #[.string ⟨#[80, 97, 114, 115, 101, 73, 110, 116]⟩, .string s, ev] 169 (0, 0)) ∧ Below w.heap.size w w' := Any.strconv_ParseInt_10_at64_syntax Tryz.laysC174 s hlim h ev w hv hev
open Go.RowKit in theorem Tryz.strconv_ParseInt_10_at64_range (s : ByteArray) (hlim : s.size ≤ 281474976710656) (h : Lib.parseIntB 64 s.data.toList = .range) (ev : Value) (w : World) (hv : w.cell? ⟨2, 0, none⟩ = some ev) (hev : ev = .nilIface ∨ ∃ te pe, ev = .iface te pe) :
    Calls Tryz.prog 56 #[.string s, .int .i64 10, .int .i64 64] w fun e w' => ∃ N, e = .returned (.tuple #[.int .i64 (Lib.intSat 64 s.data.toList), .iface 149 (.pointer (some ⟨N, 0, none⟩))]) ∧ w.heap.size ≤ N ∧ w'.heap[N]? = some (.cells #[.string ⟨#[80, 97, 114, 115, 101, 73, 110, 116]⟩, .string s, ev] 169 (0, 0)) ∧ Below w.heap.size w w' := Any.strconv_ParseInt_10_at64_range Tryz.laysC174 s hlim h ev w hv hev
def Tryz.lays144_ren : Go.Shelf.Ren := ⟨fun | 144 => 81 | 143 => 110 | 219 => 125 | 217 => 144 | 225 => 145 | 224 => 146 | 267 => 147 | 266 => 153 | 314 => 154 | n => n, fun | 9 => 9 | 4 => 4 | 3 => 3 | 5 => 5 | 46 => 116 | 146 => 141 | 51 => 140 | n => n, fun | 1 => 3 | n => n⟩
theorem Tryz.lays144 : Go.Proofs.Lays.n144 Tryz.prog Tryz.lays144_ren := {
  mixed := by kernel_rfl
  f143 := Tryz.func110.trans (congrArg some (by kernel_rfl))
  f144 := Tryz.func81.trans (congrArg some (by kernel_rfl))
  f217 := Tryz.func144.trans (congrArg some (by kernel_rfl))
  f219 := Tryz.func125.trans (congrArg some (by kernel_rfl))
  f224 := Tryz.func146.trans (congrArg some (by kernel_rfl))
  f225 := Tryz.func145.trans (congrArg some (by kernel_rfl))
  f266 := Tryz.func153.trans (congrArg some (by kernel_rfl))
  f267 := Tryz.func147.trans (congrArg some (by kernel_rfl))
  f314 := Tryz.func154.trans (congrArg some (by kernel_rfl))
  t3 := Tryz.underlying3
  a3 := Tryz.isAgg3
  z3 := Tryz.sizeOf3
  v3 := Tryz.zeroValue3
  t4 := Tryz.underlying4
  a4 := Tryz.isAgg4
  z4 := Tryz.sizeOf4
  v4 := Tryz.zeroValue4
  t5 := Tryz.underlying5
  a5 := Tryz.isAgg5
  z5 := Tryz.sizeOf5
  v5 := Tryz.zeroValue5
  t9 := Tryz.underlying9
  a9 := Tryz.isAgg9
  z9 := Tryz.sizeOf9
  v9 := Tryz.zeroValue9
  t46 := Tryz.underlying116
  a46 := Tryz.isAgg116
  z46 := Tryz.sizeOf116
  v46 := Tryz.zeroValue116
  t51 := Tryz.underlying140
  a51 := Tryz.isAgg140
  z51 := Tryz.sizeOf140
  v51 := Tryz.zeroValue140
  t146 := Tryz.underlying141
  a146 := Tryz.isAgg141
  z146 := Tryz.sizeOf141
  v146 := Tryz.zeroValue141
  g1 := by kernel_rfl }
open Go.RowKit Go.Lib in theorem Tryz.strings_Contains (s sub : ByteArray) (m : Int) (w : World) (hs : s.size < 4294967281) (hm : w.cell? ⟨3, 0, none⟩ = some (.int .i64 m)) :
    Calls Tryz.prog 81 #[.string s, .string sub] w fun e w' => e = .returned (.bool (Lib.contains s.data.toList sub.data.toList)) ∧ w' = w := Any.strings_Contains Tryz.lays144 s sub m w hs hm
def Tryz.lays145_ren : Go.Shelf.Ren := ⟨fun | 145 => 58 | 220 => 93 | 219 => 125 | 217 => 144 | 225 => 145 | 224 => 146 | 267 => 147 | 266 => 153 | 314 => 154 | n => n, fun | 9 => 9 | 4 => 4 | 59 => 96 | 3 => 3 | 5 => 5 | 46 => 116 | 146 => 141 | 51 => 140 | n => n, fun | 1 => 3 | n => n⟩
theorem Tryz.lays145 : Go.Proofs.Lays.n145 Tryz.prog Tryz.lays145_ren := {
  mixed := by kernel_rfl
  f145 := Tryz.func58.trans (congrArg some (by kernel_rfl))
  f217 := Tryz.func144.trans (congrArg some (by kernel_rfl))
  f219 := Tryz.func125.trans (congrArg some (by kernel_rfl))
  f220 := Tryz.func93.trans (congrArg some (by kernel_rfl))
  f224 := Tryz.func146.trans (congrArg some (by kernel_rfl))
  f225 := Tryz.func145.trans (congrArg some (by kernel_rfl))
  f266 := Tryz.func153.trans (congrArg some (by kernel_rfl))
  f267 := Tryz.func147.trans (congrArg some (by kernel_rfl))
  f314 := Tryz.func154.trans (congrArg some (by kernel_rfl))
  t3 := Tryz.underlying3
  a3 := Tryz.isAgg3
  z3 := Tryz.sizeOf3
  v3 := Tryz.zeroValue3
  t4 := Tryz.underlying4
  a4 := Tryz.isAgg4
  z4 := Tryz.sizeOf4
  v4 := Tryz.zeroValue4
  t5 := Tryz.underlying5
  a5 := Tryz.isAgg5
  z5 := Tryz.sizeOf5
  v5 := Tryz.zeroValue5
  t9 := Tryz.underlying9
  a9 := Tryz.isAgg9
  z9 := Tryz.sizeOf9
  v9 := Tryz.zeroValue9
  t46 := Tryz.underlying116
  a46 := Tryz.isAgg116
  z46 := Tryz.sizeOf116
  v46 := Tryz.zeroValue116
  t51 := Tryz.underlying140
  a51 := Tryz.isAgg140
  z51 := Tryz.sizeOf140
  v51 := Tryz.zeroValue140
  t59 := Tryz.underlying96
  a59 := Tryz.isAgg96
  z59 := Tryz.sizeOf96
  v59 := Tryz.zeroValue96
  t146 := Tryz.underlying141
  a146 := Tryz.isAgg141
  z146 := Tryz.sizeOf141
  v146 := Tryz.zeroValue141
  g1 := by kernel_rfl }
open Go.RowKit Go.Lib in theorem Tryz.strings_Cut (s sep : ByteArray) (m : Int) (w : World) (hs : s.size < 4294967281) (hm : w.cell? ⟨3, 0, none⟩ = some (.int .i64 m)) :
    Calls Tryz.prog 58 #[.string s, .string sep] w fun e w' => e = .returned (.tuple #[.string ⟨(Lib.cut s.data.toList sep.data.toList).1.toArray⟩, .string ⟨(Lib.cut s.data.toList sep.data.toList).2.1.toArray⟩, .bool (Lib.cut s.data.toList sep.data.toList).2.2]) ∧ ∃ n, w' = w.drewN n := Any.strings_Cut Tryz.lays145 s sep m w hs hm
def Tryz.lays99_ren : Go.Shelf.Ren := ⟨fun | 99 => 85 | 206 => 92 | n => n, fun | 9 => 9 | 4 => 4 | 3 => 3 | n => n, fun | n => n⟩
theorem Tryz.lays99 : Go.Proofs.Lays.n99 Tryz.prog Tryz.lays99_ren := {
  mixed := by kernel_rfl
  f99 := Tryz.func85.trans (congrArg some (by kernel_rfl))
  f206 := Tryz.func92.trans (congrArg some (by kernel_rfl))
  t3 := Tryz.underlying3
  a3 := Tryz.isAgg3
  z3 := Tryz.sizeOf3
  v3 := Tryz.zeroValue3
  t4 := Tryz.underlying4
  a4 := Tryz.isAgg4
  z4 := Tryz.sizeOf4
  v4 := Tryz.zeroValue4
  t9 := Tryz.underlying9
  a9 := Tryz.isAgg9
  z9 := Tryz.sizeOf9
  v9 := Tryz.zeroValue9 }
open Go.RowKit Go.Lib in theorem Tryz.strings_HasPrefix (s p : ByteArray) (w : World) :
    Calls Tryz.prog 85 #[.string s, .string p] w fun e w' => e = .returned (.bool (Lib.hasPrefix s.data.toList p.data.toList)) ∧ w' = w := Any.strings_HasPrefix Tryz.lays99 s p w
def Tryz.lays101_ren : Go.Shelf.Ren := ⟨fun | 101 => 29 | 208 => 57 | 206 => 92 | n => n, fun | 9 => 9 | 4 => 4 | 3 => 3 | n => n, fun | n => n⟩
theorem Tryz.lays101 : Go.Proofs.Lays.n101 Tryz.prog Tryz.lays101_ren := {
  mixed := by kernel_rfl
  f101 := Tryz.func29.trans (congrArg some (by kernel_rfl))
  f206 := Tryz.func92.trans (congrArg some (by kernel_rfl))
  f208 := Tryz.func57.trans (congrArg some (by kernel_rfl))
  t3 := Tryz.underlying3
  a3 := Tryz.isAgg3
  z3 := Tryz.sizeOf3
  v3 := Tryz.zeroValue3
  t4 := Tryz.underlying4
  a4 := Tryz.isAgg4
  z4 := Tryz.sizeOf4
  v4 := Tryz.zeroValue4
  t9 := Tryz.underlying9
  a9 := Tryz.isAgg9
  z9 := Tryz.sizeOf9
  v9 := Tryz.zeroValue9 }
open Go.RowKit Go.Lib in theorem Tryz.strings_TrimPrefix (s p : ByteArray) (w : World) :
    Calls Tryz.prog 29 #[.string s, .string p] w fun e w' => e = .returned (.string ⟨(Lib.trimPrefix s.data.toList p.data.toList).toArray⟩) ∧ w' = w := Any.strings_TrimPrefix Tryz.lays101 s p w
def Tryz.lays102_ren : Go.Shelf.Ren := ⟨fun | 102 => 55 | 209 => 89 | 207 => 53 | n => n, fun | 9 => 9 | 4 => 4 | 3 => 3 | n => n, fun | n => n⟩
theorem Tryz.lays102 : Go.Proofs.Lays.n102 Tryz.prog Tryz.lays102_ren := {
  mixed := by kernel_rfl
  f102 := Tryz.func55.trans (congrArg some (by kernel_rfl))
  f207 := Tryz.func53.trans (congrArg some (by kernel_rfl))
  f209 := Tryz.func89.trans (congrArg some (by kernel_rfl))
  t3 := Tryz.underlying3
  a3 := Tryz.isAgg3
  z3 := Tryz.sizeOf3
  v3 := Tryz.zeroValue3
  t4 := Tryz.underlying4
  a4 := Tryz.isAgg4
  z4 := Tryz.sizeOf4
  v4 := Tryz.zeroValue4
  t9 := Tryz.underlying9
  a9 := Tryz.isAgg9
  z9 := Tryz.sizeOf9
  v9 := Tryz.zeroValue9 }
open Go.RowKit Go.Lib in theorem Tryz.strings_TrimSuffix (s p : ByteArray) (w : World) (hs : s.size ≤ 9223372036854775807) :
    Calls Tryz.prog 55 #[.string s, .string p] w fun e w' => e = .returned (.string ⟨(Lib.trimSuffix s.data.toList p.data.toList).toArray⟩) ∧ w' = w := Any.strings_TrimSuffix Tryz.lays102 s p w hs
def Tryz.lays146_ren : Go.Shelf.Ren := ⟨fun | 146 => 54 | 221 => 88 | 268 => 118 | 138 => 119 | 143 => 110 | 195 => 136 | 197 => 137 | 218 => 138 | 219 => 125 | 260 => 151 | 217 => 144 | 225 => 145 | 224 => 146 | 267 => 147 | 266 => 153 | 314 => 154 | n => n, fun | 9 => 9 | 31 => 62 | 3 => 3 | 4 => 4 | 0 => 0 | 105 => 163 | 21 => 21 | 5 => 5 | 46 => 116 | 119 => 179 | 139 => 182 | 138 => 181 | 146 => 141 | 51 => 140 | n => n, fun | 1 => 3 | 3 => 6 | 4 => 7 | n => n⟩
theorem Tryz.lays146 : Go.Proofs.Lays.n146 Tryz.prog Tryz.lays146_ren := {
  mixed := by kernel_rfl
  f138 := Tryz.func119.trans (congrArg some (by kernel_rfl))
  f143 := Tryz.func110.trans (congrArg some (by kernel_rfl))
  f146 := Tryz.func54.trans (congrArg some (by kernel_rfl))
  f195 := Tryz.func136.trans (congrArg some (by kernel_rfl))
  f197 := Tryz.func137.trans (congrArg some (by kernel_rfl))
  f217 := Tryz.func144.trans (congrArg some (by kernel_rfl))
  f218 := Tryz.func138.trans (congrArg some (by kernel_rfl))
  f219 := Tryz.func125.trans (congrArg some (by kernel_rfl))
  f221 := Tryz.func88.trans (congrArg some (by kernel_rfl))
  f224 := Tryz.func146.trans (congrArg some (by kernel_rfl))
  f225 := Tryz.func145.trans (congrArg some (by kernel_rfl))
  f260 := Tryz.func151.trans (congrArg some (by kernel_rfl))
  f266 := Tryz.func153.trans (congrArg some (by kernel_rfl))
  f267 := Tryz.func147.trans (congrArg some (by kernel_rfl))
  f268 := Tryz.func118.trans (congrArg some (by kernel_rfl))
  f314 := Tryz.func154.trans (congrArg some (by kernel_rfl))
  t0 := Tryz.underlying0
  a0 := Tryz.isAgg0
  z0 := Tryz.sizeOf0
  v0 := Tryz.zeroValue0
  t3 := Tryz.underlying3
  a3 := Tryz.isAgg3
  z3 := Tryz.sizeOf3
  v3 := Tryz.zeroValue3
  t4 := Tryz.underlying4
  a4 := Tryz.isAgg4
  z4 := Tryz.sizeOf4
  v4 := Tryz.zeroValue4
  t5 := Tryz.underlying5
  a5 := Tryz.isAgg5
  z5 := Tryz.sizeOf5
  v5 := Tryz.zeroValue5
  t9 := Tryz.underlying9
  a9 := Tryz.isAgg9
  z9 := Tryz.sizeOf9
  v9 := Tryz.zeroValue9
  t21 := Tryz.underlying21
  a21 := Tryz.isAgg21
  z21 := Tryz.sizeOf21
  v21 := Tryz.zeroValue21
  t31 := Tryz.underlying62
  a31 := Tryz.isAgg62
  z31 := Tryz.sizeOf62
  v31 := Tryz.zeroValue62
  t46 := Tryz.underlying116
  a46 := Tryz.isAgg116
  z46 := Tryz.sizeOf116
  v46 := Tryz.zeroValue116
  t51 := Tryz.underlying140
  a51 := Tryz.isAgg140
  z51 := Tryz.sizeOf140
  v51 := Tryz.zeroValue140
  t105 := Tryz.underlying163
  a105 := Tryz.isAgg163
  z105 := Tryz.sizeOf163
  v105 := Tryz.zeroValue163
  t119 := Tryz.underlying179
  a119 := Tryz.isAgg179
  z119 := Tryz.sizeOf179
  t138 := Tryz.underlying181
  a138 := Tryz.isAgg181
  z138 := Tryz.sizeOf181
  v138 := Tryz.zeroValue181
  t139 := Tryz.underlying182
  a139 := Tryz.isAgg182
  z139 := Tryz.sizeOf182
  v139 := Tryz.zeroValue182
  t146 := Tryz.underlying141
  a146 := Tryz.isAgg141
  z146 := Tryz.sizeOf141
  v146 := Tryz.zeroValue141
  g1 := by kernel_rfl
  g3 := by kernel_rfl
  g4 := by kernel_rfl }
open Go.RowKit Go.Lib in theorem Tryz.strings_Split (s sep : ByteArray) (m : Int) (w : World) (hs : s.size < 4294967281) (hm : w.cell? ⟨3, 0, none⟩ = some (.int .i64 m)) (h1 : 1 ≤ sep.size) :
    Calls Tryz.prog 54 #[.string s, .string sep] w fun e w' =>
      e = .returned (.slice (some ⟨w.heap.size, 0, none⟩) (Lib.countB s sep + 1) (Lib.countB s sep + 1)) ∧ w' = w.alloc (.cells ((Lib.splitB sep 0 (Lib.countB s sep) s).map Value.string).toArray 9) := Any.strings_Split Tryz.lays146 (by kernel_rfl) s sep m w hs hm h1
def Tryz.lays105_ren : Go.Shelf.Ren := ⟨fun | 105 => 52 | 212 => 84 | 99 => 85 | 165 => 86 | 166 => 21 | 170 => 87 | 169 => 25 | 263 => 115 | 264 => 116 | 206 => 92 | 240 => 49 | 241 => 117 | 276 => 82 | 277 => 135 | n => n, fun | 9 => 9 | 3 => 3 | 4 => 4 | 20 => 20 | 0 => 0 | 46 => 116 | 109 => 117 | 5 => 5 | 72 => 50 | 76 => 53 | 51 => 140 | 146 => 141 | 53 => 83 | 148 => 143 | 70 => 48 | 37 => 22 | 75 => 52 | 127 => 92 | 164 => 114 | 80 => 60 | n => n, fun | n => n⟩
theorem Tryz.lays105 : Go.Proofs.Lays.n105 Tryz.prog Tryz.lays105_ren := {
  mixed := by kernel_rfl
  f99 := Tryz.func85.trans (congrArg some (by kernel_rfl))
  f105 := Tryz.func52.trans (congrArg some (by kernel_rfl))
  f165 := Tryz.func86.trans (congrArg some (by kernel_rfl))
  f166 := Tryz.func21.trans (congrArg some (by kernel_rfl))
  f169 := Tryz.func25.trans (congrArg some (by kernel_rfl))
  f170 := Tryz.func87.trans (congrArg some (by kernel_rfl))
  f206 := Tryz.func92.trans (congrArg some (by kernel_rfl))
  f212 := Tryz.func84.trans (congrArg some (by kernel_rfl))
  f240 := Tryz.func49.trans (congrArg some (by kernel_rfl))
  f241 := Tryz.func117.trans (congrArg some (by kernel_rfl))
  f263 := Tryz.func115.trans (congrArg some (by kernel_rfl))
  f264 := Tryz.func116.trans (congrArg some (by kernel_rfl))
  f276 := Tryz.func82.trans (congrArg some (by kernel_rfl))
  f277 := Tryz.func135.trans (congrArg some (by kernel_rfl))
  t0 := Tryz.underlying0
  a0 := Tryz.isAgg0
  z0 := Tryz.sizeOf0
  v0 := Tryz.zeroValue0
  t3 := Tryz.underlying3
  a3 := Tryz.isAgg3
  z3 := Tryz.sizeOf3
  v3 := Tryz.zeroValue3
  t4 := Tryz.underlying4
  a4 := Tryz.isAgg4
  z4 := Tryz.sizeOf4
  v4 := Tryz.zeroValue4
  t5 := Tryz.underlying5
  a5 := Tryz.isAgg5
  z5 := Tryz.sizeOf5
  v5 := Tryz.zeroValue5
  t9 := Tryz.underlying9
  a9 := Tryz.isAgg9
  z9 := Tryz.sizeOf9
  v9 := Tryz.zeroValue9
  t20 := Tryz.underlying20
  a20 := Tryz.isAgg20
  z20 := Tryz.sizeOf20
  v20 := Tryz.zeroValue20
  t37 := Tryz.underlying22
  a37 := Tryz.isAgg22
  z37 := Tryz.sizeOf22
  v37 := Tryz.zeroValue22
  t46 := Tryz.underlying116
  a46 := Tryz.isAgg116
  z46 := Tryz.sizeOf116
  v46 := Tryz.zeroValue116
  t51 := Tryz.underlying140
  a51 := Tryz.isAgg140
  z51 := Tryz.sizeOf140
  v51 := Tryz.zeroValue140
  t53 := Tryz.underlying83
  a53 := Tryz.isAgg83
  z53 := Tryz.sizeOf83
  v53 := Tryz.zeroValue83
  t70 := Tryz.underlying48
  a70 := Tryz.isAgg48
  z70 := Tryz.sizeOf48
  v70 := Tryz.zeroValue48
  t72 := Tryz.underlying50
  a72 := Tryz.isAgg50
  z72 := Tryz.sizeOf50
  v72 := Tryz.zeroValue50
  t75 := Tryz.underlying52
  a75 := Tryz.isAgg52
  z75 := Tryz.sizeOf52
  v75 := Tryz.zeroValue52
  t76 := Tryz.underlying53
  a76 := Tryz.isAgg53
  z76 := Tryz.sizeOf53
  v76 := Tryz.zeroValue53
  t109 := Tryz.underlying117
  a109 := Tryz.isAgg117
  z109 := Tryz.sizeOf117
  v109 := Tryz.zeroValue117
  t127 := Tryz.underlying92
  a127 := Tryz.isAgg92
  z127 := Tryz.sizeOf92
  v127 := Tryz.zeroValue92
  t146 := Tryz.underlying141
  a146 := Tryz.isAgg141
  z146 := Tryz.sizeOf141
  v146 := Tryz.zeroValue141
  t148 := Tryz.underlying143
  a148 := Tryz.isAgg143
  z148 := Tryz.sizeOf143
  v148 := Tryz.zeroValue143
  t164 := Tryz.underlying114
  a164 := Tryz.isAgg114
  z164 := Tryz.sizeOf114
  v164 := Tryz.zeroValue114 }
theorem Tryz.Builder_Extra_105 : Builder.Extra Tryz.prog Tryz.lays105_ren := {
  sizeBuilder := by kernel_rfl
  liesBuilder := by kernel_rfl
  t5 := Tryz.underlying5
  a5 := Tryz.isAgg5
  z5 := Tryz.sizeOf5
  v5 := Tryz.zeroValue5
  infoByte := by kernel_rfl
  cellsByte := by kernel_rfl
  sizeByte := by kernel_rfl
  neB5 := by decide }
open Go.RowKit Go.Lib in theorem Tryz.strings_Repeat (s : ByteArray) (c : Nat) (w : World) (hc : c ≤ 9223372036854775807) (hlen : s.size * c ≤ 140737488355328) :
    Calls Tryz.prog 52 #[.string s, .int .i64 c] w fun e w' => e = .returned (.string ⟨(Lib.repeatL s.data.toList c).toArray⟩) ∧ Below w.heap.size w w' := Any.strings_Repeat Tryz.lays105 Tryz.Builder_Extra_105 s c w hc hlen
end Go.Proofs
set_option linter.unusedVariables false
set_option linter.unusedSimpArgs false
set_option maxRecDepth 100000
namespace Go.Proofs.YtbepbihblhhfkaaGreatDoor
open Go Go.Am Go.Proofs
def sig50 : List AT := [AT.v (Ty.int .i64), AT.v (Ty.int .i64)]
def g50_0 (x0 x1 : Int) : ByteArray := numB x0
def P50 (x0 x1 : Int) : Prop := x1 = 10
def S50 : Am.Spec := { sig := sig50, pre := fun ⟨x0, x1, _⟩ => P50 x0 x1, res := fun ⟨x0, x1, _⟩ => [⟨Ty.str, g50_0 x0 x1⟩] }
theorem con50 : Contract Tryz.prog 50 S50 := contract_flat rfl fun w ⟨x0, x1, _⟩ vs bss hg hp hw ha => by
  obtain ⟨v0, s0, _, _, rfl, _, ⟨_, rfl, hi⟩, v1, s1, _, _, rfl, _, ⟨_, rfl, _⟩, rfl, _⟩ := ha
  obtain rfl : x1 = 10 := hp
  have hi : InR .i64 x0 := hi
  rw [i64_iff] at hi
  refine ⟨fun d hd => ?_, ?_⟩
  · rw [List.mem_singleton.1 hd]
    refine ⟨rfl, ?_⟩
    show (numB x0).size ≤ maxLen
    have := numB_size x0 hi.1 hi.2
    unfold maxLen; omega
  · refine (Tryz.strconv_FormatInt_10 x0 hi.1 hi.2 w (pow10G hg)).mono ?_
    rintro e w' ⟨rfl, n, os, rfl⟩
    exact ⟨rfl, kept_grow _ _ _⟩
noncomputable section
def ext22 : Ext := [(50, S50)]
theorem ext22Ok : ExtOk Tryz.prog ext22 := ⟨⟨ca50, con50⟩, trivial⟩
noncomputable def b22 : Code := bodyOf Tryz.f22
theorem hb22 : Tryz.f22.body = some b22 := by kernel_rfl
def sig22 : List AT := [AT.v (Ty.int .i64)]
def tys22 : List Ty := [Ty.str]
def kds22 : List RK := []
def oks22 : List AT := owns sig22
def P22 (x0 : Int) : Prop := ((P50 x0 10) ∧ True)
def g22_0 (x0 : Int) : ByteArray := g50_0 x0 10
theorem at22 (x0 : Int) (h : P22 x0) (K : Ctx) (q : Nat → Value) : AtV Tryz.prog 22 (PostR kds22 oks22 [⟨Ty.str, g22_0 x0⟩] [] [] q K) 5 K q [] [.code b22] (entE 0 0 sig22 (x0, ())) (entL sig22 (x0, ())) := by
  unfold P22 at h
  unfold g22_0
  obtain ⟨s0, h⟩ := h
  exact AtV.ret Tryz.func22 tabOk ext22Ok mixed false [] tys22 [] (a1 s0 trivial) (by kernel_rfl)
def S22 : Am.Spec := { sig := sig22, pre := fun ⟨x0, _⟩ => P22 x0, res := fun ⟨x0, _⟩ => [⟨Ty.str, g22_0 x0⟩], kds := kds22 }
theorem con22 : Contract Tryz.prog 22 S22 := contract_of Tryz.func22 hb22 (Nat.le_of_ble_eq_true (by kernel_rfl)) (fun ⟨x0, _⟩ h _ K q => at22 x0 h K q)
end
def sig106 : List AT := [AT.v (Ty.sl Ty.str), AT.v Ty.str]
def g106_0 (x0 : List ByteArray) (x1 : ByteArray) : ByteArray := ⟨(Lib.join (x0.map fun x => x.data.toList) x1.data.toList).toArray⟩
def P106 (x0 : List ByteArray) (x1 : ByteArray) : Prop := x0.length ≤ 1048576 ∧ (Lib.join (x0.map fun x => x.data.toList) x1.data.toList).length ≤ 140737488355328
def S106 : Am.Spec := { sig := sig106, pre := fun ⟨x0, x1, _⟩ => P106 x0 x1, res := fun ⟨x0, x1, _⟩ => [⟨Ty.str, g106_0 x0 x1⟩] }
theorem con106 : Contract Tryz.prog 106 S106 := contract_flat rfl fun w ⟨x0, x1, _⟩ vs bss hg hp hw ha => by
  obtain ⟨v0, s0, _, _, rfl, _, ⟨_, ho⟩, v1, s1, _, _, rfl, _, ⟨_, rfl, _⟩, rfl, _⟩ := ha
  obtain ⟨h0, h1⟩ : x0.length ≤ 1048576 ∧ (Lib.join (x0.map fun x => x.data.toList) x1.data.toList).length ≤ 140737488355328 := hp
  refine ⟨fun d hd => ?_, ?_⟩
  · rw [List.mem_singleton.1 hd]
    refine ⟨rfl, ?_⟩
    show (List.toArray _).size ≤ maxLen
    rw [List.size_toArray]; exact Nat.le_trans h1 (by decide)
  · obtain ⟨_, _, hcase⟩ := slAt_flat (t := .str) rfl ho
    rcases hcase with ⟨ad, rfl, rfl⟩ | ⟨b', off, cap, rfl, h2, h3, hG, hcells⟩
    · refine (Tryz.strings_Join_none ad 0 x1 w).mono ?_
      rintro e w' ⟨rfl, rfl⟩
      exact ⟨rfl, Kept.refl _ _⟩
    · refine (Tryz.strings_Join b' off cap x0 x1 w (fun j x hx => ?_) hG.1 (by omega) h2 h1).mono ?_
      · refine hcells j _ ?_
        have e : fcs .str x0 = x0.map Value.string := by
          have : ∀ xs : List ByteArray, fcs .str xs = xs.map Value.string := by
            intro xs
            induction xs with
            | nil => rfl
            | cons a r ih => unfold fcs at ih ⊢; rw [List.map_cons, List.flatten_cons, ih]; rfl
          exact this x0
        rw [e, List.getElem?_map, hx]
        rfl
      · rintro e w' ⟨rfl, hb⟩
        exact ⟨rfl, Kept.of_below hb⟩
noncomputable section
def ext104 : Ext := [(105, S105)]
theorem ext104Ok : ExtOk Tryz.prog ext104 := ⟨⟨ca105, con105⟩, trivial⟩
noncomputable def b104 : Code := bodyOf Tryz.f104
theorem hb104 : Tryz.f104.body = some b104 := by kernel_rfl
def sig104 : List AT := [AT.v (Ty.int .i64)]
def tys104 : List Ty := [Ty.bool]
def kds104 : List RK := []
def oks104 : List AT := owns sig104
def P104 (x0 : Int) : Prop := True
def g104_0 (x0 : Int) : Bool := !g105_0 x0
theorem at104 (x0 : Int) (h : P104 x0) (K : Ctx) (q : Nat → Value) : AtV Tryz.prog 104 (PostR kds104 oks104 [⟨Ty.bool, g104_0 x0⟩] [] [] q K) 6 K q [] [.code b104] (entE 0 0 sig104 (x0, ())) (entL sig104 (x0, ())) := by
  unfold P104 at h
  unfold g104_0
  exact AtV.ret Tryz.func104 tabOk ext104Ok mixed false [] tys104 [] (a1 trivial trivial) (by kernel_rfl)
def S104 : Am.Spec := { sig := sig104, pre := fun ⟨x0, _⟩ => P104 x0, res := fun ⟨x0, _⟩ => [⟨Ty.bool, g104_0 x0⟩], kds := kds104 }
theorem con104 : Contract Tryz.prog 104 S104 := contract_of Tryz.func104 hb104 (Nat.le_of_ble_eq_true (by kernel_rfl)) (fun ⟨x0, _⟩ h _ K q => at104 x0 h K q)
end
noncomputable section
def ext129c104 : Ext := [(104, S104)]
theorem ext129c104Ok : ExtOk Tryz.prog ext129c104 := ⟨⟨ca104, con104⟩, trivial⟩
noncomputable def b129c104 : Code := bodyOf Tryz.f129
theorem hb129c104 : Tryz.f129.body = some b129c104 := by kernel_rfl
def sig129c104 : List AT := [AT.v (Ty.sl (Ty.int .i64)), AT.fn 104 []]
def tys129c104 : List Ty := [Ty.int .i64]
def kds129c104 : List RK := []
def oks129c104 : List AT := owns sig129c104
def E129c104_2 (v8 : Int) (x0 : List Int) : Env := [(0, PV.a (Atom.sl (Ty.int .i64) x0)), (1, PV.fn 104 []), (7, PV.a (Atom.val (Value.int .i64 (↑(List.length x0) : Int)))), (8, PV.a (Atom.val (Value.int .i64 v8)))]
def L129c104_2 (v8 : Int) (x0 : List Int) : Heap := []
mutual
def R129c104 : Nat → List Int → List Dyn → Prop
  | 0, _, _ => False
  | n + 1, x0, ds => (R129c104_2 n (0) (x0) ds)
def R129c104_2 : Nat → Int → List Int → List Dyn → Prop
  | 0, _, _, _ => False
  | n + 1, v8, x0, ds => (if (decide (v8 < (↑(List.length x0) : Int))) = true then ((0 ≤ v8) ∧ (v8 < (↑(List.length x0) : Int)) ∧ (if (g104_0 (List.getD x0 (Int.toNat v8) 0)) = true then (ds = [Dyn.mk (Ty.int .i64) v8]) else ((InR .i64 (v8 + 1)) ∧ (R129c104_2 n (v8 + 1) (x0) ds)))) else (ds = [Dyn.mk (Ty.int .i64) (-1)]))
end
theorem snd129c104 : ∀ n, (∀ (x0 : List Int) ds, R129c104 n x0 ds → ∀ K q, AtV Tryz.prog 129 (PostR kds129c104 oks129c104 ds [] [] q K) 19 K q [] [.code b129c104] (entE 0 0 sig129c104 (x0, (), ())) (entL sig129c104 (x0, (), ()))) ∧ (∀ (v8 : Int) (x0 : List Int) ds, R129c104_2 n v8 x0 ds → ∀ K q, AtV Tryz.prog 129 (PostR kds129c104 oks129c104 ds [] [] q K) 19 K q [] (cutAt b129c104 2) (E129c104_2 v8 x0) (L129c104_2 v8 x0)) := by
  intro n
  induction n with
  | zero => exact ⟨fun _ _ h => by simp only [R129c104] at h, fun _ _ _ h => by simp only [R129c104_2] at h⟩
  | succ n ih =>
  obtain ⟨ih, ih2⟩ := ih
  refine ⟨?_, ?_⟩
  · intro x0 ds h K q
    rw [R129c104] at h
    exact AtV.go tabOk ext129c104Ok mixed false [] [] [0, 1, 7, 8] [] [] trivial (ih2 _ _ _ h K q) (by kernel_rfl)
  · intro v8 x0 ds h K q
    rw [R129c104_2] at h
    by_cases b0 : (decide (v8 < (↑(List.length x0) : Int))) = true
    · rw [if_pos b0] at h
      obtain ⟨s0, s1, h⟩ := h
      by_cases b1 : (g104_0 (List.getD x0 (Int.toNat v8) 0)) = true
      · rw [if_pos b1] at h
        subst h
        exact AtV.ret Tryz.func129 tabOk ext129c104Ok mixed false [] tys129c104 [true, true] (a1 b0 (a1 s0 (a1 s1 (a1 trivial (a1 b1 trivial))))) (by kernel_rfl)
      · rw [if_neg b1] at h
        replace b1 := Bool.eq_false_iff.2 b1
        obtain ⟨s2, h⟩ := h
        exact AtV.go tabOk ext129c104Ok mixed false [] [] [0, 1, 7, 8] [] [true, false] (a1 b0 (a1 s0 (a1 s1 (a1 trivial (a1 b1 (a1 s2 trivial)))))) (ih2 _ _ _ h K q) (by kernel_rfl)
    · rw [if_neg b0] at h
      replace b0 := Bool.eq_false_iff.2 b0
      subst h
      exact AtV.ret Tryz.func129 tabOk ext129c104Ok mixed false [] tys129c104 [false] (a1 b0 trivial) (by kernel_rfl)
def g129c104_0 (x0 : List (Int)) : Int := idx (x0.findIdx? g104_0)
def P129c104 (x0 : List (Int)) : Prop := True
theorem top129c104 (x0 : List (Int)) (hm : x0.length ≤ maxLen) : R129c104 (x0.length + 1 + 1) x0 [⟨.int .i64, g129c104_0 x0⟩] := by
  rw [R129c104]
  have key := loop_find x0 (0 : Int) g104_0 [(⟨.int .i64, -1⟩ : Dyn)] (fun k => [⟨.int .i64, k⟩]) (fun n i ds => R129c104_2 n i x0 ds) (fun n => ?_) (fun n i hi hok ds hr => ?_) (fun n i hi hok => ?_)
  · unfold g129c104_0
    cases h : x0.findIdx? g104_0 <;> rw [h] at key <;> exact key
  · rw [R129c104_2, if_neg (by simp)]
  · rw [R129c104_2, if_pos (by simp; omega)]
    simp only [Int.toNat_natCast]
    refine ⟨by omega, by omega, ?_⟩
    rw [if_neg (by rw [hok]; simp)]
    exact ⟨inR_up hm hi, hr⟩
  · rw [R129c104_2, if_pos (by simp; omega)]
    simp only [Int.toNat_natCast]
    refine ⟨by omega, by omega, ?_⟩
    rw [if_pos hok] <;> trivial
def S129c104 : Am.Spec := { sig := sig129c104, pre := fun ⟨x0, _⟩ => P129c104 x0, res := fun ⟨x0, _⟩ => [⟨Ty.int .i64, g129c104_0 x0⟩] }
theorem con129c104 : Contract Tryz.prog 129 S129c104 := contract_of Tryz.func129 hb129c104 (Nat.le_of_ble_eq_true (by kernel_rfl)) (fun ⟨x0, _⟩ h hwf K q =>
  (snd129c104 _).1 x0 _ (top129c104 x0 hwf.1.1) K q)
theorem any129c104 (x0 : List (Int)) : decide (g129c104_0 x0 ≥ 0) = x0.any g104_0 := by
  have := findIdx_any g104_0 x0
  unfold g129c104_0
  cases h : x0.any g104_0 with
  | true => rw [h] at this; simpa using this
  | false => rw [h] at this; simpa using this
end
noncomputable section
def ext103c104 : Ext := [(129, S129c104), (104, S104)]
theorem ext103c104Ok : ExtOk Tryz.prog ext103c104 := ⟨⟨ca129, con129c104⟩, ⟨ca104, con104⟩, trivial⟩
noncomputable def b103c104 : Code := bodyOf Tryz.f103
theorem hb103c104 : Tryz.f103.body = some b103c104 := by kernel_rfl
def sig103c104 : List AT := [AT.v (Ty.sl (Ty.int .i64)), AT.fn 104 []]
def tys103c104 : List Ty := [Ty.bool]
def kds103c104 : List RK := []
def oks103c104 : List AT := owns sig103c104
def P103c104 (x0 : List Int) : Prop := True
def g103c104_0 (x0 : List Int) : Bool := decide (g129c104_0 x0 ≥ 0)
theorem at103c104 (x0 : List Int) (h : P103c104 x0) (K : Ctx) (q : Nat → Value) : AtV Tryz.prog 103 (PostR kds103c104 oks103c104 [⟨Ty.bool, g103c104_0 x0⟩] [] [] q K) 9 K q [] [.code b103c104] (entE 0 0 sig103c104 (x0, (), ())) (entL sig103c104 (x0, (), ())) := by
  unfold P103c104 at h
  unfold g103c104_0
  exact AtV.ret Tryz.func103 tabOk ext103c104Ok mixed false [] tys103c104 [] (a1 trivial trivial) (by kernel_rfl)
def S103c104 : Am.Spec := { sig := sig103c104, pre := fun ⟨x0, _⟩ => P103c104 x0, res := fun ⟨x0, _⟩ => [⟨Ty.bool, g103c104_0 x0⟩], kds := kds103c104 }
theorem con103c104 : Contract Tryz.prog 103 S103c104 := contract_of Tryz.func103 hb103c104 (Nat.le_of_ble_eq_true (by kernel_rfl)) (fun ⟨x0, _⟩ h _ K q => at103c104 x0 h K q)
end
noncomputable section
def ext68 : Ext := [(22, S22), (106, S106), (103, S103c104)]
theorem ext68Ok : ExtOk Tryz.prog ext68 := ⟨⟨ca22, con22⟩, ⟨ca106, con106⟩, ⟨ca103, con103c104⟩, trivial⟩
noncomputable def b68 : Code := bodyOf Tryz.f68
theorem hb68 : Tryz.f68.body = some b68 := by kernel_rfl
def sig68 : List AT := [AT.v (Ty.sl (Ty.int .i64))]
def tys68 : List Ty := [Ty.str]
def kds68 : List RK := []
def oks68 : List AT := owns sig68
def E68_7 (v18 : Int) (h0 : List ByteArray) (x0 : List Int) : Env := [(3, PV.a (Atom.osl 0 Option.none)), (16, PV.a (Atom.sl (Ty.int .i64) x0)), (17, PV.a (Atom.val (Value.int .i64 (↑(List.length x0) : Int)))), (18, PV.a (Atom.val (Value.int .i64 v18)))]
def L68_7 (v18 : Int) (h0 : List ByteArray) (x0 : List Int) : Heap := [Option.some (Arr.mk Ty.str h0 false Option.none Option.none)]
mutual
def R68 : Nat → List Int → List Dyn → Prop
  | 0, _, _ => False
  | n + 1, x0, ds => (if (decide ((↑(List.length x0) : Int) > 64)) = true then (ds = [Dyn.mk Ty.str (ByteArray.mk #[])]) else (if (g103c104_0 x0) = true then (ds = [Dyn.mk Ty.str (ByteArray.mk #[])]) else (if ((↑(List.length x0) : Int) == 0) = true then (ds = [Dyn.mk Ty.str (ByteArray.mk #[45])]) else (R68_7 n (0) ([]) (x0) ds))))
def R68_7 : Nat → Int → List ByteArray → List Int → List Dyn → Prop
  | 0, _, _, _, _ => False
  | n + 1, v18, h0, x0, ds => (if (decide (v18 < (↑(List.length x0) : Int))) = true then ((0 ≤ v18) ∧ (v18 < (↑(List.length x0) : Int)) ∧ ((P22 (List.getD x0 (Int.toNat v18) 0)) ∧ (((List.length h0 + 1) * 16 ≤ 140737488355328) ∧ ((InR .i64 (v18 + 1)) ∧ (R68_7 n (v18 + 1) (h0 ++ [g22_0 (List.getD x0 (Int.toNat v18) 0)]) (x0) ds))))) else ((P106 h0 (ByteArray.mk #[44])) ∧ (ds = [Dyn.mk Ty.str (g106_0 h0 (ByteArray.mk #[44]))])))
end
theorem snd68 : ∀ n, (∀ (x0 : List Int) ds, R68 n x0 ds → ∀ K q, AtV Tryz.prog 68 (PostR kds68 oks68 ds [] [] q K) 30 K q [] [.code b68] (entE 0 0 sig68 (x0, ())) (entL sig68 (x0, ()))) ∧ (∀ (v18 : Int) (h0 : List ByteArray) (x0 : List Int) ds, R68_7 n v18 h0 x0 ds → ∀ K q, AtV Tryz.prog 68 (PostR kds68 oks68 ds [] [] q K) 30 K q [] (cutAt b68 7) (E68_7 v18 h0 x0) (L68_7 v18 h0 x0)) := by
  intro n
  induction n with
  | zero => exact ⟨fun _ _ h => by simp only [R68] at h, fun _ _ _ _ h => by simp only [R68_7] at h⟩
  | succ n ih =>
  obtain ⟨ih, ih7⟩ := ih
  refine ⟨?_, ?_⟩
  · intro x0 ds h K q
    rw [R68] at h
    by_cases b0 : (decide ((↑(List.length x0) : Int) > 64)) = true
    · rw [if_pos b0] at h
      subst h
      exact AtV.ret Tryz.func68 tabOk ext68Ok mixed false [] tys68 [true, true] (a1 b0 (a1 (rfl : true = true) trivial)) (by kernel_rfl)
    · rw [if_neg b0] at h
      replace b0 := Bool.eq_false_iff.2 b0
      by_cases b1 : (g103c104_0 x0) = true
      · rw [if_pos b1] at h
        subst h
        exact AtV.ret Tryz.func68 tabOk ext68Ok mixed false [] tys68 [false, true] (a1 b0 (a1 trivial (a1 b1 trivial))) (by kernel_rfl)
      · rw [if_neg b1] at h
        replace b1 := Bool.eq_false_iff.2 b1
        by_cases b2 : ((↑(List.length x0) : Int) == 0) = true
        · rw [if_pos b2] at h
          subst h
          exact AtV.ret Tryz.func68 tabOk ext68Ok mixed false [] tys68 [false, false, true] (a1 b0 (a1 trivial (a1 b1 (a1 b2 trivial)))) (by kernel_rfl)
        · rw [if_neg b2] at h
          replace b2 := Bool.eq_false_iff.2 b2
          exact AtV.go tabOk ext68Ok mixed false [] [(3, Ty.str)] [3, 16, 17, 18] [0] [false, false, false] (a1 b0 (a1 trivial (a1 b1 (a1 b2 trivial)))) (ih7 _ _ _ _ h K q) (by kernel_rfl)
  · intro v18 h0 x0 ds h K q
    rw [R68_7] at h
    by_cases b0 : (decide (v18 < (↑(List.length x0) : Int))) = true
    · rw [if_pos b0] at h
      obtain ⟨s0, s1, h⟩ := h
      obtain ⟨s2, h⟩ := h
      obtain ⟨s3, h⟩ := h
      obtain ⟨s4, h⟩ := h
      exact AtV.go tabOk ext68Ok mixed false [] [(3, Ty.str)] [3, 16, 17, 18] [0] [true] (a1 b0 (a1 s0 (a1 s1 (a1 s2 (a1 s3 (a1 s4 trivial)))))) (ih7 _ _ _ _ h K q) (by kernel_rfl)
    · rw [if_neg b0] at h
      replace b0 := Bool.eq_false_iff.2 b0
      obtain ⟨s0, h⟩ := h
      subst h
      exact AtV.ret Tryz.func68 tabOk ext68Ok mixed false [] tys68 [false] (a1 b0 (a1 s0 trivial)) (by kernel_rfl)
def g68_0 (x0 : List Int) : ByteArray := if x0.length > 64 then ByteArray.mk #[] else if g103c104_0 x0 = true then ByteArray.mk #[] else if x0.length = 0 then ByteArray.mk #[45] else g106_0 (x0.map g22_0) (ByteArray.mk #[44])
def P68 (x0 : List Int) : Prop := True
theorem dsz68 (x : Int) (h : InR .i64 x) : (g22_0 x).size ≤ 21 := by
  rw [i64_iff] at h
  exact numB_size x (by omega) (by omega)
theorem pdec68 (x : Int) : P22 x := ⟨rfl, trivial⟩
theorem lens68 : ∀ (xs : List Int), (∀ x ∈ xs, InR .i64 x) → Lib.lens (xs.map fun x => (g22_0 x).data.toList) ≤ 21 * xs.length
  | [], _ => by simp [Lib.lens]
  | x :: r, h => by
    have ih := lens68 r fun y hy => h y (List.mem_cons_of_mem _ hy)
    have hx := dsz68 x (h x (List.mem_cons_self ..))
    have e : (g22_0 x).data.toList.length = (g22_0 x).size := rfl
    unfold Lib.lens at ih ⊢
    simp only [List.map_cons, List.sum_cons, List.length_cons, e] at ih ⊢
    omega
theorem join68 (xs : List Int) (hx : ∀ x ∈ xs, InR .i64 x) (hl : xs.length ≤ 64) : P106 (xs.map g22_0) (ByteArray.mk #[44]) := by
  refine ⟨by simp; omega, ?_⟩
  rw [List.map_map]
  cases xs with
  | nil => simp [Lib.join, List.intercalate]
  | cons x r =>
    have h := lens68 (x :: r) hx
    rw [List.map_cons] at h ⊢
    rw [Lib.join_length]
    have e : (ByteArray.mk #[44]).data.toList.length = 1 := rfl
    rw [e]
    simp only [List.length_map, List.length_cons] at *
    have h' : Lib.lens (((fun x : ByteArray => x.data.toList) ∘ g22_0) x :: List.map ((fun x : ByteArray => x.data.toList) ∘ g22_0) r) ≤ 21 * (r.length + 1) := h
    omega
theorem top68 (x0 : List Int) (hx : ∀ x ∈ x0, InR .i64 x) : R68 (x0.length + 1 + 1) x0 [⟨.str, g68_0 x0⟩] := by
  rw [R68]
  unfold g68_0
  by_cases h1 : x0.length > 64
  · rw [if_pos (by simp; omega), if_pos h1]
  · rw [if_neg (by simp; omega), if_neg h1]
    by_cases h2 : g103c104_0 x0 = true
    · rw [if_pos h2, if_pos h2]
    · rw [if_neg h2, if_neg h2]
      by_cases h0 : x0.length = 0
      · rw [if_pos (by simp [h0]), if_pos h0]
      · rw [if_neg (by simp only [beq_iff_eq]; omega), if_neg h0]
        have hm : x0.length ≤ maxLen := by unfold maxLen; omega
        have key := loop_fold (b := []) x0 0 (fun (h : List ByteArray) b => h ++ [g22_0 b]) (fun h => [(⟨.str, g106_0 h (ByteArray.mk #[44])⟩ : Dyn)]) (fun i h => h.length ≤ i ∧ h = (x0.take i).map g22_0) (fun n i h ds => R68_7 n i h x0 ds) (by simp) (fun n h hb => ?_) (fun n i h hi hl => ⟨⟨len_up hl.1, ?_⟩, fun ds hr => ?_⟩)
        · rw [foldl_snoc] at key
          simpa using key
        · show R68_7 (n + 1) x0.length h x0 _
          rw [R68_7, if_neg (by simp)]
          refine ⟨?_, rfl⟩
          rw [hb.2, List.take_length]
          exact join68 x0 hx (by omega)
        · rw [hl.2, List.take_add_one, getD_of_lt x0 i 0 hi]
          simp
        · obtain ⟨hl, _⟩ := hl
          rw [R68_7, if_pos (by simp; omega)]
          simp only [Int.toNat_natCast]
          exact ⟨by omega, by omega, pdec68 _, by omega, inR_up hm hi, hr⟩
def S68 : Am.Spec := { sig := sig68, pre := fun ⟨x0, _⟩ => P68 x0, res := fun ⟨x0, _⟩ => [⟨Ty.str, g68_0 x0⟩] }
theorem con68 : Contract Tryz.prog 68 S68 := contract_of Tryz.func68 hb68 (Nat.le_of_ble_eq_true (by kernel_rfl)) (fun ⟨x0, _⟩ h hwf K q =>
  (snd68 _).1 x0 _ (top68 x0 hwf.1.2) K q)
end
theorem list_size {xs : List Int} (h1 : xs.length ≤ 64) (hx : ∀ x ∈ xs, InR .i64 x) : (g74_0 xs).size ≤ 2000 := by
  have key : ∀ (r : List Int) (i : Nat) (o : ByteArray), (∀ x ∈ r, InR .i64 x) → (ap74 i o r).size ≤ o.size + 22 * r.length := by
    intro r
    induction r with
    | nil => intro i o _; simp [ap74]
    | cons x r ih =>
      intro i o hx
      have hr := hx x (List.mem_cons_self ..)
      rw [i64_iff] at hr
      have hs : (g64_0 x).size ≤ 21 := numB_size _ (by omega) (by omega)
      have i44 : (ByteArray.mk #[44]).size = 1 := rfl
      unfold ap74
      refine Nat.le_trans (ih _ _ fun y hy => hx y (List.mem_cons_of_mem _ hy)) ?_
      rw [ByteArray.size_append, List.length_cons]
      split
      · rw [ByteArray.size_append, i44]; omega
      · omega
  unfold g74_0
  split
  · exact (show (1 : Nat) ≤ 2000 by decide)
  · have := key xs 0 (ByteArray.mk #[]) hx
    have i0 : (ByteArray.mk #[]).size = 0 := rfl
    omega
theorem draw_check {n : Int} {s : (List Int × Int × Int × Unit)} (h : SrcOk n s) (hn : n ≤ 4000000000000000000) (id : ByteArray) :
    P66 s id ∧ SrcOk (n + 8) (u66_0 s id) ∧ (g66_0 s id).1 = id ∧
    (g66_0 s id).2.1 ∈ [1, 7, 30, 365] ∧ (50 ≤ (g66_0 s id).2.2.1 ∧ (g66_0 s id).2.2.1 ≤ 3000) ∧ (0 ≤ (g66_0 s id).2.2.2.1 ∧ (g66_0 s id).2.2.2.1 < 60) ∧ (0 ≤ (g66_0 s id).2.2.2.2.1 ∧ (g66_0 s id).2.2.2.2.1 < 3000) := by
  obtain ⟨p1, s1, m1⟩ := among_ok h [1, 7, 30, 365] (by decide) (by omega)
  obtain ⟨p2, s2, a2, b2, _⟩ := pick_ok s1 60 (by omega)
  obtain ⟨p3, s3, a3, b3, _⟩ := pick_ok s2 60 (by omega)
  obtain ⟨p4, s4, a4, b4, _⟩ := pick_ok s3 3000 (by omega)
  have b2 := b2 (by decide)
  have b3 := b3 (by decide)
  have b4 := b4 (by decide)
  unfold P66 u66_0 g66_0
  exact ⟨⟨p1, p2, p3, by rw [i64_iff]; omega, by rw [i64_iff]; omega, p4, trivial⟩, s4.up (by omega), rfl, m1, ⟨by show 50 ≤ 50 * _; omega, by show 50 * _ ≤ 3000; omega⟩, ⟨a2, b2⟩, a4, b4⟩
theorem text_check {x : TyB0} (hs : x.1.size ≤ 1048576) (hI : ∀ y ∈ [x.2.1, x.2.2.1, x.2.2.2.1, x.2.2.2.2.1], InR .i64 y) : P44 x ∧ (g44_0 x).size ≤ 1048576 + 3000 := by
  have hl := list_size (xs := [x.2.1, x.2.2.1, x.2.2.2.1, x.2.2.2.2.1]) (by simp) hI
  have i32 : (ByteArray.mk #[32]).size = 1 := rfl
  unfold P44 g44_0
  simp only [ByteArray.size_append, i32]
  exact ⟨⟨by omega, ⟨by simp, hI⟩, by omega, trivial⟩, by omega⟩
noncomputable section
def ext47 : Ext := [(77, S77), (78, S78), (79, S79), (66, S66), (44, S44), (45, S45)]
theorem ext47Ok : ExtOk Tryz.prog ext47 := ⟨⟨ca77, con77⟩, ⟨ca78, con78⟩, ⟨ca79, con79⟩, ⟨ca66, con66⟩, ⟨ca44, con44⟩, ⟨ca45, con45⟩, trivial⟩
noncomputable def b47 : Code := bodyOf Tryz.f47
theorem hb47 : Tryz.f47.body = some b47 := by kernel_rfl
def sig47 : List AT := [AT.pb YA2]
def tys47 : List Ty := [Ty.cons Ty.str YA5]
def kds47 : List RK := []
def oks47 : List AT := owns sig47
def E47_6 (h0 : List Int × Int × Int × Unit) (h2 : ByteArray × ByteArray × ByteArray × Unit) : Env := [(0, PV.a (Atom.optr 0 0 [])), (2, PV.a (Atom.optr 1 0 [])), (3, PV.a (Atom.optr 2 0 []))]
def L47_6 (h0 : List Int × Int × Int × Unit) (h2 : ByteArray × ByteArray × ByteArray × Unit) : Heap := [Option.some (Arr.mk YA2 [h0] true Option.none (Option.some true)), Option.some (Arr.mk YA3 [(ByteArray.empty, ByteArray.empty, ByteArray.empty, ())] true Option.none (Option.some false)), Option.some (Arr.mk YA3 [h2] true Option.none (Option.some false))]
def E47_9 (h0 : List Int × Int × Int × Unit) (h2 : ByteArray × ByteArray × ByteArray × Unit) : Env := [(0, PV.a (Atom.optr 0 0 [])), (2, PV.a (Atom.optr 1 0 [])), (3, PV.a (Atom.optr 2 0 []))]
def L47_9 (h0 : List Int × Int × Int × Unit) (h2 : ByteArray × ByteArray × ByteArray × Unit) : Heap := [Option.some (Arr.mk YA2 [h0] true Option.none (Option.some true)), Option.some (Arr.mk YA3 [(ByteArray.empty, ByteArray.empty, ByteArray.empty, ())] true Option.none (Option.some false)), Option.some (Arr.mk YA3 [h2] true Option.none (Option.some false))]
def E47_11 (h0 : List Int × Int × Int × Unit) (h2 : ByteArray × ByteArray × ByteArray × Unit) : Env := [(0, PV.a (Atom.optr 0 0 [])), (2, PV.a (Atom.optr 1 0 [])), (3, PV.a (Atom.optr 2 0 []))]
def L47_11 (h0 : List Int × Int × Int × Unit) (h2 : ByteArray × ByteArray × ByteArray × Unit) : Heap := [Option.some (Arr.mk YA2 [h0] true Option.none (Option.some true)), Option.some (Arr.mk YA3 [(ByteArray.empty, ByteArray.empty, ByteArray.empty, ())] true Option.none (Option.some false)), Option.some (Arr.mk YA3 [h2] true Option.none (Option.some false))]
mutual
def R47 : Nat → List Int × Int × Int × Unit → List Dyn → List (Option Lst) → Prop
  | 0, _, _, _ => False
  | n + 1, x0, ds, us => ((P77 x0 [ByteArray.mk #[99, 104, 101, 99, 107], ByteArray.mk #[110, 111, 116, 101], ByteArray.mk #[102, 97, 99, 101]]) ∧ ((P77 (u77_0 x0 [ByteArray.mk #[99, 104, 101, 99, 107], ByteArray.mk #[110, 111, 116, 101], ByteArray.mk #[102, 97, 99, 101]]) [ByteArray.mk #[97], ByteArray.mk #[98], ByteArray.mk #[99], ByteArray.mk #[100]]) ∧ ((P77 (u77_0 (u77_0 x0 [ByteArray.mk #[99, 104, 101, 99, 107], ByteArray.mk #[110, 111, 116, 101], ByteArray.mk #[102, 97, 99, 101]]) [ByteArray.mk #[97], ByteArray.mk #[98], ByteArray.mk #[99], ByteArray.mk #[100]]) [ByteArray.mk #[], ByteArray.mk #[120], ByteArray.mk #[97, 32, 98, 32, 99], ByteArray.mk #[49, 50, 32, 51, 52], ByteArray.mk #[111, 97, 107, 47, 52, 48]]) ∧ ((P78 (u77_0 (u77_0 (u77_0 x0 [ByteArray.mk #[99, 104, 101, 99, 107], ByteArray.mk #[110, 111, 116, 101], ByteArray.mk #[102, 97, 99, 101]]) [ByteArray.mk #[97], ByteArray.mk #[98], ByteArray.mk #[99], ByteArray.mk #[100]]) [ByteArray.mk #[], ByteArray.mk #[120], ByteArray.mk #[97, 32, 98, 32, 99], ByteArray.mk #[49, 50, 32, 51, 52], ByteArray.mk #[111, 97, 107, 47, 52, 48]]) 4) ∧ (if (g78_0 (u77_0 (u77_0 (u77_0 x0 [ByteArray.mk #[99, 104, 101, 99, 107], ByteArray.mk #[110, 111, 116, 101], ByteArray.mk #[102, 97, 99, 101]]) [ByteArray.mk #[97], ByteArray.mk #[98], ByteArray.mk #[99], ByteArray.mk #[100]]) [ByteArray.mk #[], ByteArray.mk #[120], ByteArray.mk #[97, 32, 98, 32, 99], ByteArray.mk #[49, 50, 32, 51, 52], ByteArray.mk #[111, 97, 107, 47, 52, 48]]) 4) = true then ((P79 (u78_0 (u77_0 (u77_0 (u77_0 x0 [ByteArray.mk #[99, 104, 101, 99, 107], ByteArray.mk #[110, 111, 116, 101], ByteArray.mk #[102, 97, 99, 101]]) [ByteArray.mk #[97], ByteArray.mk #[98], ByteArray.mk #[99], ByteArray.mk #[100]]) [ByteArray.mk #[], ByteArray.mk #[120], ByteArray.mk #[97, 32, 98, 32, 99], ByteArray.mk #[49, 50, 32, 51, 52], ByteArray.mk #[111, 97, 107, 47, 52, 48]]) 4) 9) ∧ ((ByteArray.size (g77_0 (u77_0 (u77_0 x0 [ByteArray.mk #[99, 104, 101, 99, 107], ByteArray.mk #[110, 111, 116, 101], ByteArray.mk #[102, 97, 99, 101]]) [ByteArray.mk #[97], ByteArray.mk #[98], ByteArray.mk #[99], ByteArray.mk #[100]]) [ByteArray.mk #[], ByteArray.mk #[120], ByteArray.mk #[97, 32, 98, 32, 99], ByteArray.mk #[49, 50, 32, 51, 52], ByteArray.mk #[111, 97, 107, 47, 52, 48]]) + ByteArray.size (g79_0 (u78_0 (u77_0 (u77_0 (u77_0 x0 [ByteArray.mk #[99, 104, 101, 99, 107], ByteArray.mk #[110, 111, 116, 101], ByteArray.mk #[102, 97, 99, 101]]) [ByteArray.mk #[97], ByteArray.mk #[98], ByteArray.mk #[99], ByteArray.mk #[100]]) [ByteArray.mk #[], ByteArray.mk #[120], ByteArray.mk #[97, 32, 98, 32, 99], ByteArray.mk #[49, 50, 32, 51, 52], ByteArray.mk #[111, 97, 107, 47, 52, 48]]) 4) 9) ≤ 9223372036854775807) ∧ (R47_6 n (u79_0 (u78_0 (u77_0 (u77_0 (u77_0 x0 [ByteArray.mk #[99, 104, 101, 99, 107], ByteArray.mk #[110, 111, 116, 101], ByteArray.mk #[102, 97, 99, 101]]) [ByteArray.mk #[97], ByteArray.mk #[98], ByteArray.mk #[99], ByteArray.mk #[100]]) [ByteArray.mk #[], ByteArray.mk #[120], ByteArray.mk #[97, 32, 98, 32, 99], ByteArray.mk #[49, 50, 32, 51, 52], ByteArray.mk #[111, 97, 107, 47, 52, 48]]) 4) 9) ((g77_0 x0 [ByteArray.mk #[99, 104, 101, 99, 107], ByteArray.mk #[110, 111, 116, 101], ByteArray.mk #[102, 97, 99, 101]], g77_0 (u77_0 x0 [ByteArray.mk #[99, 104, 101, 99, 107], ByteArray.mk #[110, 111, 116, 101], ByteArray.mk #[102, 97, 99, 101]]) [ByteArray.mk #[97], ByteArray.mk #[98], ByteArray.mk #[99], ByteArray.mk #[100]], g77_0 (u77_0 (u77_0 x0 [ByteArray.mk #[99, 104, 101, 99, 107], ByteArray.mk #[110, 111, 116, 101], ByteArray.mk #[102, 97, 99, 101]]) [ByteArray.mk #[97], ByteArray.mk #[98], ByteArray.mk #[99], ByteArray.mk #[100]]) [ByteArray.mk #[], ByteArray.mk #[120], ByteArray.mk #[97, 32, 98, 32, 99], ByteArray.mk #[49, 50, 32, 51, 52], ByteArray.mk #[111, 97, 107, 47, 52, 48]] ++ g79_0 (u78_0 (u77_0 (u77_0 (u77_0 x0 [ByteArray.mk #[99, 104, 101, 99, 107], ByteArray.mk #[110, 111, 116, 101], ByteArray.mk #[102, 97, 99, 101]]) [ByteArray.mk #[97], ByteArray.mk #[98], ByteArray.mk #[99], ByteArray.mk #[100]]) [ByteArray.mk #[], ByteArray.mk #[120], ByteArray.mk #[97, 32, 98, 32, 99], ByteArray.mk #[49, 50, 32, 51, 52], ByteArray.mk #[111, 97, 107, 47, 52, 48]]) 4) 9, ())) ds us))) else (R47_6 n (u78_0 (u77_0 (u77_0 (u77_0 x0 [ByteArray.mk #[99, 104, 101, 99, 107], ByteArray.mk #[110, 111, 116, 101], ByteArray.mk #[102, 97, 99, 101]]) [ByteArray.mk #[97], ByteArray.mk #[98], ByteArray.mk #[99], ByteArray.mk #[100]]) [ByteArray.mk #[], ByteArray.mk #[120], ByteArray.mk #[97, 32, 98, 32, 99], ByteArray.mk #[49, 50, 32, 51, 52], ByteArray.mk #[111, 97, 107, 47, 52, 48]]) 4) ((g77_0 x0 [ByteArray.mk #[99, 104, 101, 99, 107], ByteArray.mk #[110, 111, 116, 101], ByteArray.mk #[102, 97, 99, 101]], g77_0 (u77_0 x0 [ByteArray.mk #[99, 104, 101, 99, 107], ByteArray.mk #[110, 111, 116, 101], ByteArray.mk #[102, 97, 99, 101]]) [ByteArray.mk #[97], ByteArray.mk #[98], ByteArray.mk #[99], ByteArray.mk #[100]], g77_0 (u77_0 (u77_0 x0 [ByteArray.mk #[99, 104, 101, 99, 107], ByteArray.mk #[110, 111, 116, 101], ByteArray.mk #[102, 97, 99, 101]]) [ByteArray.mk #[97], ByteArray.mk #[98], ByteArray.mk #[99], ByteArray.mk #[100]]) [ByteArray.mk #[], ByteArray.mk #[120], ByteArray.mk #[97, 32, 98, 32, 99], ByteArray.mk #[49, 50, 32, 51, 52], ByteArray.mk #[111, 97, 107, 47, 52, 48]], ())) ds us))))))
def R47_6 : Nat → List Int × Int × Int × Unit → ByteArray × ByteArray × ByteArray × Unit → List Dyn → List (Option Lst) → Prop
  | 0, _, _, _, _ => False
  | n + 1, h0, h2, ds, us => (if (ByteArray.toList h2.1 == ByteArray.toList (ByteArray.mk #[99, 104, 101, 99, 107])) = true then ((P78 h0 2) ∧ (if (g78_0 h0 2) = true then ((P66 (u78_0 h0 2) h2.2.1) ∧ ((P44 (h2.2.1, g100_0 (u78_0 h0 2) [1, 7, 30, 365], 50 * (1 + g45_0 (u45_0 (u100_0 (u78_0 h0 2) [1, 7, 30, 365]) 60) 60), g45_0 (u100_0 (u78_0 h0 2) [1, 7, 30, 365]) 60, g45_0 (u45_0 (u45_0 (u100_0 (u78_0 h0 2) [1, 7, 30, 365]) 60) 60) 3000, ())) ∧ (R47_9 n (u66_0 (u78_0 h0 2) h2.2.1) ((h2.1, h2.2.1, g44_0 (h2.2.1, g100_0 (u78_0 h0 2) [1, 7, 30, 365], 50 * (1 + g45_0 (u45_0 (u100_0 (u78_0 h0 2) [1, 7, 30, 365]) 60) 60), g45_0 (u100_0 (u78_0 h0 2) [1, 7, 30, 365]) 60, g45_0 (u45_0 (u45_0 (u100_0 (u78_0 h0 2) [1, 7, 30, 365]) 60) 60) 3000, ()), ())) ds us))) else (R47_9 n (u78_0 h0 2) (h2) ds us))) else (R47_9 n (h0) (h2) ds us))
def R47_9 : Nat → List Int × Int × Int × Unit → ByteArray × ByteArray × ByteArray × Unit → List Dyn → List (Option Lst) → Prop
  | 0, _, _, _, _ => False
  | n + 1, h0, h2, ds, us => ((P78 h0 24) ∧ (if (g78_0 h0 24) = true then ((P45 (u78_0 h0 24) 3) ∧ ((InR .i64 (399 + g45_0 (u78_0 h0 24) 3)) ∧ ((0 ≤ 399 + g45_0 (u78_0 h0 24) 3) ∧ (399 + g45_0 (u78_0 h0 24) 3 ≤ 399 + g45_0 (u78_0 h0 24) 3) ∧ (1 * (399 + g45_0 (u78_0 h0 24) 3) ≤ 281474976710656) ∧ (R47_11 n (u45_0 (u78_0 h0 24) 3) ((h2.1, h2.2.1, bytesStr (List.replicate (Int.toNat (399 + g45_0 (u78_0 h0 24) 3)) 0), ())) ds us)))) else (R47_11 n (u78_0 h0 24) (h2) ds us)))
def R47_11 : Nat → List Int × Int × Int × Unit → ByteArray × ByteArray × ByteArray × Unit → List Dyn → List (Option Lst) → Prop
  | 0, _, _, _, _ => False
  | n + 1, h0, h2, ds, us => (ds = [Dyn.mk YA3 h2] ∧ us = [Option.some (Lst.mk YA2 [h0])])
end
theorem snd47 : ∀ n, (∀ (x0 : List Int × Int × Int × Unit) ds us, R47 n x0 ds us → ∀ K q, AtV Tryz.prog 47 (PostR kds47 oks47 ds us [0] q K) 47 K q [0] [.code b47] (entE 0 0 sig47 (x0, ())) (entL sig47 (x0, ()))) ∧ (∀ (h0 : List Int × Int × Int × Unit) (h2 : ByteArray × ByteArray × ByteArray × Unit) ds us, R47_6 n h0 h2 ds us → ∀ K q, AtV Tryz.prog 47 (PostR kds47 oks47 ds us [0] q K) 47 K q [0] (cutAt b47 6) (E47_6 h0 h2) (L47_6 h0 h2)) ∧ (∀ (h0 : List Int × Int × Int × Unit) (h2 : ByteArray × ByteArray × ByteArray × Unit) ds us, R47_9 n h0 h2 ds us → ∀ K q, AtV Tryz.prog 47 (PostR kds47 oks47 ds us [0] q K) 47 K q [0] (cutAt b47 9) (E47_9 h0 h2) (L47_9 h0 h2)) ∧ (∀ (h0 : List Int × Int × Int × Unit) (h2 : ByteArray × ByteArray × ByteArray × Unit) ds us, R47_11 n h0 h2 ds us → ∀ K q, AtV Tryz.prog 47 (PostR kds47 oks47 ds us [0] q K) 47 K q [0] (cutAt b47 11) (E47_11 h0 h2) (L47_11 h0 h2)) := by
  intro n
  induction n with
  | zero => exact ⟨fun _ _ _ h => by simp only [R47] at h, fun _ _ _ _ h => by simp only [R47_6] at h, fun _ _ _ _ h => by simp only [R47_9] at h, fun _ _ _ _ h => by simp only [R47_11] at h⟩
  | succ n ih =>
  obtain ⟨ih, ih6, ih9, ih11⟩ := ih
  refine ⟨?_, ?_, ?_, ?_⟩
  · intro x0 ds us h K q
    rw [R47] at h
    obtain ⟨s0, h⟩ := h
    obtain ⟨s1, h⟩ := h
    obtain ⟨s2, h⟩ := h
    obtain ⟨s3, h⟩ := h
    by_cases b0 : (g78_0 (u77_0 (u77_0 (u77_0 x0 [ByteArray.mk #[99, 104, 101, 99, 107], ByteArray.mk #[110, 111, 116, 101], ByteArray.mk #[102, 97, 99, 101]]) [ByteArray.mk #[97], ByteArray.mk #[98], ByteArray.mk #[99], ByteArray.mk #[100]]) [ByteArray.mk #[], ByteArray.mk #[120], ByteArray.mk #[97, 32, 98, 32, 99], ByteArray.mk #[49, 50, 32, 51, 52], ByteArray.mk #[111, 97, 107, 47, 52, 48]]) 4) = true
    · rw [if_pos b0] at h
      obtain ⟨s4, h⟩ := h
      obtain ⟨s5, h⟩ := h
      exact AtV.go tabOk ext47Ok mixed false [6, 9, 11] [] [0, 2, 3] [0, 1, 3] [true] (a1 s0 (a1 s1 (a1 s2 (a1 s3 (a1 b0 (a1 s4 (a1 s5 trivial))))))) (ih6 _ _ _ _ h K q) (by kernel_rfl)
    · rw [if_neg b0] at h
      replace b0 := Bool.eq_false_iff.2 b0
      exact AtV.go tabOk ext47Ok mixed false [6, 9, 11] [] [0, 2, 3] [0, 1, 3] [false] (a1 s0 (a1 s1 (a1 s2 (a1 s3 (a1 b0 trivial))))) (ih6 _ _ _ _ h K q) (by kernel_rfl)
  · intro h0 h2 ds us h K q
    rw [R47_6] at h
    by_cases b0 : (ByteArray.toList h2.1 == ByteArray.toList (ByteArray.mk #[99, 104, 101, 99, 107])) = true
    · rw [if_pos b0] at h
      obtain ⟨s0, h⟩ := h
      by_cases b1 : (g78_0 h0 2) = true
      · rw [if_pos b1] at h
        obtain ⟨s1, h⟩ := h
        obtain ⟨s2, h⟩ := h
        exact AtV.go tabOk ext47Ok mixed false [6, 9, 11] [] [0, 2, 3] [0, 1, 2] [true, true] (a1 b0 (a1 s0 (a1 b1 (a1 s1 (a1 s2 trivial))))) (ih9 _ _ _ _ h K q) (by kernel_rfl)
      · rw [if_neg b1] at h
        replace b1 := Bool.eq_false_iff.2 b1
        exact AtV.go tabOk ext47Ok mixed false [6, 9, 11] [] [0, 2, 3] [0, 1, 2] [true, false] (a1 b0 (a1 s0 (a1 b1 trivial))) (ih9 _ _ _ _ h K q) (by kernel_rfl)
    · rw [if_neg b0] at h
      replace b0 := Bool.eq_false_iff.2 b0
      exact AtV.go tabOk ext47Ok mixed false [6, 9, 11] [] [0, 2, 3] [0, 1, 2] [false, false] (a1 b0 (a1 (rfl : false = false) trivial)) (ih9 _ _ _ _ h K q) (by kernel_rfl)
  · intro h0 h2 ds us h K q
    rw [R47_9] at h
    obtain ⟨s0, h⟩ := h
    by_cases b0 : (g78_0 h0 24) = true
    · rw [if_pos b0] at h
      obtain ⟨s1, h⟩ := h
      obtain ⟨s2, h⟩ := h
      obtain ⟨s3, s4, s5, h⟩ := h
      exact AtV.go tabOk ext47Ok mixed false [6, 9, 11] [] [0, 2, 3] [0, 1, 2] [true] (a1 s0 (a1 b0 (a1 s1 (a1 s2 (a1 s3 (a1 s4 (a1 s5 trivial))))))) (ih11 _ _ _ _ h K q) (by kernel_rfl)
    · rw [if_neg b0] at h
      replace b0 := Bool.eq_false_iff.2 b0
      exact AtV.go tabOk ext47Ok mixed false [6, 9, 11] [] [0, 2, 3] [0, 1, 2] [false] (a1 s0 (a1 b0 trivial)) (ih11 _ _ _ _ h K q) (by kernel_rfl)
  · intro h0 h2 ds us h K q
    rw [R47_11] at h
    obtain ⟨h, h'⟩ := h; subst h; subst h'
    exact AtV.ret Tryz.func47 tabOk ext47Ok mixed false [6, 9, 11] tys47 [] trivial (by kernel_rfl)
def P47 (x0 : (List Int × Int × Int × Unit)) : Prop := SrcOk 900000000 x0
def Q47 (x0 : (List Int × Int × Int × Unit)) (y : TyB1) (s : (List Int × Int × Int × Unit)) : Prop := SrcOk (x0.2.1 + 2000) s ∧ y.1 ∈ [ByteArray.mk #[99, 104, 101, 99, 107], ByteArray.mk #[110, 111, 116, 101], ByteArray.mk #[102, 97, 99, 101]] ∧ y.2.2.1.size ≤ 1100000 ∧ ∃ n, R47 n x0 [⟨(.cons .str (.cons .str (.cons .str .unit))), y⟩] [some ⟨(.cons (.sl (.int .u8)) (.cons (.int .i64) (.cons (.int .u64) .unit))), [s]⟩]
theorem end47 (n : Nat) {m : Int} {s : (List Int × Int × Int × Unit)} {b : TyB1} (hs : SrcOk m s) (hm : m ≤ 2000000000) (h1 : b.1 ∈ [ByteArray.mk #[99, 104, 101, 99, 107], ByteArray.mk #[110, 111, 116, 101], ByteArray.mk #[102, 97, 99, 101]]) (h3 : b.2.2.1.size ≤ 1100000) :
    ∃ (y : TyB1) (t : (List Int × Int × Int × Unit)), SrcOk (m + 10) t ∧ y.1 ∈ [ByteArray.mk #[99, 104, 101, 99, 107], ByteArray.mk #[110, 111, 116, 101], ByteArray.mk #[102, 97, 99, 101]] ∧ y.2.2.1.size ≤ 1100000 ∧ R47_9 (n + 2) s b [⟨(.cons .str (.cons .str (.cons .str .unit))), y⟩] [some ⟨(.cons (.sl (.int .u8)) (.cons (.int .i64) (.cons (.int .u64) .unit))), [t]⟩] := by
  obtain ⟨p1, s1⟩ := one_ok hs 24 (by omega)
  by_cases hc : g78_0 s 24 = true
  · obtain ⟨p2, s2, a, d, _⟩ := pick_ok s1 3 (by omega)
    have d := d (by decide)
    refine ⟨(b.1, b.2.1, bytesStr (List.replicate (Int.toNat (399 + g45_0 (u78_0 s 24) 3)) 0), ()), _, s2.up (by omega), h1, ?_, ?_⟩
    · show (bytesStr _).size ≤ 1100000
      rw [bytesStr_size, List.length_replicate]
      omega
    · rw [R47_9]
      refine ⟨p1, ?_⟩
      rw [if_pos hc]
      refine ⟨p2, by rw [i64_iff]; omega, by omega, by omega, by omega, ?_⟩
      rw [R47_11]
      exact ⟨rfl, rfl⟩
  · refine ⟨b, _, s1.up (by omega), h1, h3, ?_⟩
    rw [R47_9]
    refine ⟨p1, ?_⟩
    rw [if_neg hc, R47_11]
    exact ⟨rfl, rfl⟩
theorem mid47 (n : Nat) {m : Int} {s : (List Int × Int × Int × Unit)} {b : TyB1} (hs : SrcOk m s) (hm : m ≤ 1500000000) (h1 : b.1 ∈ [ByteArray.mk #[99, 104, 101, 99, 107], ByteArray.mk #[110, 111, 116, 101], ByteArray.mk #[102, 97, 99, 101]]) (h2 : b.2.1.size ≤ 1000) (h3 : b.2.2.1.size ≤ 1100000) :
    ∃ (y : TyB1) (t : (List Int × Int × Int × Unit)), SrcOk (m + 30) t ∧ y.1 ∈ [ByteArray.mk #[99, 104, 101, 99, 107], ByteArray.mk #[110, 111, 116, 101], ByteArray.mk #[102, 97, 99, 101]] ∧ y.2.2.1.size ≤ 1100000 ∧ R47_6 (n + 3) s b [⟨(.cons .str (.cons .str (.cons .str .unit))), y⟩] [some ⟨(.cons (.sl (.int .u8)) (.cons (.int .i64) (.cons (.int .u64) .unit))), [t]⟩] := by
  by_cases hk : (ByteArray.toList b.1 == ByteArray.toList (ByteArray.mk #[99, 104, 101, 99, 107])) = true
  · obtain ⟨p1, s1⟩ := one_ok hs 2 (by omega)
    by_cases hc : g78_0 s 2 = true
    · obtain ⟨p2, s2, e, m1, ⟨m2, m3⟩, ⟨m4, m5⟩, m6, m7⟩ := draw_check s1 (by omega) b.2.1
      obtain ⟨q1, q2⟩ := text_check (x := g66_0 (u78_0 s 2) b.2.1) (by rw [e]; omega) (fun y hy => by
        simp only [List.mem_cons, List.mem_nil_iff, or_false] at hy m1
        rw [i64_iff]
        rcases hy with rfl | rfl | rfl | rfl <;> omega)
      obtain ⟨y, t, t1, t2, t3, t4⟩ := end47 n (b := (b.1, b.2.1, g44_0 (g66_0 (u78_0 s 2) b.2.1), ())) s2 (by omega) h1 (by show (g44_0 _).size ≤ _; omega)
      refine ⟨y, t, t1.up (by omega), t2, t3, ?_⟩
      rw [R47_6, if_pos hk, if_pos hc]
      exact ⟨p1, p2, q1, t4⟩
    · obtain ⟨y, t, t1, t2, t3, t4⟩ := end47 n s1 (by omega) h1 h3
      refine ⟨y, t, t1.up (by omega), t2, t3, ?_⟩
      rw [R47_6, if_pos hk, if_neg hc]
      exact ⟨p1, t4⟩
  · obtain ⟨y, t, t1, t2, t3, t4⟩ := end47 n hs (by omega) h1 h3
    refine ⟨y, t, t1.up (by omega), t2, t3, ?_⟩
    rw [R47_6, if_neg hk]
    exact t4
theorem ex47 (x0 : (List Int × Int × Int × Unit)) (h : P47 x0) : ∃ y s, Q47 x0 y s := by
  have h0 : x0.2.1 ≤ 900000000 := h.2.2
  obtain ⟨p1, s1, m1⟩ := text_ok (SrcOk.self h) [ByteArray.mk #[99, 104, 101, 99, 107], ByteArray.mk #[110, 111, 116, 101], ByteArray.mk #[102, 97, 99, 101]] (by decide) (by omega)
  obtain ⟨p2, s2, m2⟩ := text_ok s1 [ByteArray.mk #[97], ByteArray.mk #[98], ByteArray.mk #[99], ByteArray.mk #[100]] (by decide) (by omega)
  obtain ⟨p3, s3, m3⟩ := text_ok s2 [ByteArray.mk #[], ByteArray.mk #[120], ByteArray.mk #[97, 32, 98, 32, 99], ByteArray.mk #[49, 50, 32, 51, 52], ByteArray.mk #[111, 97, 107, 47, 52, 48]] (by decide) (by omega)
  obtain ⟨p4, s4⟩ := one_ok s3 4 (by omega)
  have z2 : (g77_0 (u77_0 x0 [ByteArray.mk #[99, 104, 101, 99, 107], ByteArray.mk #[110, 111, 116, 101], ByteArray.mk #[102, 97, 99, 101]]) [ByteArray.mk #[97], ByteArray.mk #[98], ByteArray.mk #[99], ByteArray.mk #[100]]).size ≤ 1000 := by
    have : ∀ z ∈ [ByteArray.mk #[97], ByteArray.mk #[98], ByteArray.mk #[99], ByteArray.mk #[100]], z.size ≤ 1000 := by decide
    exact this _ m2
  have z3 : (g77_0 (u77_0 (u77_0 x0 [ByteArray.mk #[99, 104, 101, 99, 107], ByteArray.mk #[110, 111, 116, 101], ByteArray.mk #[102, 97, 99, 101]]) [ByteArray.mk #[97], ByteArray.mk #[98], ByteArray.mk #[99], ByteArray.mk #[100]]) [ByteArray.mk #[], ByteArray.mk #[120], ByteArray.mk #[97, 32, 98, 32, 99], ByteArray.mk #[49, 50, 32, 51, 52], ByteArray.mk #[111, 97, 107, 47, 52, 48]]).size ≤ 1000 := by
    have : ∀ z ∈ [ByteArray.mk #[], ByteArray.mk #[120], ByteArray.mk #[97, 32, 98, 32, 99], ByteArray.mk #[49, 50, 32, 51, 52], ByteArray.mk #[111, 97, 107, 47, 52, 48]], z.size ≤ 1000 := by decide
    exact this _ m3
  by_cases hc : g78_0 (u77_0 (u77_0 (u77_0 x0 [ByteArray.mk #[99, 104, 101, 99, 107], ByteArray.mk #[110, 111, 116, 101], ByteArray.mk #[102, 97, 99, 101]]) [ByteArray.mk #[97], ByteArray.mk #[98], ByteArray.mk #[99], ByteArray.mk #[100]]) [ByteArray.mk #[], ByteArray.mk #[120], ByteArray.mk #[97, 32, 98, 32, 99], ByteArray.mk #[49, 50, 32, 51, 52], ByteArray.mk #[111, 97, 107, 47, 52, 48]]) 4 = true
  · obtain ⟨p5, s5, z5⟩ := word_ok s4 9 (by omega) (by omega)
    obtain ⟨y, t, t1, t2, t3, t4⟩ := mid47 0 (b := (g77_0 x0 [ByteArray.mk #[99, 104, 101, 99, 107], ByteArray.mk #[110, 111, 116, 101], ByteArray.mk #[102, 97, 99, 101]], g77_0 (u77_0 x0 [ByteArray.mk #[99, 104, 101, 99, 107], ByteArray.mk #[110, 111, 116, 101], ByteArray.mk #[102, 97, 99, 101]]) [ByteArray.mk #[97], ByteArray.mk #[98], ByteArray.mk #[99], ByteArray.mk #[100]], g77_0 (u77_0 (u77_0 x0 [ByteArray.mk #[99, 104, 101, 99, 107], ByteArray.mk #[110, 111, 116, 101], ByteArray.mk #[102, 97, 99, 101]]) [ByteArray.mk #[97], ByteArray.mk #[98], ByteArray.mk #[99], ByteArray.mk #[100]]) [ByteArray.mk #[], ByteArray.mk #[120], ByteArray.mk #[97, 32, 98, 32, 99], ByteArray.mk #[49, 50, 32, 51, 52], ByteArray.mk #[111, 97, 107, 47, 52, 48]] ++ g79_0 (u78_0 (u77_0 (u77_0 (u77_0 x0 [ByteArray.mk #[99, 104, 101, 99, 107], ByteArray.mk #[110, 111, 116, 101], ByteArray.mk #[102, 97, 99, 101]]) [ByteArray.mk #[97], ByteArray.mk #[98], ByteArray.mk #[99], ByteArray.mk #[100]]) [ByteArray.mk #[], ByteArray.mk #[120], ByteArray.mk #[97, 32, 98, 32, 99], ByteArray.mk #[49, 50, 32, 51, 52], ByteArray.mk #[111, 97, 107, 47, 52, 48]]) 4) 9, ())) s5 (by omega) m1 z2 (by refine Nat.le_trans (Nat.le_of_eq ByteArray.size_append) ?_; omega)
    refine ⟨y, t, t1.up (by omega), t2, t3, 4, ?_⟩
    rw [R47]
    refine ⟨p1, p2, p3, p4, ?_⟩
    rw [if_pos hc]
    exact ⟨p5, by omega, t4⟩
  · obtain ⟨y, t, t1, t2, t3, t4⟩ := mid47 0 (b := (g77_0 x0 [ByteArray.mk #[99, 104, 101, 99, 107], ByteArray.mk #[110, 111, 116, 101], ByteArray.mk #[102, 97, 99, 101]], g77_0 (u77_0 x0 [ByteArray.mk #[99, 104, 101, 99, 107], ByteArray.mk #[110, 111, 116, 101], ByteArray.mk #[102, 97, 99, 101]]) [ByteArray.mk #[97], ByteArray.mk #[98], ByteArray.mk #[99], ByteArray.mk #[100]], g77_0 (u77_0 (u77_0 x0 [ByteArray.mk #[99, 104, 101, 99, 107], ByteArray.mk #[110, 111, 116, 101], ByteArray.mk #[102, 97, 99, 101]]) [ByteArray.mk #[97], ByteArray.mk #[98], ByteArray.mk #[99], ByteArray.mk #[100]]) [ByteArray.mk #[], ByteArray.mk #[120], ByteArray.mk #[97, 32, 98, 32, 99], ByteArray.mk #[49, 50, 32, 51, 52], ByteArray.mk #[111, 97, 107, 47, 52, 48]], ())) s4 (by omega) m1 z2 (by show (g77_0 _ _).size ≤ _; omega)
    refine ⟨y, t, t1.up (by omega), t2, t3, 4, ?_⟩
    rw [R47]
    refine ⟨p1, p2, p3, p4, ?_⟩
    rw [if_neg hc]
    exact t4
def g47_0 (x0 : (List Int × Int × Int × Unit)) : TyB1 := (sel2 (ByteArray.empty, ByteArray.empty, ByteArray.empty, ()) x0 (Q47 x0)).1
def u47_0 (x0 : (List Int × Int × Int × Unit)) : (List Int × Int × Int × Unit) := (sel2 (ByteArray.empty, ByteArray.empty, ByteArray.empty, ()) x0 (Q47 x0)).2
theorem q47 (x0 : (List Int × Int × Int × Unit)) (h : P47 x0) : Q47 x0 (g47_0 x0) (u47_0 x0) := by
  obtain ⟨y, s, hq⟩ := ex47 x0 h
  exact sel2_spec hq
def S47 : Am.Spec := { sig := sig47, pre := fun ⟨x0, _⟩ => P47 x0, upd := fun ⟨x0, _⟩ => [some ⟨(.cons (.sl (.int .u8)) (.cons (.int .i64) (.cons (.int .u64) .unit))), [u47_0 x0]⟩], res := fun ⟨x0, _⟩ => [⟨(.cons .str (.cons .str (.cons .str .unit))), g47_0 x0⟩], kds := kds47 }
theorem con47 : Contract Tryz.prog 47 S47 := contract_of Tryz.func47 hb47 (Nat.le_of_ble_eq_true (by kernel_rfl)) (fun ⟨x0, _⟩ h hwf K q =>
  let ⟨n, hn⟩ := (q47 x0 h).2.2.2
  (snd47 n).1 x0 _ _ hn K q)
end
noncomputable section
def ext108 : Ext := []
theorem ext108Ok : ExtOk Tryz.prog ext108 := trivial
noncomputable def b108 : Code := bodyOf Tryz.f108
theorem hb108 : Tryz.f108.body = some b108 := by kernel_rfl
def sig108 : List AT := [AT.v (Ty.int .u8)]
def tys108 : List Ty := [Ty.bool]
def kds108 : List RK := []
def oks108 : List AT := owns sig108
def P108 (x0 : Int) : Prop := True
def g108_0 (x0 : Int) : Bool := (if (decide (x0 ≥ 97)) = true then decide (x0 ≤ 122) else false)
theorem at108 (x0 : Int) (h : P108 x0) (K : Ctx) (q : Nat → Value) : AtV Tryz.prog 108 (PostR kds108 oks108 [⟨Ty.bool, g108_0 x0⟩] [] [] q K) 9 K q [] [.code b108] (entE 0 0 sig108 (x0, ())) (entL sig108 (x0, ())) := by
  unfold P108 at h
  unfold g108_0
  by_cases b0 : (decide (x0 ≥ 97)) = true
  · try simp only [if_pos b0] at h ⊢
    exact AtV.ret Tryz.func108 tabOk ext108Ok mixed false [] tys108 [true] (a1 b0 trivial) (by kernel_rfl)
  · try simp only [if_neg b0] at h ⊢
    replace b0 := Bool.eq_false_iff.2 b0
    exact AtV.ret Tryz.func108 tabOk ext108Ok mixed false [] tys108 [false] (a1 b0 trivial) (by kernel_rfl)
def S108 : Am.Spec := { sig := sig108, pre := fun ⟨x0, _⟩ => P108 x0, res := fun ⟨x0, _⟩ => [⟨Ty.bool, g108_0 x0⟩], kds := kds108 }
theorem con108 : Contract Tryz.prog 108 S108 := contract_of Tryz.func108 hb108 (Nat.le_of_ble_eq_true (by kernel_rfl)) (fun ⟨x0, _⟩ h _ K q => at108 x0 h K q)
end
noncomputable section
def ext109 : Ext := []
theorem ext109Ok : ExtOk Tryz.prog ext109 := trivial
noncomputable def b109 : Code := bodyOf Tryz.f109
theorem hb109 : Tryz.f109.body = some b109 := by kernel_rfl
def sig109 : List AT := [AT.v (Ty.int .u8)]
def tys109 : List Ty := [Ty.bool]
def kds109 : List RK := []
def oks109 : List AT := owns sig109
def P109 (x0 : Int) : Prop := True
def g109_0 (x0 : Int) : Bool := (if (decide (x0 ≥ 48)) = true then decide (x0 ≤ 57) else false)
theorem at109 (x0 : Int) (h : P109 x0) (K : Ctx) (q : Nat → Value) : AtV Tryz.prog 109 (PostR kds109 oks109 [⟨Ty.bool, g109_0 x0⟩] [] [] q K) 9 K q [] [.code b109] (entE 0 0 sig109 (x0, ())) (entL sig109 (x0, ())) := by
  unfold P109 at h
  unfold g109_0
  by_cases b0 : (decide (x0 ≥ 48)) = true
  · try simp only [if_pos b0] at h ⊢
    exact AtV.ret Tryz.func109 tabOk ext109Ok mixed false [] tys109 [true] (a1 b0 trivial) (by kernel_rfl)
  · try simp only [if_neg b0] at h ⊢
    replace b0 := Bool.eq_false_iff.2 b0
    exact AtV.ret Tryz.func109 tabOk ext109Ok mixed false [] tys109 [false] (a1 b0 trivial) (by kernel_rfl)
def S109 : Am.Spec := { sig := sig109, pre := fun ⟨x0, _⟩ => P109 x0, res := fun ⟨x0, _⟩ => [⟨Ty.bool, g109_0 x0⟩], kds := kds109 }
theorem con109 : Contract Tryz.prog 109 S109 := contract_of Tryz.func109 hb109 (Nat.le_of_ble_eq_true (by kernel_rfl)) (fun ⟨x0, _⟩ h _ K q => at109 x0 h K q)
end
noncomputable section
def ext70 : Ext := [(108, S108), (109, S109)]
theorem ext70Ok : ExtOk Tryz.prog ext70 := ⟨⟨ca108, con108⟩, ⟨ca109, con109⟩, trivial⟩
noncomputable def b70 : Code := bodyOf Tryz.f70
theorem hb70 : Tryz.f70.body = some b70 := by kernel_rfl
def sig70 : List AT := [AT.v (Ty.str)]
def tys70 : List Ty := [Ty.bool]
def kds70 : List RK := []
def oks70 : List AT := owns sig70
def E70_4 (v3 : Int) (x0 : ByteArray) : Env := [(0, PV.a (Atom.val (Value.string x0))), (3, PV.a (Atom.val (Value.int .i64 v3)))]
def L70_4 (v3 : Int) (x0 : ByteArray) : Heap := []
mutual
def R70 : Nat → ByteArray → List Dyn → Prop
  | 0, _, _ => False
  | n + 1, x0, ds => (if (ByteArray.toList x0 == ByteArray.toList (ByteArray.mk #[])) = true then (ds = [Dyn.mk Ty.bool false]) else (if (decide ((↑(ByteArray.size x0) : Int) > 10)) = true then (ds = [Dyn.mk Ty.bool false]) else ((0 < (↑(ByteArray.size x0) : Int)) ∧ (if (!g108_0 (↑(UInt8.toNat (List.getD (Array.toList (ByteArray.data x0)) 0 0)) : Int)) = true then (ds = [Dyn.mk Ty.bool false]) else (R70_4 n (0) (x0) ds)))))
def R70_4 : Nat → Int → ByteArray → List Dyn → Prop
  | 0, _, _, _ => False
  | n + 1, v3, x0, ds => (if (decide (v3 < (↑(ByteArray.size x0) : Int))) = true then ((0 ≤ v3) ∧ (v3 < (↑(ByteArray.size x0) : Int)) ∧ (if (!g108_0 (↑(UInt8.toNat (List.getD (Array.toList (ByteArray.data x0)) (Int.toNat v3) 0)) : Int)) = true then ((0 ≤ v3) ∧ (v3 < (↑(ByteArray.size x0) : Int)) ∧ (if (!g109_0 (↑(UInt8.toNat (List.getD (Array.toList (ByteArray.data x0)) (Int.toNat v3) 0)) : Int)) = true then (ds = [Dyn.mk Ty.bool false]) else ((InR .i64 (v3 + 1)) ∧ (R70_4 n (v3 + 1) (x0) ds)))) else ((InR .i64 (v3 + 1)) ∧ (R70_4 n (v3 + 1) (x0) ds)))) else (ds = [Dyn.mk Ty.bool true]))
end
theorem snd70 : ∀ n, (∀ (x0 : ByteArray) ds, R70 n x0 ds → ∀ K q, AtV Tryz.prog 70 (PostR kds70 oks70 ds [] [] q K) 35 K q [] [.code b70] (entE 0 0 sig70 (x0, ())) (entL sig70 (x0, ()))) ∧ (∀ (v3 : Int) (x0 : ByteArray) ds, R70_4 n v3 x0 ds → ∀ K q, AtV Tryz.prog 70 (PostR kds70 oks70 ds [] [] q K) 35 K q [] (cutAt b70 4) (E70_4 v3 x0) (L70_4 v3 x0)) := by
  intro n
  induction n with
  | zero => exact ⟨fun _ _ h => by simp only [R70] at h, fun _ _ _ h => by simp only [R70_4] at h⟩
  | succ n ih =>
  obtain ⟨ih, ih4⟩ := ih
  refine ⟨?_, ?_⟩
  · intro x0 ds h K q
    rw [R70] at h
    by_cases b0 : (ByteArray.toList x0 == ByteArray.toList (ByteArray.mk #[])) = true
    · rw [if_pos b0] at h
      subst h
      exact AtV.ret Tryz.func70 tabOk ext70Ok mixed false [] tys70 [true, true, true] (a1 b0 (a1 (rfl : true = true) (a1 (rfl : true = true) trivial))) (by kernel_rfl)
    · rw [if_neg b0] at h
      replace b0 := Bool.eq_false_iff.2 b0
      by_cases b1 : (decide ((↑(ByteArray.size x0) : Int) > 10)) = true
      · rw [if_pos b1] at h
        subst h
        exact AtV.ret Tryz.func70 tabOk ext70Ok mixed false [] tys70 [false, true, true] (a1 b0 (a1 b1 (a1 (rfl : true = true) trivial))) (by kernel_rfl)
      · rw [if_neg b1] at h
        replace b1 := Bool.eq_false_iff.2 b1
        obtain ⟨s0, h⟩ := h
        by_cases b2 : (!g108_0 (↑(UInt8.toNat (List.getD (Array.toList (ByteArray.data x0)) 0 0)) : Int)) = true
        · rw [if_pos b2] at h
          subst h
          exact AtV.ret Tryz.func70 tabOk ext70Ok mixed false [] tys70 [false, false, true] (a1 b0 (a1 b1 (a1 ((by decide) : (0 : Int) ≤ (0 : Int)) (a1 s0 (a1 trivial (a1 b2 trivial)))))) (by kernel_rfl)
        · rw [if_neg b2] at h
          replace b2 := Bool.eq_false_iff.2 b2
          exact AtV.go tabOk ext70Ok mixed false [] [] [0, 3] [] [false, false, false] (a1 b0 (a1 b1 (a1 ((by decide) : (0 : Int) ≤ (0 : Int)) (a1 s0 (a1 trivial (a1 b2 trivial)))))) (ih4 _ _ _ h K q) (by kernel_rfl)
  · intro v3 x0 ds h K q
    rw [R70_4] at h
    by_cases b0 : (decide (v3 < (↑(ByteArray.size x0) : Int))) = true
    · rw [if_pos b0] at h
      obtain ⟨s0, s1, h⟩ := h
      by_cases b1 : (!g108_0 (↑(UInt8.toNat (List.getD (Array.toList (ByteArray.data x0)) (Int.toNat v3) 0)) : Int)) = true
      · rw [if_pos b1] at h
        obtain ⟨s2, s3, h⟩ := h
        by_cases b2 : (!g109_0 (↑(UInt8.toNat (List.getD (Array.toList (ByteArray.data x0)) (Int.toNat v3) 0)) : Int)) = true
        · rw [if_pos b2] at h
          subst h
          exact AtV.ret Tryz.func70 tabOk ext70Ok mixed false [] tys70 [true, true, true] (a1 b0 (a1 s0 (a1 s1 (a1 trivial (a1 b1 (a1 s2 (a1 s3 (a1 trivial (a1 b2 trivial))))))))) (by kernel_rfl)
        · rw [if_neg b2] at h
          replace b2 := Bool.eq_false_iff.2 b2
          obtain ⟨s4, h⟩ := h
          exact AtV.go tabOk ext70Ok mixed false [] [] [0, 3] [] [true, true, false] (a1 b0 (a1 s0 (a1 s1 (a1 trivial (a1 b1 (a1 s2 (a1 s3 (a1 trivial (a1 b2 (a1 s4 trivial)))))))))) (ih4 _ _ _ h K q) (by kernel_rfl)
      · rw [if_neg b1] at h
        replace b1 := Bool.eq_false_iff.2 b1
        obtain ⟨s2, h⟩ := h
        exact AtV.go tabOk ext70Ok mixed false [] [] [0, 3] [] [true, false, false] (a1 b0 (a1 s0 (a1 s1 (a1 trivial (a1 b1 (a1 (rfl : false = false) (a1 s2 trivial))))))) (ih4 _ _ _ h K q) (by kernel_rfl)
    · rw [if_neg b0] at h
      replace b0 := Bool.eq_false_iff.2 b0
      subst h
      exact AtV.ret Tryz.func70 tabOk ext70Ok mixed false [] tys70 [false] (a1 b0 trivial) (by kernel_rfl)
def g70_0 (x0 : ByteArray) : Bool := decide (1 ≤ x0.size) && decide (x0.size ≤ 10) && g108_0 ((bytesOf x0).getD 0 0) && (bytesOf x0).all fun b => g108_0 b || g109_0 b
def P70 (x0 : ByteArray) : Prop := True
theorem top70 (x0 : ByteArray) (hw : Wf .str x0) : R70 (x0.size + 1 + 1) x0 [⟨.bool, g70_0 x0⟩] := by
  have hl := bytesOf_length x0
  rw [R70]
  by_cases h0 : x0 = ByteArray.mk #[]
  · rw [if_pos ((bytes_eq _ _).2 h0)]
    subst h0
    rfl
  · rw [if_neg (fun h => h0 ((bytes_eq _ _).1 h))]
    have hs : 1 ≤ x0.size := by
      rcases Nat.lt_or_ge 0 x0.size with h | h
      · exact h
      · exact absurd (bytesOf_inj (s := x0) (t := ByteArray.mk #[]) (List.eq_nil_of_length_eq_zero (by rw [hl]; omega))) h0
    by_cases h1 : (x0.size : Int) > 10
    · rw [if_pos (by simpa using h1)]
      have : ¬ x0.size ≤ 10 := by omega
      simp [g70_0, this]
    · rw [if_neg (by simpa using h1)]
      refine ⟨by omega, ?_⟩
      rw [byte_get]
      cases h2 : g108_0 ((bytesOf x0).getD 0 0) with
      | false =>
        rw [if_pos (by simp)]
        simp [g70_0, h2, -List.getD_eq_getElem?_getD]
      | true =>
        rw [if_neg (by simp)]
        have key := loop_test (bytesOf x0) 0 (fun b => g108_0 b || g109_0 b) [(⟨.bool, false⟩ : Dyn)] [⟨.bool, true⟩] (fun n i ds => R70_4 n i x0 ds) (fun n => ?_) (fun n i hi hok ds hr => ?_) (fun n i hi hok => ?_)
        · rw [hl] at key
          have e : g70_0 x0 = (bytesOf x0).all fun b => g108_0 b || g109_0 b := by
            have : x0.size ≤ 10 := by omega
            unfold g70_0
            simp only [hs, this, decide_true, Bool.true_and, h2]
          rw [e]
          cases h : (bytesOf x0).all fun b => g108_0 b || g109_0 b with
          | true => rw [if_pos h] at key; exact key
          | false => rw [if_neg (by rw [h]; simp)] at key; exact key
        · show R70_4 (n + 1) ((bytesOf x0).length : Int) x0 _
          rw [R70_4, hl, if_neg (by simp)]
        · rw [R70_4, if_pos (by simp; omega)]
          simp only [Int.toNat_natCast, byte_get]
          generalize (bytesOf x0).getD i 0 = c at *
          refine ⟨by omega, by omega, ?_⟩
          have hu := inR_up (xs := bytesOf x0) (by rw [hl]; exact hw) hi
          cases h3 : g108_0 c with
          | true => rw [if_neg (by simp)]; exact ⟨hu, hr⟩
          | false =>
            rw [if_pos (by simp)]
            rw [h3, Bool.false_or] at hok
            refine ⟨by omega, by omega, ?_⟩
            rw [if_neg (by rw [hok]; simp)]
            exact ⟨hu, hr⟩
        · simp only [Bool.or_eq_false_iff] at hok
          rw [R70_4, if_pos (by simp; omega)]
          simp only [Int.toNat_natCast, byte_get]
          refine ⟨by omega, by omega, ?_⟩
          rw [if_pos (by rw [hok.1]; rfl)]
          refine ⟨by omega, by omega, ?_⟩
          rw [if_pos (by rw [hok.2]; rfl)] <;> trivial
def S70 : Am.Spec := { sig := sig70, pre := fun ⟨x0, _⟩ => P70 x0, res := fun ⟨x0, _⟩ => [⟨Ty.bool, g70_0 x0⟩] }
theorem con70 : Contract Tryz.prog 70 S70 := contract_of Tryz.func70 hb70 (Nat.le_of_ble_eq_true (by kernel_rfl)) (fun ⟨x0, _⟩ h hwf K q =>
  (snd70 _).1 x0 _ (top70 x0 hwf.1) K q)
end
noncomputable section
def ext62 : Ext := [(70, S70)]
theorem ext62Ok : ExtOk Tryz.prog ext62 := ⟨⟨ca70, con70⟩, trivial⟩
noncomputable def b62 : Code := bodyOf Tryz.f62
theorem hb62 : Tryz.f62.body = some b62 := by kernel_rfl
def sig62 : List AT := [AT.p YA3]
def tys62 : List Ty := [Ty.bool]
def kds62 : List RK := []
def oks62 : List AT := owns sig62
def E62_2 (v3 : Int) (x0 : ByteArray × ByteArray × ByteArray × Unit) : Env := [(0, PV.a (Atom.ptr YA3 x0)), (3, PV.a (Atom.val (Value.int .i64 v3)))]
def L62_2 (v3 : Int) (x0 : ByteArray × ByteArray × ByteArray × Unit) : Heap := []
mutual
def R62 : Nat → ByteArray × ByteArray × ByteArray × Unit → List Dyn → Prop
  | 0, _, _ => False
  | n + 1, x0, ds => (R62_2 n (0) (x0) ds)
def R62_2 : Nat → Int → ByteArray × ByteArray × ByteArray × Unit → List Dyn → Prop
  | 0, _, _, _ => False
  | n + 1, v3, x0, ds => (if (decide (v3 < (↑(ByteArray.size x0.2.2.1) : Int))) = true then ((0 ≤ v3) ∧ (v3 < (↑(ByteArray.size x0.2.2.1) : Int)) ∧ (if ((↑(UInt8.toNat (List.getD (Array.toList (ByteArray.data x0.2.2.1)) (Int.toNat v3) 0)) : Int) == 10) = true then (ds = [Dyn.mk Ty.bool false]) else ((InR .i64 (v3 + 1)) ∧ (R62_2 n (v3 + 1) (x0) ds)))) else (if (g70_0 x0.1) = true then (if (g70_0 x0.2.1) = true then (ds = [Dyn.mk Ty.bool (decide ((↑(ByteArray.size x0.2.2.1) : Int) ≤ 400))]) else (ds = [Dyn.mk Ty.bool false])) else (ds = [Dyn.mk Ty.bool false])))
end
theorem snd62 : ∀ n, (∀ (x0 : ByteArray × ByteArray × ByteArray × Unit) ds, R62 n x0 ds → ∀ K q, AtV Tryz.prog 62 (PostR kds62 oks62 ds [] [] q K) 40 K q [] [.code b62] (entE 0 0 sig62 (x0, ())) (entL sig62 (x0, ()))) ∧ (∀ (v3 : Int) (x0 : ByteArray × ByteArray × ByteArray × Unit) ds, R62_2 n v3 x0 ds → ∀ K q, AtV Tryz.prog 62 (PostR kds62 oks62 ds [] [] q K) 40 K q [] (cutAt b62 2) (E62_2 v3 x0) (L62_2 v3 x0)) := by
  intro n
  induction n with
  | zero => exact ⟨fun _ _ h => by simp only [R62] at h, fun _ _ _ h => by simp only [R62_2] at h⟩
  | succ n ih =>
  obtain ⟨ih, ih2⟩ := ih
  refine ⟨?_, ?_⟩
  · intro x0 ds h K q
    rw [R62] at h
    exact AtV.go tabOk ext62Ok mixed false [] [] [0, 3] [] [] trivial (ih2 _ _ _ h K q) (by kernel_rfl)
  · intro v3 x0 ds h K q
    rw [R62_2] at h
    by_cases b0 : (decide (v3 < (↑(ByteArray.size x0.2.2.1) : Int))) = true
    · rw [if_pos b0] at h
      obtain ⟨s0, s1, h⟩ := h
      by_cases b1 : ((↑(UInt8.toNat (List.getD (Array.toList (ByteArray.data x0.2.2.1)) (Int.toNat v3) 0)) : Int) == 10) = true
      · rw [if_pos b1] at h
        subst h
        exact AtV.ret Tryz.func62 tabOk ext62Ok mixed false [] tys62 [true, true] (a1 b0 (a1 s0 (a1 s1 (a1 b1 trivial)))) (by kernel_rfl)
      · rw [if_neg b1] at h
        replace b1 := Bool.eq_false_iff.2 b1
        obtain ⟨s2, h⟩ := h
        exact AtV.go tabOk ext62Ok mixed false [] [] [0, 3] [] [true, false] (a1 b0 (a1 s0 (a1 s1 (a1 b1 (a1 s2 trivial))))) (ih2 _ _ _ h K q) (by kernel_rfl)
    · rw [if_neg b0] at h
      replace b0 := Bool.eq_false_iff.2 b0
      by_cases b1 : (g70_0 x0.1) = true
      · rw [if_pos b1] at h
        by_cases b2 : (g70_0 x0.2.1) = true
        · rw [if_pos b2] at h
          subst h
          exact AtV.ret Tryz.func62 tabOk ext62Ok mixed false [] tys62 [false, true, true] (a1 b0 (a1 trivial (a1 b1 (a1 trivial (a1 b2 trivial))))) (by kernel_rfl)
        · rw [if_neg b2] at h
          replace b2 := Bool.eq_false_iff.2 b2
          subst h
          exact AtV.ret Tryz.func62 tabOk ext62Ok mixed false [] tys62 [false, true, false] (a1 b0 (a1 trivial (a1 b1 (a1 trivial (a1 b2 trivial))))) (by kernel_rfl)
      · rw [if_neg b1] at h
        replace b1 := Bool.eq_false_iff.2 b1
        subst h
        exact AtV.ret Tryz.func62 tabOk ext62Ok mixed false [] tys62 [false, false, false] (a1 b0 (a1 trivial (a1 b1 (a1 (rfl : false = false) trivial)))) (by kernel_rfl)
def g62_0 (x0 : ByteArray × ByteArray × ByteArray × Unit) : Bool := (bytesOf x0.2.2.1).all (fun b => !(b == 10)) && g70_0 x0.1 && g70_0 x0.2.1 && decide (x0.2.2.1.size ≤ 400)
def P62 (x0 : ByteArray × ByteArray × ByteArray × Unit) : Prop := True
theorem top62 (x0 : ByteArray × ByteArray × ByteArray × Unit) (hw : Wf (.cons .str (.cons .str (.cons .str .unit))) x0) : R62 (x0.2.2.1.size + 1 + 1) x0 [⟨.bool, g62_0 x0⟩] := by
  have hl := bytesOf_length x0.2.2.1
  have hw3 : Wf .str x0.2.2.1 := hw.2.2.1
  rw [R62]
  have key := loop_test (bytesOf x0.2.2.1) 0 (fun b => !(b == 10)) [(⟨.bool, false⟩ : Dyn)] [⟨.bool, g70_0 x0.1 && g70_0 x0.2.1 && decide (x0.2.2.1.size ≤ 400)⟩] (fun n i ds => R62_2 n i x0 ds) (fun n => ?_) (fun n i hi hok ds hr => ?_) (fun n i hi hok => ?_)
  · rw [hl] at key
    unfold g62_0
    cases h : (bytesOf x0.2.2.1).all fun b => !(b == 10) with
    | true => rw [if_pos h] at key; simpa using key
    | false => rw [if_neg (by rw [h]; simp)] at key; simpa using key
  · show R62_2 (n + 1) ((bytesOf x0.2.2.1).length : Int) x0 _
    rw [R62_2, hl, if_neg (by simp)]
    have hc : decide ((x0.2.2.1.size : Int) ≤ 400) = decide (x0.2.2.1.size ≤ 400) := by
      congr 1; exact propext ⟨fun h => by omega, fun h => by omega⟩
    rw [hc]
    cases g70_0 x0.1 <;> cases g70_0 x0.2.1 <;> simp
  · rw [R62_2, if_pos (by simp; omega)]
    simp only [Int.toNat_natCast, byte_get]
    refine ⟨by omega, by omega, ?_⟩
    rw [if_neg (by intro h; rw [h] at hok; cases hok)]
    exact ⟨inR_up (xs := bytesOf x0.2.2.1) (by rw [hl]; exact hw3) hi, hr⟩
  · rw [R62_2, if_pos (by simp; omega)]
    simp only [Int.toNat_natCast, byte_get]
    refine ⟨by omega, by omega, ?_⟩
    rw [if_pos (by rw [Bool.not_eq_false'] at hok; exact hok)] <;> trivial
def S62 : Am.Spec := { sig := sig62, pre := fun ⟨x0, _⟩ => P62 x0, res := fun ⟨x0, _⟩ => [⟨Ty.bool, g62_0 x0⟩] }
theorem con62 : Contract Tryz.prog 62 S62 := contract_of Tryz.func62 hb62 (Nat.le_of_ble_eq_true (by kernel_rfl)) (fun ⟨x0, _⟩ h hwf K q =>
  (snd62 _).1 x0 _ (top62 x0 hwf.1) K q)
end
noncomputable section
def ext63 : Ext := []
theorem ext63Ok : ExtOk Tryz.prog ext63 := trivial
noncomputable def b63 : Code := bodyOf Tryz.f63
theorem hb63 : Tryz.f63.body = some b63 := by kernel_rfl
def sig63 : List AT := [AT.p YA3, AT.p YA3]
def tys63 : List Ty := [Ty.bool]
def kds63 : List RK := []
def oks63 : List AT := owns sig63
def P63 (x0 : ByteArray × ByteArray × ByteArray × Unit) (x1 : ByteArray × ByteArray × ByteArray × Unit) : Prop := True
def g63_0 (x0 : ByteArray × ByteArray × ByteArray × Unit) (x1 : ByteArray × ByteArray × ByteArray × Unit) : Bool := (if (Op.bytesLess (ByteArray.toList x0.1) (ByteArray.toList x1.1)) = true then true else (if (ByteArray.toList x0.1 == ByteArray.toList x1.1) = true then Op.bytesLess (ByteArray.toList x0.2.1) (ByteArray.toList x1.2.1) else false))
theorem at63 (x0 : ByteArray × ByteArray × ByteArray × Unit) (x1 : ByteArray × ByteArray × ByteArray × Unit) (h : P63 x0 x1) (K : Ctx) (q : Nat → Value) : AtV Tryz.prog 63 (PostR kds63 oks63 [⟨Ty.bool, g63_0 x0 x1⟩] [] [] q K) 36 K q [] [.code b63] (entE 0 0 sig63 (x0, x1, ())) (entL sig63 (x0, x1, ())) := by
  unfold P63 at h
  unfold g63_0
  by_cases b0 : (Op.bytesLess (ByteArray.toList x0.1) (ByteArray.toList x1.1)) = true
  · try simp only [if_pos b0] at h ⊢
    exact AtV.ret Tryz.func63 tabOk ext63Ok mixed false [] tys63 [true] (a1 b0 trivial) (by kernel_rfl)
  · try simp only [if_neg b0] at h ⊢
    replace b0 := Bool.eq_false_iff.2 b0
    by_cases b1 : (ByteArray.toList x0.1 == ByteArray.toList x1.1) = true
    · try simp only [if_pos b1] at h ⊢
      exact AtV.ret Tryz.func63 tabOk ext63Ok mixed false [] tys63 [false, true] (a1 b0 (a1 b1 trivial)) (by kernel_rfl)
    · try simp only [if_neg b1] at h ⊢
      replace b1 := Bool.eq_false_iff.2 b1
      exact AtV.ret Tryz.func63 tabOk ext63Ok mixed false [] tys63 [false, false] (a1 b0 (a1 b1 trivial)) (by kernel_rfl)
def S63 : Am.Spec := { sig := sig63, pre := fun ⟨x0, x1, _⟩ => P63 x0 x1, res := fun ⟨x0, x1, _⟩ => [⟨Ty.bool, g63_0 x0 x1⟩], kds := kds63 }
theorem con63 : Contract Tryz.prog 63 S63 := contract_of Tryz.func63 hb63 (Nat.le_of_ble_eq_true (by kernel_rfl)) (fun ⟨x0, x1, _⟩ h _ K q => at63 x0 x1 h K q)
end
noncomputable section
def ext37 : Ext := [(62, S62), (63, S63)]
theorem ext37Ok : ExtOk Tryz.prog ext37 := ⟨⟨ca62, con62⟩, ⟨ca63, con63⟩, trivial⟩
noncomputable def b37 : Code := bodyOf Tryz.f37
theorem hb37 : Tryz.f37.body = some b37 := by kernel_rfl
def sig37 : List AT := [AT.v (Ty.sl YA3)]
def tys37 : List Ty := [Ty.bool]
def kds37 : List RK := []
def oks37 : List AT := owns sig37
def E37_2 (v3 : Int) (x0 : List TyB1) : Env := [(0, PV.a (Atom.sl YA3 x0)), (3, PV.a (Atom.val (Value.int .i64 v3)))]
def L37_2 (v3 : Int) (x0 : List TyB1) : Heap := []
mutual
def R37 : Nat → List TyB1 → List Dyn → Prop
  | 0, _, _ => False
  | n + 1, x0, ds => (R37_2 n (0) (x0) ds)
def R37_2 : Nat → Int → List TyB1 → List Dyn → Prop
  | 0, _, _, _ => False
  | n + 1, v3, x0, ds => (if (decide (v3 < (↑(List.length x0) : Int))) = true then ((0 ≤ v3) ∧ (v3 < (↑(List.length x0) : Int)) ∧ (if (!g62_0 (List.getD x0 (Int.toNat v3) (ByteArray.empty, ByteArray.empty, ByteArray.empty, ()))) = true then (ds = [Dyn.mk Ty.bool false]) else (if (decide (v3 > 0)) = true then ((InR .i64 (v3 - 1)) ∧ ((0 ≤ v3 - 1) ∧ (v3 - 1 < (↑(List.length x0) : Int)) ∧ ((0 ≤ v3) ∧ (v3 < (↑(List.length x0) : Int)) ∧ (if (!g63_0 (List.getD x0 (Int.toNat (v3 - 1)) (ByteArray.empty, ByteArray.empty, ByteArray.empty, ())) (List.getD x0 (Int.toNat v3) (ByteArray.empty, ByteArray.empty, ByteArray.empty, ()))) = true then (ds = [Dyn.mk Ty.bool false]) else ((InR .i64 (v3 + 1)) ∧ (R37_2 n (v3 + 1) (x0) ds)))))) else ((InR .i64 (v3 + 1)) ∧ (R37_2 n (v3 + 1) (x0) ds))))) else (ds = [Dyn.mk Ty.bool (decide ((↑(List.length x0) : Int) ≤ 32))]))
end
theorem snd37 : ∀ n, (∀ (x0 : List TyB1) ds, R37 n x0 ds → ∀ K q, AtV Tryz.prog 37 (PostR kds37 oks37 ds [] [] q K) 33 K q [] [.code b37] (entE 0 0 sig37 (x0, ())) (entL sig37 (x0, ()))) ∧ (∀ (v3 : Int) (x0 : List TyB1) ds, R37_2 n v3 x0 ds → ∀ K q, AtV Tryz.prog 37 (PostR kds37 oks37 ds [] [] q K) 33 K q [] (cutAt b37 2) (E37_2 v3 x0) (L37_2 v3 x0)) := by
  intro n
  induction n with
  | zero => exact ⟨fun _ _ h => by simp only [R37] at h, fun _ _ _ h => by simp only [R37_2] at h⟩
  | succ n ih =>
  obtain ⟨ih, ih2⟩ := ih
  refine ⟨?_, ?_⟩
  · intro x0 ds h K q
    rw [R37] at h
    exact AtV.go tabOk ext37Ok mixed false [] [] [0, 3] [] [] trivial (ih2 _ _ _ h K q) (by kernel_rfl)
  · intro v3 x0 ds h K q
    rw [R37_2] at h
    by_cases b0 : (decide (v3 < (↑(List.length x0) : Int))) = true
    · rw [if_pos b0] at h
      obtain ⟨s0, s1, h⟩ := h
      by_cases b1 : (!g62_0 (List.getD x0 (Int.toNat v3) (ByteArray.empty, ByteArray.empty, ByteArray.empty, ()))) = true
      · rw [if_pos b1] at h
        subst h
        exact AtV.ret Tryz.func37 tabOk ext37Ok mixed false [] tys37 [true, true, true] (a1 b0 (a1 s0 (a1 s1 (a1 trivial (a1 b1 (a1 (rfl : true = true) trivial)))))) (by kernel_rfl)
      · rw [if_neg b1] at h
        replace b1 := Bool.eq_false_iff.2 b1
        by_cases b2 : (decide (v3 > 0)) = true
        · rw [if_pos b2] at h
          obtain ⟨s2, h⟩ := h
          obtain ⟨s3, s4, h⟩ := h
          obtain ⟨s5, s6, h⟩ := h
          by_cases b3 : (!g63_0 (List.getD x0 (Int.toNat (v3 - 1)) (ByteArray.empty, ByteArray.empty, ByteArray.empty, ())) (List.getD x0 (Int.toNat v3) (ByteArray.empty, ByteArray.empty, ByteArray.empty, ()))) = true
          · rw [if_pos b3] at h
            subst h
            exact AtV.ret Tryz.func37 tabOk ext37Ok mixed false [] tys37 [true, false, true, true] (a1 b0 (a1 s0 (a1 s1 (a1 trivial (a1 b1 (a1 b2 (a1 s2 (a1 s3 (a1 s4 (a1 s5 (a1 s6 (a1 trivial (a1 b3 trivial))))))))))))) (by kernel_rfl)
          · rw [if_neg b3] at h
            replace b3 := Bool.eq_false_iff.2 b3
            obtain ⟨s7, h⟩ := h
            exact AtV.go tabOk ext37Ok mixed false [] [] [0, 3] [] [true, false, true, false] (a1 b0 (a1 s0 (a1 s1 (a1 trivial (a1 b1 (a1 b2 (a1 s2 (a1 s3 (a1 s4 (a1 s5 (a1 s6 (a1 trivial (a1 b3 (a1 s7 trivial)))))))))))))) (ih2 _ _ _ h K q) (by kernel_rfl)
        · rw [if_neg b2] at h
          replace b2 := Bool.eq_false_iff.2 b2
          obtain ⟨s2, h⟩ := h
          exact AtV.go tabOk ext37Ok mixed false [] [] [0, 3] [] [true, false, false, false] (a1 b0 (a1 s0 (a1 s1 (a1 trivial (a1 b1 (a1 b2 (a1 (rfl : false = false) (a1 s2 trivial)))))))) (ih2 _ _ _ h K q) (by kernel_rfl)
    · rw [if_neg b0] at h
      replace b0 := Bool.eq_false_iff.2 b0
      subst h
      exact AtV.ret Tryz.func37 tabOk ext37Ok mixed false [] tys37 [false] (a1 b0 trivial) (by kernel_rfl)
def ok37 (x0 : List TyB1) (i : Nat) (x : ByteArray × ByteArray × ByteArray × Unit) : Bool :=
  g62_0 x && (i == 0 || g63_0 (x0.getD (i - 1) (ByteArray.empty, ByteArray.empty, ByteArray.empty, ())) x)
def g37_0 (x0 : List TyB1) : Bool := allI (ok37 x0) 0 x0 && decide (x0.length ≤ 32)
def P37 (x0 : List TyB1) : Prop := True
theorem step37 (n i : Nat) (x0 : List TyB1) (hm : x0.length ≤ maxLen) (hi : i < x0.length) (ds : List Dyn) :
    (if ok37 x0 i (x0.getD i (ByteArray.empty, ByteArray.empty, ByteArray.empty, ())) = true then R37_2 n ((i : Int) + 1) x0 ds else ds = [⟨.bool, false⟩]) → R37_2 (n + 1) (i : Int) x0 ds := by
  intro h
  have hu := inR_up hm hi
  rw [R37_2, if_pos (by simp; omega)]
  refine ⟨by omega, by omega, ?_⟩
  simp only [Int.toNat_natCast]
  unfold ok37 at h
  cases h1 : g62_0 (x0.getD i (ByteArray.empty, ByteArray.empty, ByteArray.empty, ())) with
  | false =>
    rw [h1] at h
    rw [if_pos (by rfl)]
    simpa using h
  | true =>
    rw [h1] at h
    rw [if_neg (by simp)]
    by_cases h0 : (i : Int) > 0
    · rw [if_pos (by simpa using h0)]
      have hi0 : (i == 0) = false := by simp; omega
      have e : ((i : Int) - 1).toNat = i - 1 := by omega
      refine ⟨by rw [i64_iff]; have : maxLen ≤ 9223372036854775807 := by decide
                 omega, by omega, by omega, by omega, by omega, ?_⟩
      rw [e]
      by_cases h2 : g63_0 (x0.getD (i - 1) (ByteArray.empty, ByteArray.empty, ByteArray.empty, ())) (x0.getD i (ByteArray.empty, ByteArray.empty, ByteArray.empty, ())) = true
      · rw [h2, hi0] at h
        rw [if_neg (by rw [h2]; simp)]
        exact ⟨hu, by simpa using h⟩
      · have h2 := Bool.eq_false_iff.2 h2
        rw [h2, hi0] at h
        rw [if_pos (by rw [h2]; rfl)]
        simpa using h
    · rw [if_neg (by simpa using h0)]
      have hi0 : (i == 0) = true := by simp; omega
      rw [hi0] at h
      exact ⟨hu, by simpa using h⟩
theorem top37 (x0 : List TyB1) (hw : x0.length ≤ maxLen) : R37 (x0.length + 1 + 1) x0 [⟨.bool, g37_0 x0⟩] := by
  rw [R37]
  have key := loop_testI x0 (ByteArray.empty, ByteArray.empty, ByteArray.empty, ()) (ok37 x0) [(⟨.bool, false⟩ : Dyn)] [⟨.bool, decide (x0.length ≤ 32)⟩] (fun n i ds => R37_2 n i x0 ds) (fun n => ?_) (fun n i hi hok ds hr => ?_) (fun n i hi hok => ?_)
  · unfold g37_0
    cases h : allI (ok37 x0) 0 x0 with
    | true => rw [if_pos h] at key; simpa using key
    | false => rw [if_neg (by rw [h]; simp)] at key; simpa using key
  · rw [R37_2, if_neg (by simp)]
    have hc : decide ((x0.length : Int) ≤ 32) = decide (x0.length ≤ 32) := by
      congr 1; exact propext ⟨fun h => by omega, fun h => by omega⟩
    rw [hc]
  · exact step37 n i x0 hw hi ds (by rw [if_pos hok]; exact hr)
  · exact step37 n i x0 hw hi _ (by rw [if_neg (by rw [hok]; simp)])
def S37 : Am.Spec := { sig := sig37, pre := fun ⟨x0, _⟩ => P37 x0, res := fun ⟨x0, _⟩ => [⟨Ty.bool, g37_0 x0⟩] }
theorem con37 : Contract Tryz.prog 37 S37 := contract_of Tryz.func37 hb37 (Nat.le_of_ble_eq_true (by kernel_rfl)) (fun ⟨x0, _⟩ h hwf K q =>
  (snd37 _).1 x0 _ (top37 x0 hwf.1.1) K q)
end
noncomputable section
def ext76 : Ext := [(63, S63)]
theorem ext76Ok : ExtOk Tryz.prog ext76 := ⟨⟨ca63, con63⟩, trivial⟩
noncomputable def b76 : Code := bodyOf Tryz.f76
theorem hb76 : Tryz.f76.body = some b76 := by kernel_rfl
def sig76 : List AT := [AT.v (Ty.sl YA3), AT.v YA3]
def tys76 : List Ty := [Ty.sl YA3]
def kds76 : List RK := []
def oks76 : List AT := owns sig76
def E76_4 (v6 : Bool) (v7 : Int) (h1 : List TyB1) (x0 : List TyB1) (x1 : ByteArray × ByteArray × ByteArray × Unit) : Env := [(0, PV.a (Atom.sl YA3 x0)), (3, PV.a (Atom.optr 0 0 [])), (5, PV.a (Atom.osl 1 Option.none)), (6, PV.a (Atom.val (Value.bool v6))), (7, PV.a (Atom.val (Value.int .i64 v7)))]
def L76_4 (v6 : Bool) (v7 : Int) (h1 : List TyB1) (x0 : List TyB1) (x1 : ByteArray × ByteArray × ByteArray × Unit) : Heap := [Option.some (Arr.mk YA3 [x1] true Option.none (Option.some false)), Option.some (Arr.mk YA3 h1 false Option.none Option.none)]
mutual
def R76 : Nat → List TyB1 → ByteArray × ByteArray × ByteArray × Unit → List Dyn → Prop
  | 0, _, _, _ => False
  | n + 1, x0, x1, ds => (R76_4 n (false) (0) ([]) (x0) (x1) ds)
def R76_4 : Nat → Bool → Int → List TyB1 → List TyB1 → ByteArray × ByteArray × ByteArray × Unit → List Dyn → Prop
  | 0, _, _, _, _, _, _ => False
  | n + 1, v6, v7, h1, x0, x1, ds => (if (decide (v7 < (↑(List.length x0) : Int))) = true then (if (!v6) = true then ((0 ≤ v7) ∧ (v7 < (↑(List.length x0) : Int)) ∧ (if (!g63_0 (List.getD x0 (Int.toNat v7) (ByteArray.empty, ByteArray.empty, ByteArray.empty, ())) x1) = true then (((List.length h1 + 1) * 48 ≤ 140737488355328) ∧ ((0 ≤ v7) ∧ (v7 < (↑(List.length x0) : Int)) ∧ (if (!ByteArray.toList (List.getD x0 (Int.toNat v7) (ByteArray.empty, ByteArray.empty, ByteArray.empty, ())).1 == ByteArray.toList x1.1) = true then ((0 ≤ v7) ∧ (v7 < (↑(List.length x0) : Int)) ∧ (((List.length (h1 ++ [x1]) + 1) * 48 ≤ 140737488355328) ∧ ((InR .i64 (v7 + 1)) ∧ (R76_4 n (true) (v7 + 1) (h1 ++ [x1] ++ [List.getD x0 (Int.toNat v7) (ByteArray.empty, ByteArray.empty, ByteArray.empty, ())]) (x0) (x1) ds)))) else ((0 ≤ v7) ∧ (v7 < (↑(List.length x0) : Int)) ∧ (if (!ByteArray.toList (List.getD x0 (Int.toNat v7) (ByteArray.empty, ByteArray.empty, ByteArray.empty, ())).2.1 == ByteArray.toList x1.2.1) = true then ((0 ≤ v7) ∧ (v7 < (↑(List.length x0) : Int)) ∧ (((List.length (h1 ++ [x1]) + 1) * 48 ≤ 140737488355328) ∧ ((InR .i64 (v7 + 1)) ∧ (R76_4 n (true) (v7 + 1) (h1 ++ [x1] ++ [List.getD x0 (Int.toNat v7) (ByteArray.empty, ByteArray.empty, ByteArray.empty, ())]) (x0) (x1) ds)))) else ((InR .i64 (v7 + 1)) ∧ (R76_4 n (true) (v7 + 1) (h1 ++ [x1]) (x0) (x1) ds))))))) else ((0 ≤ v7) ∧ (v7 < (↑(List.length x0) : Int)) ∧ (if (!ByteArray.toList (List.getD x0 (Int.toNat v7) (ByteArray.empty, ByteArray.empty, ByteArray.empty, ())).1 == ByteArray.toList x1.1) = true then ((0 ≤ v7) ∧ (v7 < (↑(List.length x0) : Int)) ∧ (((List.length h1 + 1) * 48 ≤ 140737488355328) ∧ ((InR .i64 (v7 + 1)) ∧ (R76_4 n (v6) (v7 + 1) (h1 ++ [List.getD x0 (Int.toNat v7) (ByteArray.empty, ByteArray.empty, ByteArray.empty, ())]) (x0) (x1) ds)))) else ((0 ≤ v7) ∧ (v7 < (↑(List.length x0) : Int)) ∧ (if (!ByteArray.toList (List.getD x0 (Int.toNat v7) (ByteArray.empty, ByteArray.empty, ByteArray.empty, ())).2.1 == ByteArray.toList x1.2.1) = true then ((0 ≤ v7) ∧ (v7 < (↑(List.length x0) : Int)) ∧ (((List.length h1 + 1) * 48 ≤ 140737488355328) ∧ ((InR .i64 (v7 + 1)) ∧ (R76_4 n (v6) (v7 + 1) (h1 ++ [List.getD x0 (Int.toNat v7) (ByteArray.empty, ByteArray.empty, ByteArray.empty, ())]) (x0) (x1) ds)))) else ((InR .i64 (v7 + 1)) ∧ (R76_4 n (v6) (v7 + 1) (h1) (x0) (x1) ds)))))))) else ((0 ≤ v7) ∧ (v7 < (↑(List.length x0) : Int)) ∧ (if (!ByteArray.toList (List.getD x0 (Int.toNat v7) (ByteArray.empty, ByteArray.empty, ByteArray.empty, ())).1 == ByteArray.toList x1.1) = true then ((0 ≤ v7) ∧ (v7 < (↑(List.length x0) : Int)) ∧ (((List.length h1 + 1) * 48 ≤ 140737488355328) ∧ ((InR .i64 (v7 + 1)) ∧ (R76_4 n (v6) (v7 + 1) (h1 ++ [List.getD x0 (Int.toNat v7) (ByteArray.empty, ByteArray.empty, ByteArray.empty, ())]) (x0) (x1) ds)))) else ((0 ≤ v7) ∧ (v7 < (↑(List.length x0) : Int)) ∧ (if (!ByteArray.toList (List.getD x0 (Int.toNat v7) (ByteArray.empty, ByteArray.empty, ByteArray.empty, ())).2.1 == ByteArray.toList x1.2.1) = true then ((0 ≤ v7) ∧ (v7 < (↑(List.length x0) : Int)) ∧ (((List.length h1 + 1) * 48 ≤ 140737488355328) ∧ ((InR .i64 (v7 + 1)) ∧ (R76_4 n (v6) (v7 + 1) (h1 ++ [List.getD x0 (Int.toNat v7) (ByteArray.empty, ByteArray.empty, ByteArray.empty, ())]) (x0) (x1) ds)))) else ((InR .i64 (v7 + 1)) ∧ (R76_4 n (v6) (v7 + 1) (h1) (x0) (x1) ds))))))) else (if (!v6) = true then (((List.length h1 + 1) * 48 ≤ 140737488355328) ∧ (ds = [Dyn.mk (Ty.sl YA3) (h1 ++ [x1])])) else (ds = [Dyn.mk (Ty.sl YA3) h1])))
end
theorem snd76 : ∀ n, (∀ (x0 : List TyB1) (x1 : ByteArray × ByteArray × ByteArray × Unit) ds, R76 n x0 x1 ds → ∀ K q, AtV Tryz.prog 76 (PostR kds76 oks76 ds [] [] q K) 60 K q [] [.code b76] (entE 0 0 sig76 (x0, x1, ())) (entL sig76 (x0, x1, ()))) ∧ (∀ (v6 : Bool) (v7 : Int) (h1 : List TyB1) (x0 : List TyB1) (x1 : ByteArray × ByteArray × ByteArray × Unit) ds, R76_4 n v6 v7 h1 x0 x1 ds → ∀ K q, AtV Tryz.prog 76 (PostR kds76 oks76 ds [] [] q K) 60 K q [] (cutAt b76 4) (E76_4 v6 v7 h1 x0 x1) (L76_4 v6 v7 h1 x0 x1)) := by
  intro n
  induction n with
  | zero => exact ⟨fun _ _ _ h => by simp only [R76] at h, fun _ _ _ _ _ _ h => by simp only [R76_4] at h⟩
  | succ n ih =>
  obtain ⟨ih, ih4⟩ := ih
  refine ⟨?_, ?_⟩
  · intro x0 x1 ds h K q
    rw [R76] at h
    exact AtV.go tabOk ext76Ok mixed false [] [] [0, 3, 5, 6, 7] [0, 1] [] trivial (ih4 _ _ _ _ _ _ h K q) (by kernel_rfl)
  · intro v6 v7 h1 x0 x1 ds h K q
    rw [R76_4] at h
    by_cases b0 : (decide (v7 < (↑(List.length x0) : Int))) = true
    · rw [if_pos b0] at h
      by_cases b1 : (!v6) = true
      · rw [if_pos b1] at h
        obtain ⟨s0, s1, h⟩ := h
        by_cases b2 : (!g63_0 (List.getD x0 (Int.toNat v7) (ByteArray.empty, ByteArray.empty, ByteArray.empty, ())) x1) = true
        · rw [if_pos b2] at h
          obtain ⟨s2, h⟩ := h
          obtain ⟨s3, s4, h⟩ := h
          by_cases b3 : (!ByteArray.toList (List.getD x0 (Int.toNat v7) (ByteArray.empty, ByteArray.empty, ByteArray.empty, ())).1 == ByteArray.toList x1.1) = true
          · rw [if_pos b3] at h
            obtain ⟨s5, s6, h⟩ := h
            obtain ⟨s7, h⟩ := h
            obtain ⟨s8, h⟩ := h
            exact AtV.go tabOk ext76Ok mixed false [] [] [0, 3, 5, 6, 7] [0, 1] [true, true, true, true, true] (a1 b0 (a1 b1 (a1 s0 (a1 s1 (a1 trivial (a1 b2 (a1 s2 (a1 s3 (a1 s4 (a1 b3 (a1 (rfl : true = true) (a1 s5 (a1 s6 (a1 s7 (a1 s8 trivial))))))))))))))) (ih4 _ _ _ _ _ _ h K q) (by kernel_rfl)
          · rw [if_neg b3] at h
            replace b3 := Bool.eq_false_iff.2 b3
            obtain ⟨s5, s6, h⟩ := h
            by_cases b4 : (!ByteArray.toList (List.getD x0 (Int.toNat v7) (ByteArray.empty, ByteArray.empty, ByteArray.empty, ())).2.1 == ByteArray.toList x1.2.1) = true
            · rw [if_pos b4] at h
              obtain ⟨s7, s8, h⟩ := h
              obtain ⟨s9, h⟩ := h
              obtain ⟨s10, h⟩ := h
              exact AtV.go tabOk ext76Ok mixed false [] [] [0, 3, 5, 6, 7] [0, 1] [true, true, true, false, true] (a1 b0 (a1 b1 (a1 s0 (a1 s1 (a1 trivial (a1 b2 (a1 s2 (a1 s3 (a1 s4 (a1 b3 (a1 s5 (a1 s6 (a1 b4 (a1 s7 (a1 s8 (a1 s9 (a1 s10 trivial))))))))))))))))) (ih4 _ _ _ _ _ _ h K q) (by kernel_rfl)
            · rw [if_neg b4] at h
              replace b4 := Bool.eq_false_iff.2 b4
              obtain ⟨s7, h⟩ := h
              exact AtV.go tabOk ext76Ok mixed false [] [] [0, 3, 5, 6, 7] [0, 1] [true, true, true, false, false] (a1 b0 (a1 b1 (a1 s0 (a1 s1 (a1 trivial (a1 b2 (a1 s2 (a1 s3 (a1 s4 (a1 b3 (a1 s5 (a1 s6 (a1 b4 (a1 s7 trivial)))))))))))))) (ih4 _ _ _ _ _ _ h K q) (by kernel_rfl)
        · rw [if_neg b2] at h
          replace b2 := Bool.eq_false_iff.2 b2
          obtain ⟨s2, s3, h⟩ := h
          by_cases b3 : (!ByteArray.toList (List.getD x0 (Int.toNat v7) (ByteArray.empty, ByteArray.empty, ByteArray.empty, ())).1 == ByteArray.toList x1.1) = true
          · rw [if_pos b3] at h
            obtain ⟨s4, s5, h⟩ := h
            obtain ⟨s6, h⟩ := h
            obtain ⟨s7, h⟩ := h
            exact AtV.go tabOk ext76Ok mixed false [] [] [0, 3, 5, 6, 7] [0, 1] [true, true, false, true, true] (a1 b0 (a1 b1 (a1 s0 (a1 s1 (a1 trivial (a1 b2 (a1 s2 (a1 s3 (a1 b3 (a1 (rfl : true = true) (a1 s4 (a1 s5 (a1 s6 (a1 s7 trivial)))))))))))))) (ih4 _ _ _ _ _ _ h K q) (by kernel_rfl)
          · rw [if_neg b3] at h
            replace b3 := Bool.eq_false_iff.2 b3
            obtain ⟨s4, s5, h⟩ := h
            by_cases b4 : (!ByteArray.toList (List.getD x0 (Int.toNat v7) (ByteArray.empty, ByteArray.empty, ByteArray.empty, ())).2.1 == ByteArray.toList x1.2.1) = true
            · rw [if_pos b4] at h
              obtain ⟨s6, s7, h⟩ := h
              obtain ⟨s8, h⟩ := h
              obtain ⟨s9, h⟩ := h
              exact AtV.go tabOk ext76Ok mixed false [] [] [0, 3, 5, 6, 7] [0, 1] [true, true, false, false, true] (a1 b0 (a1 b1 (a1 s0 (a1 s1 (a1 trivial (a1 b2 (a1 s2 (a1 s3 (a1 b3 (a1 s4 (a1 s5 (a1 b4 (a1 s6 (a1 s7 (a1 s8 (a1 s9 trivial)))))))))))))))) (ih4 _ _ _ _ _ _ h K q) (by kernel_rfl)
            · rw [if_neg b4] at h
              replace b4 := Bool.eq_false_iff.2 b4
              obtain ⟨s6, h⟩ := h
              exact AtV.go tabOk ext76Ok mixed false [] [] [0, 3, 5, 6, 7] [0, 1] [true, true, false, false, false] (a1 b0 (a1 b1 (a1 s0 (a1 s1 (a1 trivial (a1 b2 (a1 s2 (a1 s3 (a1 b3 (a1 s4 (a1 s5 (a1 b4 (a1 s6 trivial))))))))))))) (ih4 _ _ _ _ _ _ h K q) (by kernel_rfl)
      · rw [if_neg b1] at h
        replace b1 := Bool.eq_false_iff.2 b1
        obtain ⟨s0, s1, h⟩ := h
        by_cases b2 : (!ByteArray.toList (List.getD x0 (Int.toNat v7) (ByteArray.empty, ByteArray.empty, ByteArray.empty, ())).1 == ByteArray.toList x1.1) = true
        · rw [if_pos b2] at h
          obtain ⟨s2, s3, h⟩ := h
          obtain ⟨s4, h⟩ := h
          obtain ⟨s5, h⟩ := h
          exact AtV.go tabOk ext76Ok mixed false [] [] [0, 3, 5, 6, 7] [0, 1] [true, false, false, true, true] (a1 b0 (a1 b1 (a1 (rfl : false = false) (a1 s0 (a1 s1 (a1 b2 (a1 (rfl : true = true) (a1 s2 (a1 s3 (a1 s4 (a1 s5 trivial))))))))))) (ih4 _ _ _ _ _ _ h K q) (by kernel_rfl)
        · rw [if_neg b2] at h
          replace b2 := Bool.eq_false_iff.2 b2
          obtain ⟨s2, s3, h⟩ := h
          by_cases b3 : (!ByteArray.toList (List.getD x0 (Int.toNat v7) (ByteArray.empty, ByteArray.empty, ByteArray.empty, ())).2.1 == ByteArray.toList x1.2.1) = true
          · rw [if_pos b3] at h
            obtain ⟨s4, s5, h⟩ := h
            obtain ⟨s6, h⟩ := h
            obtain ⟨s7, h⟩ := h
            exact AtV.go tabOk ext76Ok mixed false [] [] [0, 3, 5, 6, 7] [0, 1] [true, false, false, false, true] (a1 b0 (a1 b1 (a1 (rfl : false = false) (a1 s0 (a1 s1 (a1 b2 (a1 s2 (a1 s3 (a1 b3 (a1 s4 (a1 s5 (a1 s6 (a1 s7 trivial))))))))))))) (ih4 _ _ _ _ _ _ h K q) (by kernel_rfl)
          · rw [if_neg b3] at h
            replace b3 := Bool.eq_false_iff.2 b3
            obtain ⟨s4, h⟩ := h
            exact AtV.go tabOk ext76Ok mixed false [] [] [0, 3, 5, 6, 7] [0, 1] [true, false, false, false, false] (a1 b0 (a1 b1 (a1 (rfl : false = false) (a1 s0 (a1 s1 (a1 b2 (a1 s2 (a1 s3 (a1 b3 (a1 s4 trivial)))))))))) (ih4 _ _ _ _ _ _ h K q) (by kernel_rfl)
    · rw [if_neg b0] at h
      replace b0 := Bool.eq_false_iff.2 b0
      by_cases b1 : (!v6) = true
      · rw [if_pos b1] at h
        obtain ⟨s0, h⟩ := h
        subst h
        exact AtV.ret Tryz.func76 tabOk ext76Ok mixed false [] tys76 [false, true] (a1 b0 (a1 b1 (a1 s0 trivial))) (by kernel_rfl)
      · rw [if_neg b1] at h
        replace b1 := Bool.eq_false_iff.2 b1
        subst h
        exact AtV.ret Tryz.func76 tabOk ext76Ok mixed false [] tys76 [false, false] (a1 b0 (a1 b1 trivial)) (by kernel_rfl)
def st76 (t : TyB1) (s : List TyB1 × Bool) (x : TyB1) : List TyB1 × Bool :=
  (if (ByteArray.toList x.1 == ByteArray.toList t.1 && ByteArray.toList x.2.1 == ByteArray.toList t.2.1) = true then (if (!s.2 && !g63_0 x t) = true then s.1 ++ [t] else s.1) else (if (!s.2 && !g63_0 x t) = true then s.1 ++ [t] else s.1) ++ [x], s.2 || !g63_0 x t)
def fin76 (t : TyB1) (s : List TyB1 × Bool) : List TyB1 := if s.2 = true then s.1 else s.1 ++ [t]
def g76_0 (x0 : List TyB1) (x1 : TyB1) : List TyB1 := fin76 x1 (x0.foldl (st76 x1) ([], false))
def P76 (x0 : List TyB1) (x1 : TyB1) : Prop := x0.length ≤ 1048576
theorem stl76 (t : TyB1) (s : List TyB1 × Bool) (x : TyB1) (i : Nat) (h : s.1.length ≤ 2 * i) : (st76 t s x).1.length ≤ 2 * (i + 1) := by
  unfold st76
  cases (ByteArray.toList x.1 == ByteArray.toList t.1 && ByteArray.toList x.2.1 == ByteArray.toList t.2.1) <;> cases (!s.2 && !g63_0 x t) <;> simp <;> omega
set_option maxHeartbeats 1000000 in
theorem top76 (x0 : List TyB1) (x1 : TyB1) (hp : P76 x0 x1) : R76 (x0.length + 1 + 1) x0 x1 [⟨.sl (.cons .str (.cons .str (.cons .str .unit))), g76_0 x0 x1⟩] := by
  have hl : x0.length ≤ 1048576 := hp
  have hm : x0.length ≤ maxLen := by unfold maxLen; omega
  rw [R76]
  have key : ∀ d : List Dyn, d = [(⟨.sl (.cons .str (.cons .str (.cons .str .unit))), fin76 x1 (x0.foldl (st76 x1) ([], false))⟩ : Dyn)] → R76_4 (x0.length + 1) false 0 [] x0 x1 d → R76_4 (x0.length + 1) false 0 [] x0 x1 [⟨.sl (.cons .str (.cons .str (.cons .str .unit))), g76_0 x0 x1⟩] := fun d hd h => by rw [hd] at h; exact h
  refine key _ rfl ?_
  clear key
  refine loop_fold (β := List TyB1 × Bool) (δ := List Dyn) (b := ([], false)) x0 (ByteArray.empty, ByteArray.empty, ByteArray.empty, ()) (st76 x1) (fun s => [(⟨.sl (.cons .str (.cons .str (.cons .str .unit))), fin76 x1 s⟩ : Dyn)]) (fun n s => s.1.length ≤ 2 * n) (fun n i s ds => R76_4 n s.2 i s.1 x0 x1 ds) (by simp) (fun n s hs => ?_) (fun n i s hi hs => ⟨stl76 x1 s _ i hs, fun ds hr => ?_⟩)
  · show R76_4 (n + 1) s.2 (x0.length : Int) s.1 x0 x1 _
    rw [R76_4, if_neg (by simp)]
    obtain ⟨h, d⟩ := s
    simp only at hs ⊢
    unfold fin76
    cases d with
    | true => simp
    | false =>
      exact ⟨by omega, rfl⟩
  · have hup := inR_up hm hi
    obtain ⟨h, d⟩ := s
    simp only at hs
    have b0 : (0 : Int) ≤ (i : Int) := by omega
    have b1 : (i : Int) < (x0.length : Int) := by omega
    have c1 : ((h.length + 1 : Nat) : Nat) * 48 ≤ 140737488355328 := by omega
    have c2 : ((h ++ [x1]).length + 1) * 48 ≤ 140737488355328 := by
      have e : (h ++ [x1]).length = h.length + 1 := by rw [List.length_append, List.length_singleton]
      omega
    show R76_4 (n + 1) d (i : Int) h x0 x1 ds
    rw [R76_4, if_pos (by simp only [decide_eq_true_eq]; omega)]
    unfold st76 at hr
    simp only [Int.toNat_natCast] at hr ⊢
    generalize x0.getD i (ByteArray.empty, ByteArray.empty, ByteArray.empty, ()) = y at *
    cases d <;> cases hb : g63_0 y x1 <;> cases hk : (ByteArray.toList y.1 == ByteArray.toList x1.1) <;> cases hn : (ByteArray.toList y.2.1 == ByteArray.toList x1.2.1) <;>
      simp only [hb, hk, hn, Bool.not_true, Bool.not_false, Bool.and_true, Bool.and_false, Bool.true_and, Bool.false_and, Bool.or_true, Bool.or_false, Bool.true_or, Bool.false_or, if_true, if_false, Bool.false_eq_true, b0, b1, c1, c2, hup, true_and] at hr ⊢ <;> exact hr
def S76 : Am.Spec := { sig := sig76, pre := fun ⟨x0, x1, _⟩ => P76 x0 x1, res := fun ⟨x0, x1, _⟩ => [⟨.sl (.cons .str (.cons .str (.cons .str .unit))), g76_0 x0 x1⟩] }
theorem con76 : Contract Tryz.prog 76 S76 := contract_of Tryz.func76 hb76 (Nat.le_of_ble_eq_true (by kernel_rfl)) (fun ⟨x0, x1, _⟩ h hwf K q =>
  (snd76 _).1 x0 x1 _ (top76 x0 x1 h) K q)
theorem len76 (x0 : List TyB1) (x1 : TyB1) : (g76_0 x0 x1).length ≤ x0.length + 1 := by
  have key : ∀ (l : List TyB1) (s : List TyB1 × Bool) (n : Nat), s.1.length ≤ n + (if s.2 = true then 1 else 0) → (l.foldl (st76 x1) s).1.length ≤ n + l.length + (if (l.foldl (st76 x1) s).2 = true then 1 else 0) := by
    intro l
    induction l with
    | nil => intro s n h; exact h
    | cons y r ih =>
      intro s n h
      rw [List.foldl_cons]
      have := ih (st76 x1 s y) (n + 1) (by
        obtain ⟨a, d⟩ := s
        simp only at h
        unfold st76
        cases (ByteArray.toList y.1 == ByteArray.toList x1.1 && ByteArray.toList y.2.1 == ByteArray.toList x1.2.1) <;> cases g63_0 y x1 <;> cases d <;> simp at h ⊢ <;> omega)
      rw [List.length_cons]
      omega
  have := key x0 ([], false) 0 (by simp)
  unfold g76_0 fin76
  generalize x0.foldl (st76 x1) ([], false) = s at *
  obtain ⟨a, d⟩ := s
  cases d with
  | true => simp at this ⊢; omega
  | false => simp at this ⊢; omega
end
noncomputable section
def ext46 : Ext := [(37, S37), (62, S62), (76, S76)]
theorem ext46Ok : ExtOk Tryz.prog ext46 := ⟨⟨ca37, con37⟩, ⟨ca62, con62⟩, ⟨ca76, con76⟩, trivial⟩
noncomputable def b46 : Code := bodyOf Tryz.f46
theorem hb46 : Tryz.f46.body = some b46 := by kernel_rfl
def sig46 : List AT := [AT.v (Ty.sl YA3), AT.v YA3]
def tys46 : List Ty := [Ty.sl YA3, Ty.int .i64]
def kds46 : List RK := []
def oks46 : List AT := owns sig46
def P46 (x0 : List TyB1) (x1 : ByteArray × ByteArray × ByteArray × Unit) : Prop := (if (!g37_0 x0) = true then True else (if (!g62_0 x1) = true then True else ((P76 x0 x1) ∧ True)))
def g46_0 (x0 : List TyB1) (x1 : ByteArray × ByteArray × ByteArray × Unit) : List TyB1 := (if (!g37_0 x0) = true then [] else (if (!g62_0 x1) = true then [] else (if (decide ((↑(List.length (g76_0 x0 x1)) : Int) > 32)) = true then [] else g76_0 x0 x1)))
def g46_1 (x0 : List TyB1) (x1 : ByteArray × ByteArray × ByteArray × Unit) : Int := (if (!g37_0 x0) = true then 1 else (if (!g62_0 x1) = true then 1 else (if (decide ((↑(List.length (g76_0 x0 x1)) : Int) > 32)) = true then 5 else 0)))
theorem at46 (x0 : List TyB1) (x1 : ByteArray × ByteArray × ByteArray × Unit) (h : P46 x0 x1) (K : Ctx) (q : Nat → Value) : AtV Tryz.prog 46 (PostR kds46 oks46 [⟨Ty.sl YA3, g46_0 x0 x1⟩, ⟨Ty.int .i64, g46_1 x0 x1⟩] [] [] q K) 21 K q [] [.code b46] (entE 0 0 sig46 (x0, x1, ())) (entL sig46 (x0, x1, ())) := by
  unfold P46 at h
  unfold g46_0 g46_1
  by_cases b0 : (!g37_0 x0) = true
  · try simp only [if_pos b0] at h ⊢
    exact AtV.ret Tryz.func46 tabOk ext46Ok mixed false [] tys46 [true, true] (a1 trivial (a1 b0 (a1 (rfl : true = true) trivial))) (by kernel_rfl)
  · try simp only [if_neg b0] at h ⊢
    replace b0 := Bool.eq_false_iff.2 b0
    by_cases b1 : (!g62_0 x1) = true
    · try simp only [if_pos b1] at h ⊢
      exact AtV.ret Tryz.func46 tabOk ext46Ok mixed false [] tys46 [false, true] (a1 trivial (a1 b0 (a1 trivial (a1 b1 trivial)))) (by kernel_rfl)
    · try simp only [if_neg b1] at h ⊢
      replace b1 := Bool.eq_false_iff.2 b1
      obtain ⟨s0, h⟩ := h
      by_cases b2 : (decide ((↑(List.length (g76_0 x0 x1)) : Int) > 32)) = true
      · try simp only [if_pos b2] at h ⊢
        exact AtV.ret Tryz.func46 tabOk ext46Ok mixed false [] tys46 [false, false, true] (a1 trivial (a1 b0 (a1 trivial (a1 b1 (a1 s0 (a1 b2 trivial)))))) (by kernel_rfl)
      · try simp only [if_neg b2] at h ⊢
        replace b2 := Bool.eq_false_iff.2 b2
        exact AtV.ret Tryz.func46 tabOk ext46Ok mixed false [] tys46 [false, false, false] (a1 trivial (a1 b0 (a1 trivial (a1 b1 (a1 s0 (a1 b2 trivial)))))) (by kernel_rfl)
def S46 : Am.Spec := { sig := sig46, pre := fun ⟨x0, x1, _⟩ => P46 x0 x1, res := fun ⟨x0, x1, _⟩ => [⟨Ty.sl YA3, g46_0 x0 x1⟩, ⟨Ty.int .i64, g46_1 x0 x1⟩], kds := kds46 }
theorem con46 : Contract Tryz.prog 46 S46 := contract_of Tryz.func46 hb46 (Nat.le_of_ble_eq_true (by kernel_rfl)) (fun ⟨x0, x1, _⟩ h _ K q => at46 x0 x1 h K q)
end
theorem before_iff (a b : TyB1) : g63_0 a b = true ↔ sless a.1 b.1 = true ∨ (a.1 = b.1 ∧ sless a.2.1 b.2.1 = true) := by
  unfold g63_0 sless
  have e := bytes_eq a.1 b.1
  cases h1 : Op.bytesLess (ByteArray.toList a.1) (ByteArray.toList b.1) with
  | true => simp
  | false =>
    cases h2 : (ByteArray.toList a.1 == ByteArray.toList b.1) with
    | true => rw [h2] at e; simp [e.1 rfl]
    | false =>
      rw [h2] at e
      have : a.1 ≠ b.1 := fun h => by have := e.2 h; cases this
      simp [this]
theorem before_trans {a b c : TyB1} (h1 : g63_0 a b = true) (h2 : g63_0 b c = true) : g63_0 a c = true := by
  rw [before_iff] at *
  rcases h1 with h1 | ⟨e1, h1⟩
  · rcases h2 with h2 | ⟨e2, h2⟩
    · exact .inl (sless_trans h1 h2)
    · exact .inl (by rw [← e2]; exact h1)
  · rcases h2 with h2 | ⟨e2, h2⟩
    · exact .inl (by rw [e1]; exact h2)
    · exact .inr ⟨e1.trans e2, sless_trans h1 h2⟩
def twins (a b : TyB1) : Prop := a.1 = b.1 ∧ a.2.1 = b.2.1
theorem before_twins {a b : TyB1} (h : twins a b) : g63_0 a b = false := by
  rw [Bool.eq_false_iff]
  intro hb
  rw [before_iff, h.1, h.2, sless_irrefl, sless_irrefl] at hb
  simp at hb
theorem before_left {a b c : TyB1} (h : twins b c) (hb : g63_0 a b = true) : g63_0 a c = true := by
  rw [before_iff] at *
  rw [← h.1, ← h.2]
  exact hb
theorem before_tri {a b : TyB1} (h1 : g63_0 a b = false) (h2 : ¬ twins a b) : g63_0 b a = true := by
  rw [Bool.eq_false_iff, ne_eq, before_iff, not_or] at h1
  rw [before_iff]
  cases h3 : sless b.1 a.1 with
  | true => exact .inl rfl
  | false =>
    have e : a.1 = b.1 := sless_tri (Bool.eq_false_iff.2 h1.1) h3
    refine .inr ⟨e.symm, ?_⟩
    cases h4 : sless b.2.1 a.2.1 with
    | true => rfl
    | false =>
      exfalso
      refine h2 ⟨e, sless_tri (Bool.eq_false_iff.2 fun h => h1.2 ⟨e, h⟩) h4⟩
theorem allI_get {α : Type} {q : Nat → α → Bool} : ∀ {l : List α} {i : Nat}, allI q i l = true → ∀ (j : Nat) (h : j < l.length), q (i + j) l[j] = true
  | x :: r, i, h, j, hj => by
    simp only [allI, Bool.and_eq_true] at h
    cases j with
    | zero => exact h.1
    | succ j =>
      have := allI_get h.2 j (by simpa using hj)
      rw [show i + (j + 1) = i + 1 + j from by omega]
      exact this
  | [], _, _, j, hj => by cases hj
theorem sorted (x : List TyB1) (h : g37_0 x = true) : x.length ≤ 32 ∧ ∀ i j : Nat, i < j → (hj : j < x.length) → g63_0 (x.getD i (ByteArray.empty, ByteArray.empty, ByteArray.empty, ())) (x.getD j (ByteArray.empty, ByteArray.empty, ByteArray.empty, ())) = true := by
  unfold g37_0 at h
  simp only [Bool.and_eq_true, decide_eq_true_eq] at h
  refine ⟨h.2, ?_⟩
  have step : ∀ j : Nat, j + 1 < x.length → g63_0 (x.getD j (ByteArray.empty, ByteArray.empty, ByteArray.empty, ())) (x.getD (j + 1) (ByteArray.empty, ByteArray.empty, ByteArray.empty, ())) = true := fun j hj => by
    have := allI_get h.1 (j + 1) hj
    rw [Nat.zero_add] at this
    unfold ok37 at this
    simp only [Bool.and_eq_true, Nat.add_sub_cancel] at this
    rw [getD_lt x (j + 1) _ hj]
    simpa using this.2
  intro i j hij
  induction j with
  | zero => omega
  | succ j ih =>
    intro hj
    rcases Nat.lt_or_ge i j with hlt | hge
    · exact before_trans (ih hlt (by omega)) (step j hj)
    · have : i = j := by omega
      subst this
      exact step i hj
theorem cut_atS (p : Nat → Bool) : ∀ N : Nat, (∀ i j, i < j → j < N → p j = true → p i = true) → ∃ k, k ≤ N ∧ ∀ i, i < N → p i = decide (i < k)
  | 0, _ => ⟨0, Nat.le_refl _, fun i h => by omega⟩
  | N + 1, hm => by
    obtain ⟨k, h1, h2⟩ := cut_atS p N (fun i j hij hj => hm i j hij (by omega))
    cases hp : p N with
    | true =>
      refine ⟨N + 1, Nat.le_refl _, fun i hi => ?_⟩
      rw [decide_eq_true hi]
      rcases Nat.lt_or_ge i N with h | h
      · exact hm i N h (by omega) hp
      · rw [show i = N from by omega]; exact hp
    | false =>
      refine ⟨k, by omega, fun i hi => ?_⟩
      rcases Nat.lt_or_ge i N with h | h
      · exact h2 i h
      · rw [show i = N from by omega, hp, decide_eq_false (by omega)]
def Srt (x : List TyB1) : Prop := ∀ i j : Nat, i < j → j < x.length → g63_0 (x.getD i (ByteArray.empty, ByteArray.empty, ByteArray.empty, ())) (x.getD j (ByteArray.empty, ByteArray.empty, ByteArray.empty, ())) = true
theorem twinB (y t : TyB1) : (ByteArray.toList y.1 == ByteArray.toList t.1 && ByteArray.toList y.2.1 == ByteArray.toList t.2.1) = true ↔ twins y t := by
  unfold twins
  rw [Bool.and_eq_true, bytes_eq, bytes_eq]
theorem put_low (t : TyB1) : ∀ (l h : List TyB1), (∀ y ∈ l, g63_0 y t = true) → l.foldl (st76 t) (h, false) = (h ++ l, false)
  | [], h, _ => by simp
  | y :: r, h, hl => by
    have hb := hl y (List.mem_cons_self ..)
    have ht : ¬ twins y t := fun h => by rw [before_twins h] at hb; cases hb
    have hf : (ByteArray.toList y.1 == ByteArray.toList t.1 && ByteArray.toList y.2.1 == ByteArray.toList t.2.1) = false := Bool.eq_false_iff.2 fun h => ht ((twinB y t).1 h)
    have e : st76 t (h, false) y = (h ++ [y], false) := by
      unfold st76
      rw [hf, hb]
      rfl
    rw [List.foldl_cons, e, put_low t r (h ++ [y]) (fun z hz => hl z (List.mem_cons_of_mem _ hz))]
    simp
theorem put_high (t : TyB1) : ∀ (l h : List TyB1), (∀ y ∈ l, ¬ twins y t) → l.foldl (st76 t) (h, true) = (h ++ l, true)
  | [], h, _ => by simp
  | y :: r, h, hl => by
    have ht := hl y (List.mem_cons_self ..)
    have hf : (ByteArray.toList y.1 == ByteArray.toList t.1 && ByteArray.toList y.2.1 == ByteArray.toList t.2.1) = false := Bool.eq_false_iff.2 fun h => ht ((twinB y t).1 h)
    have e : st76 t (h, true) y = (h ++ [y], true) := by
      unfold st76
      rw [hf]
      rfl
    rw [List.foldl_cons, e, put_high t r (h ++ [y]) (fun z hz => hl z (List.mem_cons_of_mem _ hz))]
    simp
theorem mem_take_get {x : List TyB1} {K : Nat} {y : TyB1} (h : y ∈ x.take K) : ∃ i, i < K ∧ i < x.length ∧ y = x.getD i (ByteArray.empty, ByteArray.empty, ByteArray.empty, ()) := by
  obtain ⟨i, hi, rfl⟩ := List.mem_iff_getElem.1 h
  rw [List.length_take] at hi
  exact ⟨i, by omega, by omega, by rw [List.getElem_take, getD_lt _ _ _ (by omega)]⟩
theorem mem_drop_get {x : List TyB1} {K : Nat} {y : TyB1} (h : y ∈ x.drop K) : ∃ i, K ≤ i ∧ i < x.length ∧ y = x.getD i (ByteArray.empty, ByteArray.empty, ByteArray.empty, ()) := by
  obtain ⟨i, hi, rfl⟩ := List.mem_iff_getElem.1 h
  rw [List.length_drop] at hi
  exact ⟨K + i, by omega, by omega, by rw [List.getElem_drop, getD_lt _ _ _ (by omega)]⟩
open Classical in
theorem put_at (x : List TyB1) (t : TyB1) (hs : Srt x) (K : Nat) (hK : K ≤ x.length) (h1 : ∀ i, i < K → g63_0 (x.getD i (ByteArray.empty, ByteArray.empty, ByteArray.empty, ())) t = true) (h2 : ∀ i, K ≤ i → i < x.length → g63_0 (x.getD i (ByteArray.empty, ByteArray.empty, ByteArray.empty, ())) t = false) :
    g76_0 x t = if K < x.length ∧ twins (x.getD K (ByteArray.empty, ByteArray.empty, ByteArray.empty, ())) t then x.take K ++ t :: x.drop (K + 1) else x.take K ++ t :: x.drop K := by
  unfold g76_0
  have e : x.foldl (st76 t) ([], false) = (x.drop K).foldl (st76 t) (x.take K, false) := by
    conv => lhs; rw [← List.take_append_drop K x]
    rw [List.foldl_append, put_low t _ _ (fun y hy => by
      obtain ⟨i, hi, _, rfl⟩ := mem_take_get hy
      exact h1 i hi)]
    rfl
  rw [e]
  by_cases hlt : K < x.length
  · have hd : x.drop K = x.getD K (ByteArray.empty, ByteArray.empty, ByteArray.empty, ()) :: x.drop (K + 1) := drop_get x K _ hlt
    have hb := h2 K (Nat.le_refl _) hlt
    have hrest : ∀ y ∈ x.drop (K + 1), ¬ twins y t := fun y hy ht => by
      obtain ⟨i, hi, hl, rfl⟩ := mem_drop_get hy
      have := before_left ht (hs K i (by omega) hl)
      rw [hb] at this
      cases this
    rw [hd, List.foldl_cons]
    by_cases htw : twins (x.getD K (ByteArray.empty, ByteArray.empty, ByteArray.empty, ())) t
    · have e2 : st76 t (x.take K, false) (x.getD K (ByteArray.empty, ByteArray.empty, ByteArray.empty, ())) = (x.take K ++ [t], true) := by
        unfold st76
        rw [(twinB _ t).2 htw, hb]
        rfl
      rw [e2, put_high t _ _ hrest, if_pos ⟨hlt, htw⟩]
      simp [fin76]
    · have hf : (ByteArray.toList (x.getD K (ByteArray.empty, ByteArray.empty, ByteArray.empty, ())).1 == ByteArray.toList t.1 && ByteArray.toList (x.getD K (ByteArray.empty, ByteArray.empty, ByteArray.empty, ())).2.1 == ByteArray.toList t.2.1) = false := Bool.eq_false_iff.2 fun h => htw ((twinB _ t).1 h)
      have e2 : st76 t (x.take K, false) (x.getD K (ByteArray.empty, ByteArray.empty, ByteArray.empty, ())) = (x.take K ++ [t] ++ [x.getD K (ByteArray.empty, ByteArray.empty, ByteArray.empty, ())], true) := by
        unfold st76
        rw [hf, hb]
        rfl
      rw [e2, put_high t _ _ hrest, if_neg (fun h => htw h.2)]
      simp [fin76]
  · have : K = x.length := by omega
    rw [List.drop_of_length_le (by omega), if_neg (fun h => hlt h.1)]
    simp [fin76]
theorem before_right {a b c : TyB1} (h : twins a b) (hb : g63_0 a c = true) : g63_0 b c = true := by
  rw [before_iff] at *
  rw [← h.1, ← h.2]
  exact hb
theorem srt_join {a b : List TyB1} {t : TyB1} (ha : Srt a) (hb : Srt b) (h1 : ∀ y ∈ a, g63_0 y t = true) (h2 : ∀ y ∈ b, g63_0 t y = true) : Srt (a ++ t :: b) := by
  have get : ∀ i, i < (a ++ t :: b).length → (i < a.length ∧ (a ++ t :: b).getD i (ByteArray.empty, ByteArray.empty, ByteArray.empty, ()) = a.getD i (ByteArray.empty, ByteArray.empty, ByteArray.empty, ())) ∨ (i = a.length ∧ (a ++ t :: b).getD i (ByteArray.empty, ByteArray.empty, ByteArray.empty, ()) = t) ∨ (a.length < i ∧ i - a.length - 1 < b.length ∧ (a ++ t :: b).getD i (ByteArray.empty, ByteArray.empty, ByteArray.empty, ()) = b.getD (i - a.length - 1) (ByteArray.empty, ByteArray.empty, ByteArray.empty, ())) := fun i hi => by
    simp only [List.length_append, List.length_cons] at hi
    rw [List.getD_eq_getElem?_getD]
    rcases Nat.lt_trichotomy i a.length with h | h | h
    · left; refine ⟨h, ?_⟩; rw [List.getElem?_append_left h, List.getD_eq_getElem?_getD]
    · right; left; refine ⟨h, ?_⟩; rw [List.getElem?_append_right (by omega), h, Nat.sub_self]; rfl
    · right; right
      obtain ⟨m, hm⟩ : ∃ m, i - a.length = m + 1 := ⟨i - a.length - 1, by omega⟩
      refine ⟨h, by omega, ?_⟩
      rw [List.getElem?_append_right (by omega), hm, List.getElem?_cons_succ, Nat.add_sub_cancel, List.getD_eq_getElem?_getD]
  have mem : ∀ (l : List TyB1) i, i < l.length → l.getD i (ByteArray.empty, ByteArray.empty, ByteArray.empty, ()) ∈ l := fun l i hi => by rw [getD_lt _ _ _ hi]; exact List.getElem_mem _
  intro i j hij hj
  rcases get i (by omega) with ⟨i1, ei⟩ | ⟨i1, ei⟩ | ⟨i1, i2, ei⟩ <;> rcases get j hj with ⟨j1, ej⟩ | ⟨j1, ej⟩ | ⟨j1, j2, ej⟩ <;> rw [ei, ej]
  · exact ha i j hij j1
  · exact h1 _ (mem a i i1)
  · exact before_trans (h1 _ (mem a i i1)) (h2 _ (mem b _ j2))
  · omega
  · omega
  · exact h2 _ (mem b _ j2)
  · omega
  · omega
  · exact hb _ _ (by omega) j2
theorem srt_take {x : List TyB1} (h : Srt x) (K : Nat) : Srt (x.take K) := fun i j hij hj => by
  rw [List.length_take] at hj
  have := h i j hij (by omega)
  rw [getD_lt _ _ _ (by omega), getD_lt _ _ _ (by omega)] at this
  rw [getD_lt _ _ _ (by rw [List.length_take]; omega), getD_lt _ _ _ (by rw [List.length_take]; omega), List.getElem_take, List.getElem_take]
  exact this
theorem srt_drop {x : List TyB1} (h : Srt x) (K : Nat) : Srt (x.drop K) := fun i j hij hj => by
  rw [List.length_drop] at hj
  have := h (K + i) (K + j) (by omega) (by omega)
  rw [getD_lt _ _ _ (by omega), getD_lt _ _ _ (by omega)] at this
  rw [getD_lt _ _ _ (by rw [List.length_drop]; omega), getD_lt _ _ _ (by rw [List.length_drop]; omega), List.getElem_drop, List.getElem_drop]
  exact this
theorem low_before {x : List TyB1} {t : TyB1} {K : Nat} (p2 : ∀ i, i < K → g63_0 (x.getD i (ByteArray.empty, ByteArray.empty, ByteArray.empty, ())) t = true) : ∀ y ∈ x.take K, g63_0 y t = true := fun y hy => by
  obtain ⟨i, hi, _, rfl⟩ := mem_take_get hy
  exact p2 i hi
theorem place_ex (x : List TyB1) (t : TyB1) (hs : Srt x) : ∃ K, K ≤ x.length ∧ (∀ i, i < K → g63_0 (x.getD i (ByteArray.empty, ByteArray.empty, ByteArray.empty, ())) t = true) ∧ (∀ i, K ≤ i → i < x.length → g63_0 (x.getD i (ByteArray.empty, ByteArray.empty, ByteArray.empty, ())) t = false) := by
  obtain ⟨k, hk1, hk2⟩ := cut_atS (fun i => g63_0 (x.getD i (ByteArray.empty, ByteArray.empty, ByteArray.empty, ())) t) x.length (fun i j hij hj h => before_trans (hs i j hij hj) h)
  exact ⟨k, hk1, fun i hi => by rw [hk2 i (by omega)]; simpa using hi, fun i hi hl => by rw [hk2 i hl]; simpa using hi⟩
theorem put_parts (x : List TyB1) (t : TyB1) (hs : Srt x) : ∃ a b : List TyB1, g76_0 x t = a ++ t :: b ∧ (∀ y ∈ a, y ∈ x ∧ g63_0 y t = true) ∧ (∀ y ∈ b, y ∈ x ∧ g63_0 t y = true) ∧ (∀ y ∈ x, ¬ twins y t → y ∈ a ++ b) ∧ Srt (a ++ t :: b) ∧ (x = a ++ b ∨ ∃ y, twins y t ∧ x = a ++ y :: b) := by
  obtain ⟨K, p1, p2, p3⟩ := place_ex x t hs
  have e := put_at x t hs K p1 p2 p3
  have low := low_before p2
  by_cases h : K < x.length ∧ twins (x.getD K (ByteArray.empty, ByteArray.empty, ByteArray.empty, ())) t
  · rw [if_pos h] at e
    have hd : x.drop K = x.getD K (ByteArray.empty, ByteArray.empty, ByteArray.empty, ()) :: x.drop (K + 1) := drop_get x K _ h.1
    have ex : x = x.take K ++ x.getD K (ByteArray.empty, ByteArray.empty, ByteArray.empty, ()) :: x.drop (K + 1) := by rw [← hd, List.take_append_drop]
    have hb : ∀ y ∈ x.drop (K + 1), g63_0 t y = true := fun y hy => by
      obtain ⟨i, hi, hl, rfl⟩ := mem_drop_get hy
      exact before_right h.2 (hs K i (by omega) hl)
    refine ⟨x.take K, x.drop (K + 1), e, fun y hy => ⟨List.mem_of_mem_take hy, low y hy⟩, fun y hy => ⟨List.mem_of_mem_drop hy, hb y hy⟩, fun y hy hn => ?_, srt_join (srt_take hs K) (srt_drop hs _) low hb, .inr ⟨_, h.2, ex⟩⟩
    rw [ex] at hy
    rcases List.mem_append.1 hy with hy | hy
    · exact List.mem_append_left _ hy
    · rcases List.mem_cons.1 hy with rfl | hy
      · exact absurd h.2 hn
      · exact List.mem_append_right _ hy
  · rw [if_neg h] at e
    have hb : ∀ y ∈ x.drop K, g63_0 t y = true := fun y hy => by
      obtain ⟨i, hi, hl, rfl⟩ := mem_drop_get hy
      refine before_tri (p3 i hi hl) (fun ht => ?_)
      rcases Nat.lt_or_ge K i with hlt | hge
      · have := before_left ht (hs K i hlt hl)
        rw [p3 K (Nat.le_refl _) (by omega)] at this
        cases this
      · have : i = K := by omega
        subst this
        exact h ⟨hl, ht⟩
    refine ⟨x.take K, x.drop K, e, fun y hy => ⟨List.mem_of_mem_take hy, low y hy⟩, fun y hy => ⟨List.mem_of_mem_drop hy, hb y hy⟩, fun y hy hn => ?_, srt_join (srt_take hs K) (srt_drop hs _) low hb, .inl (List.take_append_drop K x).symm⟩
    rw [List.take_append_drop]
    exact hy
theorem srt_step {x : List TyB1} (h : Srt x) (j : Nat) (hj : j + 1 < x.length) : g63_0 (x.getD j (ByteArray.empty, ByteArray.empty, ByteArray.empty, ())) (x.getD (j + 1) (ByteArray.empty, ByteArray.empty, ByteArray.empty, ())) = true := h j (j + 1) (by omega) hj
theorem allI_of {α : Type} {q : Nat → α → Bool} : ∀ {l : List α} {i : Nat}, (∀ (j : Nat) (h : j < l.length), q (i + j) l[j] = true) → allI q i l = true
  | [], _, _ => rfl
  | x :: r, i, h => by
    simp only [allI, Bool.and_eq_true]
    refine ⟨h 0 (by simp), allI_of fun j hj => ?_⟩
    have := h (j + 1) (by simpa using hj)
    rw [show i + (j + 1) = i + 1 + j from by omega] at this
    exact this
theorem ok_of_srt {x : List TyB1} (h1 : ∀ y ∈ x, g62_0 y = true) (h2 : Srt x) (h3 : x.length ≤ 32) : g37_0 x = true := by
  unfold g37_0
  rw [decide_eq_true h3, Bool.and_true]
  refine allI_of fun j hj => ?_
  unfold ok37
  rw [Nat.zero_add, h1 _ (List.getElem_mem hj), Bool.true_and]
  cases j with
  | zero => rfl
  | succ j =>
    have := srt_step h2 j hj
    rw [getD_lt x (j + 1) _ hj] at this
    simp only [Nat.add_sub_cancel]
    rw [this, Bool.or_true]
theorem ok_one {x : List TyB1} (h : g37_0 x = true) : ∀ y ∈ x, g62_0 y = true := fun y hy => by
  unfold g37_0 at h
  rw [Bool.and_eq_true] at h
  obtain ⟨j, hj, rfl⟩ := List.mem_iff_getElem.1 hy
  have := allI_get h.1 j hj
  unfold ok37 at this
  rw [Bool.and_eq_true] at this
  exact this.1
theorem ok_srt {x : List TyB1} (h : g37_0 x = true) : Srt x := fun i j hij hj => (sorted x h).2 i j hij hj
noncomputable section
def ext19 : Ext := [(45, S45), (47, S47), (46, S46)]
theorem ext19Ok : ExtOk Tryz.prog ext19 := ⟨⟨ca45, con45⟩, ⟨ca47, con47⟩, ⟨ca46, con46⟩, trivial⟩
noncomputable def b19 : Code := bodyOf Tryz.f19
theorem hb19 : Tryz.f19.body = some b19 := by kernel_rfl
def sig19 : List AT := [AT.pb YA2]
def tys19 : List Ty := [Ty.sl YA3]
def kds19 : List RK := []
def oks19 : List AT := owns sig19
def E19_3 (v4 : Int) (h0 : List Int × Int × Int × Unit) (h1 : List TyB1) : Env := [(0, PV.a (Atom.optr 0 0 [])), (3, PV.a (Atom.osl 1 Option.none)), (4, PV.a (Atom.val (Value.int .i64 v4)))]
def L19_3 (v4 : Int) (h0 : List Int × Int × Int × Unit) (h1 : List TyB1) : Heap := [Option.some (Arr.mk YA2 [h0] true Option.none (Option.some true)), Option.some (Arr.mk YA3 h1 false Option.none Option.none)]
mutual
def R19 : Nat → List Int × Int × Int × Unit → List Dyn → List (Option Lst) → Prop
  | 0, _, _, _ => False
  | n + 1, x0, ds, us => ((P45 x0 6) ∧ (R19_3 n (g45_0 x0 6) (u45_0 x0 6) ([]) ds us))
def R19_3 : Nat → Int → List Int × Int × Int × Unit → List TyB1 → List Dyn → List (Option Lst) → Prop
  | 0, _, _, _, _, _ => False
  | n + 1, v4, h0, h1, ds, us => (if (decide (v4 > 0)) = true then ((P47 h0) ∧ ((P46 h1 (g47_0 h0)) ∧ (if (g46_1 h1 (g47_0 h0) == 0) = true then ((InR .i64 (v4 - 1)) ∧ (R19_3 n (v4 - 1) (u47_0 h0) (g46_0 h1 (g47_0 h0)) ds us)) else ((InR .i64 (v4 - 1)) ∧ (R19_3 n (v4 - 1) (u47_0 h0) (h1) ds us))))) else (ds = [Dyn.mk (Ty.sl YA3) h1] ∧ us = [Option.some (Lst.mk YA2 [h0])]))
end
theorem snd19 : ∀ n, (∀ (x0 : List Int × Int × Int × Unit) ds us, R19 n x0 ds us → ∀ K q, AtV Tryz.prog 19 (PostR kds19 oks19 ds us [0] q K) 25 K q [0] [.code b19] (entE 0 0 sig19 (x0, ())) (entL sig19 (x0, ()))) ∧ (∀ (v4 : Int) (h0 : List Int × Int × Int × Unit) (h1 : List TyB1) ds us, R19_3 n v4 h0 h1 ds us → ∀ K q, AtV Tryz.prog 19 (PostR kds19 oks19 ds us [0] q K) 25 K q [0] (cutAt b19 3) (E19_3 v4 h0 h1) (L19_3 v4 h0 h1)) := by
  intro n
  induction n with
  | zero => exact ⟨fun _ _ _ h => by simp only [R19] at h, fun _ _ _ _ _ h => by simp only [R19_3] at h⟩
  | succ n ih =>
  obtain ⟨ih, ih3⟩ := ih
  refine ⟨?_, ?_⟩
  · intro x0 ds us h K q
    rw [R19] at h
    obtain ⟨s0, h⟩ := h
    exact AtV.go tabOk ext19Ok mixed false [] [] [0, 3, 4] [0, 1] [] (a1 s0 trivial) (ih3 _ _ _ _ _ h K q) (by kernel_rfl)
  · intro v4 h0 h1 ds us h K q
    rw [R19_3] at h
    by_cases b0 : (decide (v4 > 0)) = true
    · rw [if_pos b0] at h
      obtain ⟨s0, h⟩ := h
      obtain ⟨s1, h⟩ := h
      by_cases b1 : (g46_1 h1 (g47_0 h0) == 0) = true
      · rw [if_pos b1] at h
        obtain ⟨s2, h⟩ := h
        exact AtV.go tabOk ext19Ok mixed false [] [] [0, 3, 4] [0, 2] [true, true] (a1 b0 (a1 s0 (a1 s1 (a1 b1 (a1 s2 trivial))))) (ih3 _ _ _ _ _ h K q) (by kernel_rfl)
      · rw [if_neg b1] at h
        replace b1 := Bool.eq_false_iff.2 b1
        obtain ⟨s2, h⟩ := h
        exact AtV.go tabOk ext19Ok mixed false [] [] [0, 3, 4] [0, 1] [true, false] (a1 b0 (a1 s0 (a1 s1 (a1 b1 (a1 s2 trivial))))) (ih3 _ _ _ _ _ h K q) (by kernel_rfl)
    · rw [if_neg b0] at h
      replace b0 := Bool.eq_false_iff.2 b0
      obtain ⟨h, h'⟩ := h; subst h; subst h'
      exact AtV.ret Tryz.func19 tabOk ext19Ok mixed false [] tys19 [false] (a1 b0 trivial) (by kernel_rfl)
def P19 (x0 : (List Int × Int × Int × Unit)) : Prop := SrcOk 800000000 x0
def kin19 : List ByteArray := [ByteArray.mk #[99, 104, 101, 99, 107], ByteArray.mk #[110, 111, 116, 101], ByteArray.mk #[102, 97, 99, 101]]
def Q19 (x0 : (List Int × Int × Int × Unit)) (y : List TyB1) (s : (List Int × Int × Int × Unit)) : Prop := SrcOk (x0.2.1 + 20000) s ∧ g37_0 y = true ∧ y.length ≤ 5 ∧ (∀ b ∈ y, b.1 ∈ kin19) ∧ ∃ n, R19 n x0 [⟨.sl (.cons .str (.cons .str (.cons .str .unit))), y⟩] [some ⟨(.cons (.sl (.int .u8)) (.cons (.int .i64) (.cons (.int .u64) .unit))), [s]⟩]
theorem step19 {h : List TyB1} {b : TyB1} (hok : g37_0 h = true) (hk : ∀ b ∈ h, b.1 ∈ kin19) (hb : b.1 ∈ kin19) (hc : (g46_1 h b == 0) = true) :
    g37_0 (g46_0 h b) = true ∧ (g46_0 h b).length ≤ h.length + 1 ∧ ∀ c ∈ g46_0 h b, c.1 ∈ kin19 := by
  unfold g46_1 at hc
  unfold g46_0
  rw [hok] at hc ⊢
  cases h1 : g62_0 b with
  | false => rw [h1] at hc; simp at hc
  | true =>
    rw [h1] at hc
    by_cases h2 : ((g76_0 h b).length : Int) > 32
    · rw [decide_eq_true h2] at hc; simp at hc
    · rw [decide_eq_false h2]
      simp only [Bool.not_true, Bool.false_eq_true, if_false]
      obtain ⟨a, d, e, ha, hd, _, hs, hx⟩ := put_parts h b (ok_srt hok)
      have hall : ∀ c ∈ g76_0 h b, c ∈ h ∨ c = b := fun c hc => by
        rw [e] at hc
        rcases List.mem_append.1 hc with hc | hc
        · exact .inl (ha c hc).1
        · rcases List.mem_cons.1 hc with rfl | hc
          · exact .inr rfl
          · exact .inl (hd c hc).1
      refine ⟨ok_of_srt (fun c hc => ?_) (by rw [e]; exact hs) (by omega), len76 h b, fun c hc => ?_⟩
      · rcases hall c hc with hc | rfl
        · exact ok_one hok c hc
        · exact h1
      · rcases hall c hc with hc | rfl
        · exact hk c hc
        · exact hb
theorem run19 : ∀ (k : Nat) (v : Int) (s : (List Int × Int × Int × Unit)) (h : List TyB1) (m : Int), v = (k : Int) → SrcOk m s → m + 2000 * (k : Int) ≤ 890000000 → g37_0 h = true → (∀ b ∈ h, b.1 ∈ kin19) →
    ∃ (y : List TyB1) (t : (List Int × Int × Int × Unit)), SrcOk (m + 2000 * (k : Int)) t ∧ g37_0 y = true ∧ y.length ≤ h.length + k ∧ (∀ b ∈ y, b.1 ∈ kin19) ∧ R19_3 (k + 1) v s h [⟨.sl (.cons .str (.cons .str (.cons .str .unit))), y⟩] [some ⟨(.cons (.sl (.int .u8)) (.cons (.int .i64) (.cons (.int .u64) .unit))), [t]⟩] := by
  intro k
  induction k with
  | zero =>
    intro v s h m hv hs hm hok hk
    refine ⟨h, s, hs.up (by omega), hok, by omega, hk, ?_⟩
    rw [R19_3, if_neg (by simp only [decide_eq_true_eq]; omega)]
    exact ⟨rfl, rfl⟩
  | succ k ih =>
    intro v s h m hv hs hm hok hk
    have p1 : P47 s := hs.up (by omega)
    obtain ⟨s1, k1, _, _⟩ := q47 s p1
    have hat := hs.2.2
    have hat0 := hs.2.1
    have p2 : P46 h (g47_0 s) := by
      unfold P46
      have hl := (sorted h hok).1
      split
      · trivial
      · split
        · trivial
        · exact ⟨(show h.length ≤ 1048576 from by omega), trivial⟩
    have hv' : v - 1 = ((k : Nat) : Int) := by omega
    by_cases hc : (g46_1 h (g47_0 s) == 0) = true
    · obtain ⟨a1, a2, a3⟩ := step19 hok hk k1 hc
      obtain ⟨y, t, b1, b2, b3, b4, b5⟩ := ih (v - 1) _ _ (m + 2000) hv' (s1.up (by omega)) (by omega) a1 a3
      refine ⟨y, t, b1.up (by omega), b2, by omega, b4, ?_⟩
      rw [R19_3, if_pos (by simp only [decide_eq_true_eq]; omega)]
      refine ⟨p1, p2, ?_⟩
      rw [if_pos hc]
      exact ⟨by rw [i64_iff]; omega, b5⟩
    · obtain ⟨y, t, b1, b2, b3, b4, b5⟩ := ih (v - 1) _ _ (m + 2000) hv' (s1.up (by omega)) (by omega) hok hk
      refine ⟨y, t, b1.up (by omega), b2, by omega, b4, ?_⟩
      rw [R19_3, if_pos (by simp only [decide_eq_true_eq]; omega)]
      refine ⟨p1, p2, ?_⟩
      rw [if_neg hc]
      exact ⟨by rw [i64_iff]; omega, b5⟩
theorem ex19 (x0 : (List Int × Int × Int × Unit)) (h : P19 x0) : ∃ y s, Q19 x0 y s := by
  have h0 : x0.2.1 ≤ 800000000 := h.2.2
  obtain ⟨p1, s1, a, b, _⟩ := pick_ok (SrcOk.self h) 6 (by omega)
  have b := b (by decide)
  obtain ⟨y, t, b1, b2, b3, b4, b5⟩ := run19 (g45_0 x0 6).toNat (g45_0 x0 6) _ [] _ (by omega) s1 (by omega) rfl (fun _ h => by cases h)
  simp only [List.length_nil] at b3
  refine ⟨y, t, b1.up (by omega), b2, by omega, b4, (g45_0 x0 6).toNat + 1 + 1, ?_⟩
  rw [R19]
  exact ⟨p1, b5⟩
def g19_0 (x0 : (List Int × Int × Int × Unit)) : List TyB1 := (sel2 [] x0 (Q19 x0)).1
def u19_0 (x0 : (List Int × Int × Int × Unit)) : (List Int × Int × Int × Unit) := (sel2 [] x0 (Q19 x0)).2
theorem q19 (x0 : (List Int × Int × Int × Unit)) (h : P19 x0) : Q19 x0 (g19_0 x0) (u19_0 x0) := by
  obtain ⟨y, s, hq⟩ := ex19 x0 h
  exact sel2_spec hq
def S19 : Am.Spec := { sig := sig19, pre := fun ⟨x0, _⟩ => P19 x0, upd := fun ⟨x0, _⟩ => [some ⟨(.cons (.sl (.int .u8)) (.cons (.int .i64) (.cons (.int .u64) .unit))), [u19_0 x0]⟩], res := fun ⟨x0, _⟩ => [⟨.sl (.cons .str (.cons .str (.cons .str .unit))), g19_0 x0⟩], kds := kds19 }
theorem con19 : Contract Tryz.prog 19 S19 := contract_of Tryz.func19 hb19 (Nat.le_of_ble_eq_true (by kernel_rfl)) (fun ⟨x0, _⟩ h hwf K q =>
  let ⟨n, hn⟩ := (q19 x0 h).2.2.2.2
  (snd19 n).1 x0 _ _ hn K q)
end
noncomputable section
def ext5 : Ext := [(18, S18), (19, S19)]
theorem ext5Ok : ExtOk Tryz.prog ext5 := ⟨⟨ca18, con18⟩, ⟨ca19, con19⟩, trivial⟩
noncomputable def b5 : Code := bodyOf Tryz.f5
theorem hb5 : Tryz.f5.body = some b5 := by kernel_rfl
def sig5 : List AT := [AT.v (Ty.sl (Ty.int .u8))]
def tys5 : List Ty := [Ty.sl YA3]
def kds5 : List RK := []
def oks5 : List AT := owns sig5
def P5 (x0 : List Int) : Prop := ((P19 (g18_0 x0)) ∧ True)
def g5_0 (x0 : List Int) : List TyB1 := g19_0 (g18_0 x0)
theorem at5 (x0 : List Int) (h : P5 x0) (K : Ctx) (q : Nat → Value) : AtV Tryz.prog 5 (PostR kds5 oks5 [⟨Ty.sl YA3, g5_0 x0⟩] [] [] q K) 8 K q [] [.code b5] (entE 0 0 sig5 (x0, ())) (entL sig5 (x0, ())) := by
  unfold P5 at h
  unfold g5_0
  obtain ⟨s0, h⟩ := h
  exact AtV.ret Tryz.func5 tabOk ext5Ok mixed false [] tys5 [] (a1 trivial (a1 s0 trivial)) (by kernel_rfl)
def S5 : Am.Spec := { sig := sig5, pre := fun ⟨x0, _⟩ => P5 x0, res := fun ⟨x0, _⟩ => [⟨Ty.sl YA3, g5_0 x0⟩], kds := kds5 }
theorem con5 : Contract Tryz.prog 5 S5 := contract_of Tryz.func5 hb5 (Nat.le_of_ble_eq_true (by kernel_rfl)) (fun ⟨x0, _⟩ h _ K q => at5 x0 h K q)
end
noncomputable section
def ext80 : Ext := []
theorem ext80Ok : ExtOk Tryz.prog ext80 := trivial
noncomputable def b80 : Code := bodyOf Tryz.f80
theorem hb80 : Tryz.f80.body = some b80 := by kernel_rfl
def sig80 : List AT := [AT.v (Ty.str)]
def tys80 : List Ty := [Ty.bool]
def kds80 : List RK := []
def oks80 : List AT := owns sig80
def E80_4 (v18 : Int) (x0 : ByteArray) : Env := [(16, PV.a (Atom.osl 0 Option.none)), (17, PV.a (Atom.val (Value.int .i64 (↑(List.length (bytesOf x0)) : Int)))), (18, PV.a (Atom.val (Value.int .i64 v18)))]
def L80_4 (v18 : Int) (x0 : ByteArray) : Heap := [Option.some (Arr.mk (Ty.int .u8) (bytesOf x0) false Option.none Option.none)]
mutual
def R80 : Nat → ByteArray → List Dyn → Prop
  | 0, _, _ => False
  | n + 1, x0, ds => (if (decide ((↑(ByteArray.size x0) : Int) < 1)) = true then (ds = [Dyn.mk Ty.bool false]) else (if (decide ((↑(ByteArray.size x0) : Int) > 10)) = true then (ds = [Dyn.mk Ty.bool false]) else (R80_4 n (0) (x0) ds)))
def R80_4 : Nat → Int → ByteArray → List Dyn → Prop
  | 0, _, _, _ => False
  | n + 1, v18, x0, ds => (if (decide (v18 < (↑(List.length (bytesOf x0)) : Int))) = true then ((0 ≤ v18) ∧ (v18 < (↑(List.length (bytesOf x0)) : Int)) ∧ (if (decide (List.getD (bytesOf x0) (Int.toNat v18) 0 ≥ 97)) = true then (if (decide (List.getD (bytesOf x0) (Int.toNat v18) 0 ≥ 48)) = true then (if (!decide (List.getD (bytesOf x0) (Int.toNat v18) 0 ≤ 122)) = true then (if (v18 == 0) = true then (ds = [Dyn.mk Ty.bool false]) else (if (!decide (List.getD (bytesOf x0) (Int.toNat v18) 0 ≤ 57)) = true then (ds = [Dyn.mk Ty.bool false]) else ((InR .i64 (v18 + 1)) ∧ (R80_4 n (v18 + 1) (x0) ds)))) else ((InR .i64 (v18 + 1)) ∧ (R80_4 n (v18 + 1) (x0) ds))) else (if (!decide (List.getD (bytesOf x0) (Int.toNat v18) 0 ≤ 122)) = true then (if (v18 == 0) = true then (ds = [Dyn.mk Ty.bool false]) else (ds = [Dyn.mk Ty.bool false])) else ((InR .i64 (v18 + 1)) ∧ (R80_4 n (v18 + 1) (x0) ds)))) else (if (decide (List.getD (bytesOf x0) (Int.toNat v18) 0 ≥ 48)) = true then (if (v18 == 0) = true then (ds = [Dyn.mk Ty.bool false]) else (if (!decide (List.getD (bytesOf x0) (Int.toNat v18) 0 ≤ 57)) = true then (ds = [Dyn.mk Ty.bool false]) else ((InR .i64 (v18 + 1)) ∧ (R80_4 n (v18 + 1) (x0) ds)))) else (if (v18 == 0) = true then (ds = [Dyn.mk Ty.bool false]) else (ds = [Dyn.mk Ty.bool false]))))) else (ds = [Dyn.mk Ty.bool true]))
end
theorem snd80 : ∀ n, (∀ (x0 : ByteArray) ds, R80 n x0 ds → ∀ K q, AtV Tryz.prog 80 (PostR kds80 oks80 ds [] [] q K) 46 K q [] [.code b80] (entE 0 0 sig80 (x0, ())) (entL sig80 (x0, ()))) ∧ (∀ (v18 : Int) (x0 : ByteArray) ds, R80_4 n v18 x0 ds → ∀ K q, AtV Tryz.prog 80 (PostR kds80 oks80 ds [] [] q K) 46 K q [] (cutAt b80 4) (E80_4 v18 x0) (L80_4 v18 x0)) := by
  intro n
  induction n with
  | zero => exact ⟨fun _ _ h => by simp only [R80] at h, fun _ _ _ h => by simp only [R80_4] at h⟩
  | succ n ih =>
  obtain ⟨ih, ih4⟩ := ih
  refine ⟨?_, ?_⟩
  · intro x0 ds h K q
    rw [R80] at h
    by_cases b0 : (decide ((↑(ByteArray.size x0) : Int) < 1)) = true
    · rw [if_pos b0] at h
      subst h
      exact AtV.ret Tryz.func80 tabOk ext80Ok mixed false [] tys80 [true, true] (a1 b0 (a1 (rfl : true = true) trivial)) (by kernel_rfl)
    · rw [if_neg b0] at h
      replace b0 := Bool.eq_false_iff.2 b0
      by_cases b1 : (decide ((↑(ByteArray.size x0) : Int) > 10)) = true
      · rw [if_pos b1] at h
        subst h
        exact AtV.ret Tryz.func80 tabOk ext80Ok mixed false [] tys80 [false, true] (a1 b0 (a1 b1 trivial)) (by kernel_rfl)
      · rw [if_neg b1] at h
        replace b1 := Bool.eq_false_iff.2 b1
        exact AtV.go tabOk ext80Ok mixed false [] [] [16, 17, 18] [0] [false, false] (a1 b0 (a1 b1 trivial)) (ih4 _ _ _ h K q) (by kernel_rfl)
  · intro v18 x0 ds h K q
    rw [R80_4] at h
    by_cases b0 : (decide (v18 < (↑(List.length (bytesOf x0)) : Int))) = true
    · rw [if_pos b0] at h
      obtain ⟨s0, s1, h⟩ := h
      by_cases b1 : (decide (List.getD (bytesOf x0) (Int.toNat v18) 0 ≥ 97)) = true
      · rw [if_pos b1] at h
        by_cases b2 : (decide (List.getD (bytesOf x0) (Int.toNat v18) 0 ≥ 48)) = true
        · rw [if_pos b2] at h
          by_cases b3 : (!decide (List.getD (bytesOf x0) (Int.toNat v18) 0 ≤ 122)) = true
          · rw [if_pos b3] at h
            by_cases b4 : (v18 == 0) = true
            · rw [if_pos b4] at h
              subst h
              exact AtV.ret Tryz.func80 tabOk ext80Ok mixed false [] tys80 [true, true, true, true, true, true] (a1 b0 (a1 s0 (a1 s1 (a1 b1 (a1 b2 (a1 b3 (a1 b4 (a1 (rfl : true = true) trivial)))))))) (by kernel_rfl)
            · rw [if_neg b4] at h
              replace b4 := Bool.eq_false_iff.2 b4
              by_cases b5 : (!decide (List.getD (bytesOf x0) (Int.toNat v18) 0 ≤ 57)) = true
              · rw [if_pos b5] at h
                subst h
                exact AtV.ret Tryz.func80 tabOk ext80Ok mixed false [] tys80 [true, true, true, true, false, true] (a1 b0 (a1 s0 (a1 s1 (a1 b1 (a1 b2 (a1 b3 (a1 b4 (a1 b5 trivial)))))))) (by kernel_rfl)
              · rw [if_neg b5] at h
                replace b5 := Bool.eq_false_iff.2 b5
                obtain ⟨s2, h⟩ := h
                exact AtV.go tabOk ext80Ok mixed false [] [] [16, 17, 18] [0] [true, true, true, true, false, false] (a1 b0 (a1 s0 (a1 s1 (a1 b1 (a1 b2 (a1 b3 (a1 b4 (a1 b5 (a1 s2 trivial))))))))) (ih4 _ _ _ h K q) (by kernel_rfl)
          · rw [if_neg b3] at h
            replace b3 := Bool.eq_false_iff.2 b3
            obtain ⟨s2, h⟩ := h
            exact AtV.go tabOk ext80Ok mixed false [] [] [16, 17, 18] [0] [true, true, true, false, false] (a1 b0 (a1 s0 (a1 s1 (a1 b1 (a1 b2 (a1 b3 (a1 (rfl : false = false) (a1 s2 trivial)))))))) (ih4 _ _ _ h K q) (by kernel_rfl)
        · rw [if_neg b2] at h
          replace b2 := Bool.eq_false_iff.2 b2
          by_cases b3 : (!decide (List.getD (bytesOf x0) (Int.toNat v18) 0 ≤ 122)) = true
          · rw [if_pos b3] at h
            by_cases b4 : (v18 == 0) = true
            · rw [if_pos b4] at h
              subst h
              exact AtV.ret Tryz.func80 tabOk ext80Ok mixed false [] tys80 [true, true, false, true, true, true] (a1 b0 (a1 s0 (a1 s1 (a1 b1 (a1 b2 (a1 b3 (a1 b4 (a1 (rfl : true = true) trivial)))))))) (by kernel_rfl)
            · rw [if_neg b4] at h
              replace b4 := Bool.eq_false_iff.2 b4
              subst h
              exact AtV.ret Tryz.func80 tabOk ext80Ok mixed false [] tys80 [true, true, false, true, false, true] (a1 b0 (a1 s0 (a1 s1 (a1 b1 (a1 b2 (a1 b3 (a1 b4 (a1 (rfl : true = true) trivial)))))))) (by kernel_rfl)
          · rw [if_neg b3] at h
            replace b3 := Bool.eq_false_iff.2 b3
            obtain ⟨s2, h⟩ := h
            exact AtV.go tabOk ext80Ok mixed false [] [] [16, 17, 18] [0] [true, true, false, false, false] (a1 b0 (a1 s0 (a1 s1 (a1 b1 (a1 b2 (a1 b3 (a1 (rfl : false = false) (a1 s2 trivial)))))))) (ih4 _ _ _ h K q) (by kernel_rfl)
      · rw [if_neg b1] at h
        replace b1 := Bool.eq_false_iff.2 b1
        by_cases b2 : (decide (List.getD (bytesOf x0) (Int.toNat v18) 0 ≥ 48)) = true
        · rw [if_pos b2] at h
          by_cases b3 : (v18 == 0) = true
          · rw [if_pos b3] at h
            subst h
            exact AtV.ret Tryz.func80 tabOk ext80Ok mixed false [] tys80 [true, false, true, true, true, true] (a1 b0 (a1 s0 (a1 s1 (a1 b1 (a1 b2 (a1 (rfl : true = true) (a1 b3 (a1 (rfl : true = true) trivial)))))))) (by kernel_rfl)
          · rw [if_neg b3] at h
            replace b3 := Bool.eq_false_iff.2 b3
            by_cases b4 : (!decide (List.getD (bytesOf x0) (Int.toNat v18) 0 ≤ 57)) = true
            · rw [if_pos b4] at h
              subst h
              exact AtV.ret Tryz.func80 tabOk ext80Ok mixed false [] tys80 [true, false, true, true, false, true] (a1 b0 (a1 s0 (a1 s1 (a1 b1 (a1 b2 (a1 (rfl : true = true) (a1 b3 (a1 b4 trivial)))))))) (by kernel_rfl)
            · rw [if_neg b4] at h
              replace b4 := Bool.eq_false_iff.2 b4
              obtain ⟨s2, h⟩ := h
              exact AtV.go tabOk ext80Ok mixed false [] [] [16, 17, 18] [0] [true, false, true, true, false, false] (a1 b0 (a1 s0 (a1 s1 (a1 b1 (a1 b2 (a1 (rfl : true = true) (a1 b3 (a1 b4 (a1 s2 trivial))))))))) (ih4 _ _ _ h K q) (by kernel_rfl)
        · rw [if_neg b2] at h
          replace b2 := Bool.eq_false_iff.2 b2
          by_cases b3 : (v18 == 0) = true
          · rw [if_pos b3] at h
            subst h
            exact AtV.ret Tryz.func80 tabOk ext80Ok mixed false [] tys80 [true, false, false, true, true, true] (a1 b0 (a1 s0 (a1 s1 (a1 b1 (a1 b2 (a1 (rfl : true = true) (a1 b3 (a1 (rfl : true = true) trivial)))))))) (by kernel_rfl)
          · rw [if_neg b3] at h
            replace b3 := Bool.eq_false_iff.2 b3
            subst h
            exact AtV.ret Tryz.func80 tabOk ext80Ok mixed false [] tys80 [true, false, false, true, false, true] (a1 b0 (a1 s0 (a1 s1 (a1 b1 (a1 b2 (a1 (rfl : true = true) (a1 b3 (a1 (rfl : true = true) trivial)))))))) (by kernel_rfl)
    · rw [if_neg b0] at h
      replace b0 := Bool.eq_false_iff.2 b0
      subst h
      exact AtV.ret Tryz.func80 tabOk ext80Ok mixed false [] tys80 [false] (a1 b0 trivial) (by kernel_rfl)
def ok80 (i : Nat) (b : Int) : Bool := (decide (97 ≤ b) && decide (b ≤ 122)) || (!(i == 0) && (decide (48 ≤ b) && decide (b ≤ 57)))
def g80_0 (x0 : ByteArray) : Bool := decide (1 ≤ x0.size) && decide (x0.size ≤ 10) && allI ok80 0 (bytesOf x0)
def P80 (x0 : ByteArray) : Prop := True
theorem step80 (n i : Nat) (x0 : ByteArray) (hw : Wf .str x0) (hi : i < (bytesOf x0).length) (ds : List Dyn) :
    R80_4 (n + 1) (i : Int) x0 ds ↔ (if ok80 i ((bytesOf x0).getD i 0) = true then R80_4 n ((i : Int) + 1) x0 ds else ds = [⟨.bool, false⟩]) := by
  have hu := inR_up (xs := bytesOf x0) (by rw [bytesOf_length]; exact hw) hi
  rw [R80_4, if_pos (by simp; omega)]
  simp only [Int.toNat_natCast]
  have hb : (0 : Int) ≤ (i : Int) ∧ (i : Int) < ((bytesOf x0).length : Int) := by omega
  have hz : ((i : Int) == 0) = (i == 0) := by
    cases i with
    | zero => rfl
    | succ k => simp; omega
  simp only [hz, ok80, hu, true_and, hb.1, hb.2, ge_iff_le]
  by_cases h1 : (97 : Int) ≤ (bytesOf x0).getD i 0 <;> by_cases h2 : (bytesOf x0).getD i 0 ≤ 122 <;> by_cases h3 : (48 : Int) ≤ (bytesOf x0).getD i 0 <;> by_cases h4 : (bytesOf x0).getD i 0 ≤ 57 <;> rcases Bool.eq_false_or_eq_true (i == 0) with e0 | e0 <;> first | (exfalso; omega) | simp only [h1, h2, h3, h4, e0, decide_true, decide_false, Bool.not_true, Bool.not_false, Bool.true_and, Bool.false_and, Bool.and_true, Bool.and_false, Bool.true_or, Bool.or_true, Bool.or_false, Bool.false_or, if_true, if_false, Bool.false_eq_true]
theorem top80 (x0 : ByteArray) (hw : Wf .str x0) : R80 (x0.size + 1 + 1) x0 [⟨.bool, g80_0 x0⟩] := by
  have hl := bytesOf_length x0
  rw [R80]
  by_cases h0 : (x0.size : Int) < 1
  · rw [if_pos (by simpa using h0)]
    have : ¬ 1 ≤ x0.size := by omega
    simp [g80_0, this]
  · rw [if_neg (by simpa using h0)]
    by_cases h1 : (x0.size : Int) > 10
    · rw [if_pos (by simpa using h1)]
      have : ¬ x0.size ≤ 10 := by omega
      simp [g80_0, this]
    · rw [if_neg (by simpa using h1)]
      have key := loop_testI (bytesOf x0) 0 ok80 [(⟨.bool, false⟩ : Dyn)] [⟨.bool, true⟩] (fun n i ds => R80_4 n i x0 ds) (fun n => ?_) (fun n i hi hok ds hr => ?_) (fun n i hi hok => ?_)
      · rw [hl] at key
        have e : g80_0 x0 = allI ok80 0 (bytesOf x0) := by
          have a : 1 ≤ x0.size := by omega
          have b : x0.size ≤ 10 := by omega
          simp [g80_0, a, b]
        rw [e]
        cases h : allI ok80 0 (bytesOf x0) with
        | true => rw [if_pos h] at key; exact key
        | false => rw [if_neg (by rw [h]; simp)] at key; exact key
      · show R80_4 (n + 1) ((bytesOf x0).length : Int) x0 _
        rw [R80_4, if_neg (by simp)]
      · exact (step80 n i x0 hw hi ds).2 (by rw [if_pos hok]; exact hr)
      · exact (step80 n i x0 hw hi _).2 (by rw [if_neg (by rw [hok]; simp)])
def S80 : Am.Spec := { sig := sig80, pre := fun ⟨x0, _⟩ => P80 x0, res := fun ⟨x0, _⟩ => [⟨Ty.bool, g80_0 x0⟩] }
theorem con80 : Contract Tryz.prog 80 S80 := contract_of Tryz.func80 hb80 (Nat.le_of_ble_eq_true (by kernel_rfl)) (fun ⟨x0, _⟩ h hwf K q =>
  (snd80 _).1 x0 _ (top80 x0 hwf.1) K q)
end
def sig81 : List AT := [AT.v Ty.str, AT.v Ty.str]
def g81_0 (x0 x1 : ByteArray) : Bool := Lib.contains x0.data.toList x1.data.toList
def P81 (x0 x1 : ByteArray) : Prop := x0.size < 4294967281
def S81 : Am.Spec := { sig := sig81, pre := fun ⟨x0, x1, _⟩ => P81 x0 x1, res := fun ⟨x0, x1, _⟩ => [⟨Ty.bool, g81_0 x0 x1⟩] }
theorem con81 : Contract Tryz.prog 81 S81 := contract_flat rfl fun w ⟨x0, x1, _⟩ vs bss hg hp hw ha => by
  obtain ⟨v0, s0, _, _, rfl, _, ⟨_, rfl, _⟩, v1, s1, _, _, rfl, _, ⟨_, rfl, _⟩, rfl, _⟩ := ha
  refine ⟨fun d hd => by rw [List.mem_singleton.1 hd]; exact ⟨rfl, trivial⟩, ?_⟩
  obtain ⟨m, hm⟩ := maxLenG hg
  refine (Tryz.strings_Contains x0 x1 m w hp hm).mono ?_
  rintro e w' ⟨rfl, rfl⟩
  exact ⟨rfl, Kept.refl _ _⟩
noncomputable section
def ext48 : Ext := [(80, S80), (81, S81)]
theorem ext48Ok : ExtOk Tryz.prog ext48 := ⟨⟨ca80, con80⟩, ⟨ca81, con81⟩, trivial⟩
noncomputable def b48 : Code := bodyOf Tryz.f48
theorem hb48 : Tryz.f48.body = some b48 := by kernel_rfl
def sig48 : List AT := [AT.v YA3]
def tys48 : List Ty := [Ty.bool]
def kds48 : List RK := []
def oks48 : List AT := owns sig48
def P48 (x0 : ByteArray × ByteArray × ByteArray × Unit) : Prop := (if (g80_0 x0.1) = true then (if (g80_0 x0.2.1) = true then (if (decide ((↑(ByteArray.size x0.2.2.1) : Int) ≤ 400)) = true then ((P81 x0.2.2.1 (ByteArray.mk #[10])) ∧ True) else True) else True) else True)
def g48_0 (x0 : ByteArray × ByteArray × ByteArray × Unit) : Bool := (if (g80_0 x0.1) = true then (if (g80_0 x0.2.1) = true then (if (decide ((↑(ByteArray.size x0.2.2.1) : Int) ≤ 400)) = true then !g81_0 x0.2.2.1 (ByteArray.mk #[10]) else false) else false) else false)
theorem at48 (x0 : ByteArray × ByteArray × ByteArray × Unit) (h : P48 x0) (K : Ctx) (q : Nat → Value) : AtV Tryz.prog 48 (PostR kds48 oks48 [⟨Ty.bool, g48_0 x0⟩] [] [] q K) 23 K q [] [.code b48] (entE 0 0 sig48 (x0, ())) (entL sig48 (x0, ())) := by
  unfold P48 at h
  unfold g48_0
  by_cases b0 : (g80_0 x0.1) = true
  · try simp only [if_pos b0] at h ⊢
    by_cases b1 : (g80_0 x0.2.1) = true
    · try simp only [if_pos b1] at h ⊢
      by_cases b2 : (decide ((↑(ByteArray.size x0.2.2.1) : Int) ≤ 400)) = true
      · try simp only [if_pos b2] at h ⊢
        obtain ⟨s0, h⟩ := h
        exact AtV.ret Tryz.func48 tabOk ext48Ok mixed false [] tys48 [true, true, true] (a1 trivial (a1 b0 (a1 trivial (a1 b1 (a1 b2 (a1 s0 trivial)))))) (by kernel_rfl)
      · try simp only [if_neg b2] at h ⊢
        replace b2 := Bool.eq_false_iff.2 b2
        exact AtV.ret Tryz.func48 tabOk ext48Ok mixed false [] tys48 [true, true, false] (a1 trivial (a1 b0 (a1 trivial (a1 b1 (a1 b2 trivial))))) (by kernel_rfl)
    · try simp only [if_neg b1] at h ⊢
      replace b1 := Bool.eq_false_iff.2 b1
      exact AtV.ret Tryz.func48 tabOk ext48Ok mixed false [] tys48 [true, false, false] (a1 trivial (a1 b0 (a1 trivial (a1 b1 (a1 (rfl : false = false) trivial))))) (by kernel_rfl)
  · try simp only [if_neg b0] at h ⊢
    replace b0 := Bool.eq_false_iff.2 b0
    exact AtV.ret Tryz.func48 tabOk ext48Ok mixed false [] tys48 [false, false, false] (a1 trivial (a1 b0 (a1 (rfl : false = false) (a1 (rfl : false = false) trivial)))) (by kernel_rfl)
def S48 : Am.Spec := { sig := sig48, pre := fun ⟨x0, _⟩ => P48 x0, res := fun ⟨x0, _⟩ => [⟨Ty.bool, g48_0 x0⟩], kds := kds48 }
theorem con48 : Contract Tryz.prog 48 S48 := contract_of Tryz.func48 hb48 (Nat.le_of_ble_eq_true (by kernel_rfl)) (fun ⟨x0, _⟩ h _ K q => at48 x0 h K q)
theorem pre48 (x : ByteArray × ByteArray × ByteArray × Unit) : P48 x := by
  unfold P48
  split
  · split
    · split
      · rename_i h
        simp only [decide_eq_true_eq] at h
        refine ⟨?_, trivial⟩
        show x.2.2.1.size < 4294967281
        omega
      · trivial
    · trivial
  · trivial
end
noncomputable section
def ext94 : Ext := []
theorem ext94Ok : ExtOk Tryz.prog ext94 := trivial
noncomputable def b94 : Code := bodyOf Tryz.f94
theorem hb94 : Tryz.f94.body = some b94 := by kernel_rfl
def sig94 : List AT := [AT.v (Ty.str)]
def tys94 : List Ty := [Ty.bool]
def kds94 : List RK := []
def oks94 : List AT := owns sig94
def P94 (x0 : ByteArray) : Prop := True
def g94_0 (x0 : ByteArray) : Bool := !ByteArray.toList x0 == ByteArray.toList x0
theorem at94 (x0 : ByteArray) (h : P94 x0) (K : Ctx) (q : Nat → Value) : AtV Tryz.prog 94 (PostR kds94 oks94 [⟨Ty.bool, g94_0 x0⟩] [] [] q K) 6 K q [] [.code b94] (entE 0 0 sig94 (x0, ())) (entL sig94 (x0, ())) := by
  unfold P94 at h
  unfold g94_0
  exact AtV.ret Tryz.func94 tabOk ext94Ok mixed false [] tys94 [] trivial (by kernel_rfl)
def S94 : Am.Spec := { sig := sig94, pre := fun ⟨x0, _⟩ => P94 x0, res := fun ⟨x0, _⟩ => [⟨Ty.bool, g94_0 x0⟩], kds := kds94 }
theorem con94 : Contract Tryz.prog 94 S94 := contract_of Tryz.func94 hb94 (Nat.le_of_ble_eq_true (by kernel_rfl)) (fun ⟨x0, _⟩ h _ K q => at94 x0 h K q)
end
noncomputable section
def ext60 : Ext := [(94, S94)]
theorem ext60Ok : ExtOk Tryz.prog ext60 := ⟨⟨ca94, con94⟩, trivial⟩
noncomputable def b60 : Code := bodyOf Tryz.f60
theorem hb60 : Tryz.f60.body = some b60 := by kernel_rfl
def sig60 : List AT := [AT.v (Ty.str), AT.v (Ty.str)]
def tys60 : List Ty := [Ty.int .i64]
def kds60 : List RK := []
def oks60 : List AT := owns sig60
def P60 (x0 : ByteArray) (x1 : ByteArray) : Prop := True
def g60_0 (x0 : ByteArray) (x1 : ByteArray) : Int := (if (g94_0 x0) = true then (if (g94_0 x1) = true then 0 else -1) else (if (g94_0 x1) = true then 1 else (if (Op.bytesLess (ByteArray.toList x0) (ByteArray.toList x1)) = true then -1 else (if (!(Op.bytesLess (ByteArray.toList x0) (ByteArray.toList x1) || ByteArray.toList x0 == ByteArray.toList x1)) = true then 1 else 0))))
theorem at60 (x0 : ByteArray) (x1 : ByteArray) (h : P60 x0 x1) (K : Ctx) (q : Nat → Value) : AtV Tryz.prog 60 (PostR kds60 oks60 [⟨Ty.int .i64, g60_0 x0 x1⟩] [] [] q K) 20 K q [] [.code b60] (entE 0 0 sig60 (x0, x1, ())) (entL sig60 (x0, x1, ())) := by
  unfold P60 at h
  unfold g60_0
  by_cases b0 : (g94_0 x0) = true
  · try simp only [if_pos b0] at h ⊢
    by_cases b1 : (g94_0 x1) = true
    · try simp only [if_pos b1] at h ⊢
      exact AtV.ret Tryz.func60 tabOk ext60Ok mixed false [] tys60 [true, true] (a1 trivial (a1 trivial (a1 b0 (a1 b1 trivial)))) (by kernel_rfl)
    · try simp only [if_neg b1] at h ⊢
      replace b1 := Bool.eq_false_iff.2 b1
      exact AtV.ret Tryz.func60 tabOk ext60Ok mixed false [] tys60 [true, false] (a1 trivial (a1 trivial (a1 b0 (a1 b1 trivial)))) (by kernel_rfl)
  · try simp only [if_neg b0] at h ⊢
    replace b0 := Bool.eq_false_iff.2 b0
    by_cases b1 : (g94_0 x1) = true
    · try simp only [if_pos b1] at h ⊢
      exact AtV.ret Tryz.func60 tabOk ext60Ok mixed false [] tys60 [false, true] (a1 trivial (a1 trivial (a1 b0 (a1 b1 trivial)))) (by kernel_rfl)
    · try simp only [if_neg b1] at h ⊢
      replace b1 := Bool.eq_false_iff.2 b1
      by_cases b2 : (Op.bytesLess (ByteArray.toList x0) (ByteArray.toList x1)) = true
      · try simp only [if_pos b2] at h ⊢
        exact AtV.ret Tryz.func60 tabOk ext60Ok mixed false [] tys60 [false, false, true] (a1 trivial (a1 trivial (a1 b0 (a1 b1 (a1 b2 trivial))))) (by kernel_rfl)
      · try simp only [if_neg b2] at h ⊢
        replace b2 := Bool.eq_false_iff.2 b2
        by_cases b3 : (!(Op.bytesLess (ByteArray.toList x0) (ByteArray.toList x1) || ByteArray.toList x0 == ByteArray.toList x1)) = true
        · try simp only [if_pos b3] at h ⊢
          exact AtV.ret Tryz.func60 tabOk ext60Ok mixed false [] tys60 [false, false, false, true] (a1 trivial (a1 trivial (a1 b0 (a1 b1 (a1 b2 (a1 b3 trivial)))))) (by kernel_rfl)
        · try simp only [if_neg b3] at h ⊢
          replace b3 := Bool.eq_false_iff.2 b3
          exact AtV.ret Tryz.func60 tabOk ext60Ok mixed false [] tys60 [false, false, false, false] (a1 trivial (a1 trivial (a1 b0 (a1 b1 (a1 b2 (a1 b3 trivial)))))) (by kernel_rfl)
def S60 : Am.Spec := { sig := sig60, pre := fun ⟨x0, x1, _⟩ => P60 x0 x1, res := fun ⟨x0, x1, _⟩ => [⟨Ty.int .i64, g60_0 x0 x1⟩], kds := kds60 }
theorem con60 : Contract Tryz.prog 60 S60 := contract_of Tryz.func60 hb60 (Nat.le_of_ble_eq_true (by kernel_rfl)) (fun ⟨x0, x1, _⟩ h _ K q => at60 x0 x1 h K q)
end
noncomputable section
def ext59 : Ext := []
theorem ext59Ok : ExtOk Tryz.prog ext59 := trivial
noncomputable def b59 : Code := bodyOf Tryz.f59
theorem hb59 : Tryz.f59.body = some b59 := by kernel_rfl
def sig59 : List AT := [AT.v (Ty.sl (Ty.int .i64))]
def tys59 : List Ty := [Ty.int .i64]
def kds59 : List RK := []
def oks59 : List AT := owns sig59
def E59_3 (v8 : Int) (x0 : List Int) : Env := [(3, PV.a (Atom.val (Value.int .i64 0))), (6, PV.a (Atom.sl (Ty.int .i64) x0)), (7, PV.a (Atom.val (Value.int .i64 (↑(List.length x0) : Int)))), (8, PV.a (Atom.val (Value.int .i64 v8)))]
def L59_3 (v8 : Int) (x0 : List Int) : Heap := []
mutual
def R59 : Nat → List Int → List Dyn → Prop
  | 0, _, _ => False
  | n + 1, x0, ds => (R59_3 n (0) (x0) ds)
def R59_3 : Nat → Int → List Int → List Dyn → Prop
  | 0, _, _, _ => False
  | n + 1, v8, x0, ds => (if (decide (v8 < (↑(List.length x0) : Int))) = true then ((0 ≤ v8) ∧ (v8 < (↑(List.length x0) : Int)) ∧ (if (List.getD x0 (Int.toNat v8) 0 != 0) = true then (ds = [Dyn.mk (Ty.int .i64) (List.getD x0 (Int.toNat v8) 0)]) else ((InR .i64 (v8 + 1)) ∧ (R59_3 n (v8 + 1) (x0) ds)))) else (ds = [Dyn.mk (Ty.int .i64) 0]))
end
theorem snd59 : ∀ n, (∀ (x0 : List Int) ds, R59 n x0 ds → ∀ K q, AtV Tryz.prog 59 (PostR kds59 oks59 ds [] [] q K) 18 K q [] [.code b59] (entE 0 0 sig59 (x0, ())) (entL sig59 (x0, ()))) ∧ (∀ (v8 : Int) (x0 : List Int) ds, R59_3 n v8 x0 ds → ∀ K q, AtV Tryz.prog 59 (PostR kds59 oks59 ds [] [] q K) 18 K q [] (cutAt b59 3) (E59_3 v8 x0) (L59_3 v8 x0)) := by
  intro n
  induction n with
  | zero => exact ⟨fun _ _ h => by simp only [R59] at h, fun _ _ _ h => by simp only [R59_3] at h⟩
  | succ n ih =>
  obtain ⟨ih, ih3⟩ := ih
  refine ⟨?_, ?_⟩
  · intro x0 ds h K q
    rw [R59] at h
    exact AtV.go tabOk ext59Ok mixed false [] [] [3, 6, 7, 8] [] [] trivial (ih3 _ _ _ h K q) (by kernel_rfl)
  · intro v8 x0 ds h K q
    rw [R59_3] at h
    by_cases b0 : (decide (v8 < (↑(List.length x0) : Int))) = true
    · rw [if_pos b0] at h
      obtain ⟨s0, s1, h⟩ := h
      by_cases b1 : (List.getD x0 (Int.toNat v8) 0 != 0) = true
      · rw [if_pos b1] at h
        subst h
        exact AtV.ret Tryz.func59 tabOk ext59Ok mixed false [] tys59 [true, true] (a1 b0 (a1 s0 (a1 s1 (a1 b1 trivial)))) (by kernel_rfl)
      · rw [if_neg b1] at h
        replace b1 := Bool.eq_false_iff.2 b1
        obtain ⟨s2, h⟩ := h
        exact AtV.go tabOk ext59Ok mixed false [] [] [3, 6, 7, 8] [] [true, false] (a1 b0 (a1 s0 (a1 s1 (a1 b1 (a1 s2 trivial))))) (ih3 _ _ _ h K q) (by kernel_rfl)
    · rw [if_neg b0] at h
      replace b0 := Bool.eq_false_iff.2 b0
      subst h
      exact AtV.ret Tryz.func59 tabOk ext59Ok mixed false [] tys59 [false] (a1 b0 trivial) (by kernel_rfl)
def g59_0 : List Int → Int
  | [] => 0
  | x :: r => if x != 0 then x else g59_0 r
def P59 (x0 : List Int) : Prop := True
theorem goL59 : ∀ (xs : List Int), goL (fun (_ : Unit) (x : Int) => if (x != 0) = true then Except.error [(⟨.int .i64, x⟩ : Dyn)] else .ok ()) (fun _ => [⟨.int .i64, (0 : Int)⟩]) () xs = [⟨.int .i64, g59_0 xs⟩]
  | [] => rfl
  | x :: r => by
    simp only [goL, g59_0]
    cases h : x != 0 with
    | true => simp
    | false => simpa using goL59 r
theorem top59 (x0 : List Int) (hm : x0.length ≤ maxLen) : R59 (x0.length + 1 + 1) x0 [⟨.int .i64, g59_0 x0⟩] := by
  rw [R59, ← goL59]
  refine loop_all x0 0 _ _ (fun _ _ => True) (fun n i _ ds => R59_3 n i x0 ds) trivial ?_ ?_
  · intro n b _
    show R59_3 (n + 1) x0.length x0 _
    rw [R59_3, if_neg (by simp)]
  · intro n i b hi _
    cases h : (x0.getD i 0 != 0) with
    | true =>
      show R59_3 (n + 1) (i : Int) x0 _
      rw [R59_3, if_pos (by simp; omega)]
      refine ⟨by omega, by omega, ?_⟩
      simp only [Int.toNat_natCast]
      rw [if_pos h] <;> trivial
    | false =>
      refine ⟨trivial, fun ds hr => ?_⟩
      rw [R59_3, if_pos (by simp; omega)]
      refine ⟨by omega, by omega, ?_⟩
      simp only [Int.toNat_natCast]
      rw [if_neg (by rw [h]; simp)]
      exact ⟨inR_up hm hi, hr⟩
def S59 : Am.Spec := { sig := sig59, pre := fun ⟨x0, _⟩ => P59 x0, res := fun ⟨x0, _⟩ => [⟨Ty.int .i64, g59_0 x0⟩] }
theorem con59 : Contract Tryz.prog 59 S59 := contract_of Tryz.func59 hb59 (Nat.le_of_ble_eq_true (by kernel_rfl)) (fun ⟨x0, _⟩ h hwf K q =>
  (snd59 _).1 x0 _ (top59 x0 hwf.1.1) K q)
end
noncomputable section
def ext32 : Ext := [(60, S60), (59, S59)]
theorem ext32Ok : ExtOk Tryz.prog ext32 := ⟨⟨ca60, con60⟩, ⟨ca59, con59⟩, trivial⟩
noncomputable def b32 : Code := bodyOf Tryz.f32
theorem hb32 : Tryz.f32.body = some b32 := by kernel_rfl
def sig32 : List AT := [AT.v YA3, AT.v YA3]
def tys32 : List Ty := [Ty.int .i64]
def kds32 : List RK := []
def oks32 : List AT := owns sig32
def P32 (x0 : ByteArray × ByteArray × ByteArray × Unit) (x1 : ByteArray × ByteArray × ByteArray × Unit) : Prop := True
def g32_0 (x0 : ByteArray × ByteArray × ByteArray × Unit) (x1 : ByteArray × ByteArray × ByteArray × Unit) : Int := g59_0 [g60_0 x0.1 x1.1, g60_0 x0.2.1 x1.2.1]
theorem at32 (x0 : ByteArray × ByteArray × ByteArray × Unit) (x1 : ByteArray × ByteArray × ByteArray × Unit) (h : P32 x0 x1) (K : Ctx) (q : Nat → Value) : AtV Tryz.prog 32 (PostR kds32 oks32 [⟨Ty.int .i64, g32_0 x0 x1⟩] [] [] q K) 17 K q [] [.code b32] (entE 0 0 sig32 (x0, x1, ())) (entL sig32 (x0, x1, ())) := by
  unfold P32 at h
  unfold g32_0
  exact AtV.ret Tryz.func32 tabOk ext32Ok mixed false [] tys32 [] (a1 trivial (a1 trivial (a1 trivial trivial))) (by kernel_rfl)
def S32 : Am.Spec := { sig := sig32, pre := fun ⟨x0, x1, _⟩ => P32 x0 x1, res := fun ⟨x0, x1, _⟩ => [⟨Ty.int .i64, g32_0 x0 x1⟩], kds := kds32 }
theorem con32 : Contract Tryz.prog 32 S32 := contract_of Tryz.func32 hb32 (Nat.le_of_ble_eq_true (by kernel_rfl)) (fun ⟨x0, x1, _⟩ h _ K q => at32 x0 x1 h K q)
end
noncomputable section
def ext20 : Ext := [(48, S48), (32, S32)]
theorem ext20Ok : ExtOk Tryz.prog ext20 := ⟨⟨ca48, con48⟩, ⟨ca32, con32⟩, trivial⟩
noncomputable def b20 : Code := bodyOf Tryz.f20
theorem hb20 : Tryz.f20.body = some b20 := by kernel_rfl
def sig20 : List AT := [AT.v (Ty.sl YA3)]
def tys20 : List Ty := [Ty.bool]
def kds20 : List RK := []
def oks20 : List AT := owns sig20
def E20_2 (v7 : Int) (x0 : List TyB1) : Env := [(0, PV.a (Atom.sl YA3 x0)), (5, PV.a (Atom.sl YA3 x0)), (6, PV.a (Atom.val (Value.int .i64 (↑(List.length x0) : Int)))), (7, PV.a (Atom.val (Value.int .i64 v7)))]
def L20_2 (v7 : Int) (x0 : List TyB1) : Heap := []
mutual
def R20 : Nat → List TyB1 → List Dyn → Prop
  | 0, _, _ => False
  | n + 1, x0, ds => (R20_2 n (0) (x0) ds)
def R20_2 : Nat → Int → List TyB1 → List Dyn → Prop
  | 0, _, _, _ => False
  | n + 1, v7, x0, ds => (if (decide (v7 < (↑(List.length x0) : Int))) = true then ((0 ≤ v7) ∧ (v7 < (↑(List.length x0) : Int)) ∧ ((P48 (List.getD x0 (Int.toNat v7) (ByteArray.empty, ByteArray.empty, ByteArray.empty, ()))) ∧ (if (!g48_0 (List.getD x0 (Int.toNat v7) (ByteArray.empty, ByteArray.empty, ByteArray.empty, ()))) = true then (ds = [Dyn.mk Ty.bool false]) else (if (decide (v7 > 0)) = true then ((InR .i64 (v7 - 1)) ∧ ((0 ≤ v7 - 1) ∧ (v7 - 1 < (↑(List.length x0) : Int)) ∧ (if (decide (g32_0 (List.getD x0 (Int.toNat (v7 - 1)) (ByteArray.empty, ByteArray.empty, ByteArray.empty, ())) (List.getD x0 (Int.toNat v7) (ByteArray.empty, ByteArray.empty, ByteArray.empty, ())) ≥ 0)) = true then (ds = [Dyn.mk Ty.bool false]) else ((InR .i64 (v7 + 1)) ∧ (R20_2 n (v7 + 1) (x0) ds))))) else ((InR .i64 (v7 + 1)) ∧ (R20_2 n (v7 + 1) (x0) ds)))))) else (ds = [Dyn.mk Ty.bool (decide ((↑(List.length x0) : Int) ≤ 32))]))
end
theorem snd20 : ∀ n, (∀ (x0 : List TyB1) ds, R20 n x0 ds → ∀ K q, AtV Tryz.prog 20 (PostR kds20 oks20 ds [] [] q K) 33 K q [] [.code b20] (entE 0 0 sig20 (x0, ())) (entL sig20 (x0, ()))) ∧ (∀ (v7 : Int) (x0 : List TyB1) ds, R20_2 n v7 x0 ds → ∀ K q, AtV Tryz.prog 20 (PostR kds20 oks20 ds [] [] q K) 33 K q [] (cutAt b20 2) (E20_2 v7 x0) (L20_2 v7 x0)) := by
  intro n
  induction n with
  | zero => exact ⟨fun _ _ h => by simp only [R20] at h, fun _ _ _ h => by simp only [R20_2] at h⟩
  | succ n ih =>
  obtain ⟨ih, ih2⟩ := ih
  refine ⟨?_, ?_⟩
  · intro x0 ds h K q
    rw [R20] at h
    exact AtV.go tabOk ext20Ok mixed false [] [] [0, 5, 6, 7] [] [] trivial (ih2 _ _ _ h K q) (by kernel_rfl)
  · intro v7 x0 ds h K q
    rw [R20_2] at h
    by_cases b0 : (decide (v7 < (↑(List.length x0) : Int))) = true
    · rw [if_pos b0] at h
      obtain ⟨s0, s1, h⟩ := h
      obtain ⟨s2, h⟩ := h
      by_cases b1 : (!g48_0 (List.getD x0 (Int.toNat v7) (ByteArray.empty, ByteArray.empty, ByteArray.empty, ()))) = true
      · rw [if_pos b1] at h
        subst h
        exact AtV.ret Tryz.func20 tabOk ext20Ok mixed false [] tys20 [true, true, true] (a1 b0 (a1 s0 (a1 s1 (a1 s2 (a1 b1 (a1 (rfl : true = true) trivial)))))) (by kernel_rfl)
      · rw [if_neg b1] at h
        replace b1 := Bool.eq_false_iff.2 b1
        by_cases b2 : (decide (v7 > 0)) = true
        · rw [if_pos b2] at h
          obtain ⟨s3, h⟩ := h
          obtain ⟨s4, s5, h⟩ := h
          by_cases b3 : (decide (g32_0 (List.getD x0 (Int.toNat (v7 - 1)) (ByteArray.empty, ByteArray.empty, ByteArray.empty, ())) (List.getD x0 (Int.toNat v7) (ByteArray.empty, ByteArray.empty, ByteArray.empty, ())) ≥ 0)) = true
          · rw [if_pos b3] at h
            subst h
            exact AtV.ret Tryz.func20 tabOk ext20Ok mixed false [] tys20 [true, false, true, true] (a1 b0 (a1 s0 (a1 s1 (a1 s2 (a1 b1 (a1 b2 (a1 s3 (a1 s4 (a1 s5 (a1 trivial (a1 b3 trivial))))))))))) (by kernel_rfl)
          · rw [if_neg b3] at h
            replace b3 := Bool.eq_false_iff.2 b3
            obtain ⟨s6, h⟩ := h
            exact AtV.go tabOk ext20Ok mixed false [] [] [0, 5, 6, 7] [] [true, false, true, false] (a1 b0 (a1 s0 (a1 s1 (a1 s2 (a1 b1 (a1 b2 (a1 s3 (a1 s4 (a1 s5 (a1 trivial (a1 b3 (a1 s6 trivial)))))))))))) (ih2 _ _ _ h K q) (by kernel_rfl)
        · rw [if_neg b2] at h
          replace b2 := Bool.eq_false_iff.2 b2
          obtain ⟨s3, h⟩ := h
          exact AtV.go tabOk ext20Ok mixed false [] [] [0, 5, 6, 7] [] [true, false, false, false] (a1 b0 (a1 s0 (a1 s1 (a1 s2 (a1 b1 (a1 b2 (a1 (rfl : false = false) (a1 s3 trivial)))))))) (ih2 _ _ _ h K q) (by kernel_rfl)
    · rw [if_neg b0] at h
      replace b0 := Bool.eq_false_iff.2 b0
      subst h
      exact AtV.ret Tryz.func20 tabOk ext20Ok mixed false [] tys20 [false] (a1 b0 trivial) (by kernel_rfl)
def ok20 (x0 : List TyB1) (i : Nat) (x : ByteArray × ByteArray × ByteArray × Unit) : Bool :=
  g48_0 x && (i == 0 || !decide (g32_0 (x0.getD (i - 1) (ByteArray.empty, ByteArray.empty, ByteArray.empty, ())) x ≥ 0))
def g20_0 (x0 : List TyB1) : Bool := allI (ok20 x0) 0 x0 && decide (x0.length ≤ 32)
def P20 (x0 : List TyB1) : Prop := True
theorem step20 (n i : Nat) (x0 : List TyB1) (hm : x0.length ≤ maxLen) (hi : i < x0.length) (ds : List Dyn) :
    (if ok20 x0 i (x0.getD i (ByteArray.empty, ByteArray.empty, ByteArray.empty, ())) = true then R20_2 n ((i : Int) + 1) x0 ds else ds = [⟨.bool, false⟩]) → R20_2 (n + 1) (i : Int) x0 ds := by
  intro h
  have hu := inR_up hm hi
  rw [R20_2, if_pos (by simp; omega)]
  refine ⟨by omega, by omega, ?_⟩
  simp only [Int.toNat_natCast]
  unfold ok20 at h
  refine ⟨pre48 _, ?_⟩
  by_cases h1 : g48_0 (x0.getD i (ByteArray.empty, ByteArray.empty, ByteArray.empty, ())) = true
  case neg =>
    have h1 := Bool.eq_false_iff.2 h1
    rw [h1] at h
    rw [if_pos (by rw [h1]; rfl)]
    simpa using h
  case pos =>
    rw [h1] at h
    rw [if_neg (by rw [h1]; simp)]
    by_cases h0 : (i : Int) > 0
    · rw [if_pos (by simpa using h0)]
      have hi0 : (i == 0) = false := by simp; omega
      have e : ((i : Int) - 1).toNat = i - 1 := by omega
      refine ⟨by rw [i64_iff]; have : maxLen ≤ 9223372036854775807 := by decide
                 omega, by omega, by omega, ?_⟩
      rw [e]
      by_cases h2 : g32_0 (x0.getD (i - 1) (ByteArray.empty, ByteArray.empty, ByteArray.empty, ())) (x0.getD i (ByteArray.empty, ByteArray.empty, ByteArray.empty, ())) ≥ 0
      · rw [if_pos (by simpa using h2)]
        rw [hi0, decide_eq_true h2] at h
        simpa using h
      · rw [if_neg (by simpa using h2)]
        rw [hi0, decide_eq_false h2] at h
        exact ⟨hu, by simpa using h⟩
    · rw [if_neg (by simpa using h0)]
      have hi0 : (i == 0) = true := by simp; omega
      rw [hi0] at h
      exact ⟨hu, by simpa using h⟩
theorem top20 (x0 : List TyB1) (hw : x0.length ≤ maxLen) : R20 (x0.length + 1 + 1) x0 [⟨.bool, g20_0 x0⟩] := by
  rw [R20]
  have key := loop_testI x0 (ByteArray.empty, ByteArray.empty, ByteArray.empty, ()) (ok20 x0) [(⟨.bool, false⟩ : Dyn)] [⟨.bool, decide (x0.length ≤ 32)⟩] (fun n i ds => R20_2 n i x0 ds) (fun n => ?_) (fun n i hi hok ds hr => ?_) (fun n i hi hok => ?_)
  · unfold g20_0
    cases h : allI (ok20 x0) 0 x0 with
    | true => rw [if_pos h] at key; simpa using key
    | false => rw [if_neg (by rw [h]; simp)] at key; simpa using key
  · rw [R20_2, if_neg (by simp)]
    have hc : decide ((x0.length : Int) ≤ 32) = decide (x0.length ≤ 32) := by
      congr 1; exact propext ⟨fun h => by omega, fun h => by omega⟩
    rw [hc]
  · exact step20 n i x0 hw hi ds (by rw [if_pos hok]; exact hr)
  · exact step20 n i x0 hw hi _ (by rw [if_neg (by rw [hok]; simp)])
def S20 : Am.Spec := { sig := sig20, pre := fun ⟨x0, _⟩ => P20 x0, res := fun ⟨x0, _⟩ => [⟨Ty.bool, g20_0 x0⟩] }
theorem con20 : Contract Tryz.prog 20 S20 := contract_of Tryz.func20 hb20 (Nat.le_of_ble_eq_true (by kernel_rfl)) (fun ⟨x0, _⟩ h hwf K q =>
  (snd20 _).1 x0 _ (top20 x0 hwf.1.1) K q)
end
end Go.Proofs.YtbepbihblhhfkaaGreatDoor
