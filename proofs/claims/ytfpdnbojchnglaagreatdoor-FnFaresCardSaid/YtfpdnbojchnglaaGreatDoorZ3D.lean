/- Several texts in one: the functions that this law reaches, and their laws. -/
import Derived.Test.YtfpdnbojchnglaaGreatDoorZ3A
import Derived.Test.YtfpdnbojchnglaaGreatDoorZ3B
import Derived.Test.YtfpdnbojchnglaaGreatDoorZ3C
import Derived.Shelf.Strings.Builder1
import Derived.Shelf.Strings.Builder2
import Derived.Shelf.Strings.BuilderF
import Derived.Shelf.Strings.BuilderK
import Derived.Shelf.Utf8.RuneCount
import Derived.Shelf.Strconv.Itoa0
import Derived.Shelf.Strconv.Itoa1
import Derived.Shelf.LaysM
import Derived.Shelf.Strconv.Itoa2
import Derived.Shelf.Strconv.Itoa3
import Derived.Shelf.Strconv.Itoa4
import Derived.Shelf.Strconv.ParseIntEmpty
import Derived.Shelf.Strconv.Clone
import Derived.Shelf.Strconv.SyntaxError
import Derived.Shelf.LaysC
import Derived.Shelf.Strconv.ToError
import Derived.Shelf.Strconv.Lower
import Derived.Shelf.Strconv.ParseUint10
import Derived.Shelf.Strconv.ParseUint10Empty
import Derived.Shelf.Strconv.ParseUint10Any
import Derived.Shelf.Strconv.ParseInt10
import Derived.Shelf.Strconv.RangeError
import Derived.Shelf.Strconv.ToErrorRange
import Derived.Shelf.Strconv.ParseUintEmpty
import Derived.Shelf.Strconv.ParseUint10b64
import Derived.Shelf.Strconv.ParseUint10b32
import Derived.Shelf.Strconv.ParseUint10b16
import Derived.Shelf.Strconv.ParseUint10b8
import Derived.Shelf.Strconv.ParseUint10At
import Derived.Shelf.Strconv.ParseInt10At64
import Derived.Shelf.Strconv.ParseInt10At32
import Derived.Shelf.Strconv.ParseInt10At16
import Derived.Shelf.Strconv.ParseInt10At8
import Derived.Shelf.Strconv.ParseInt10All
import Derived.Shelf.Strconv.ParseIntPublic10
import Derived.Shelf.Strings.Search1
import Derived.Shelf.Strings.Search2
import Derived.Shelf.Strings.Search3
import Derived.Shelf.Strings.Count
import Derived.Shelf.Strings.Shaped
import Derived.Shelf.Strings.Prefix
import Derived.Shelf.Strings.Split
import Derived.Shelf.Strings.SplitShaped
import Derived.Shelf.Unicode.Decode
import Derived.Shelf.Strings.RuneCount
import Derived.Shelf.Strings.Explode
import Derived.Shelf.Bits.Mul64
import Derived.Shelf.Strings.Repeat
import Derived.Shelf.Unicode.DecodeSlow
import Derived.Shelf.Unicode.DecodeAny
import Derived.WalkKit

/- A law that says how functions of the program and of the specification hang together. -/
set_option linter.unusedVariables false
set_option linter.unusedSimpArgs false
set_option maxRecDepth 100000
namespace Go.Proofs.YtfpdnbojchnglaaGreatDoor
open Go Go.Am Go.Proofs

theorem among_ok {n : Int} {s : List Int × Int × Int × Unit} (h : SrcOk n s) (l : List Int) (hl : 1 ≤ l.length) (hn : n ≤ 4611686018427387902) :
    P35 s l ∧ SrcOk (n + 2) (u35_0 s l) ∧ g35_0 s l ∈ l := by
  obtain ⟨p, s1, a, b, _⟩ := pick_ok h (l.length : Int) hn
  have b := b (by omega)
  exact ⟨⟨p, a, b, trivial⟩, s1, mem_getD l _ 0 (by omega)⟩

end Go.Proofs.YtfpdnbojchnglaaGreatDoor

/- A law that says how functions of the program and of the specification hang together. -/
set_option linter.unusedVariables false
set_option linter.unusedSimpArgs false
set_option maxRecDepth 100000
namespace Go.Proofs.YtfpdnbojchnglaaGreatDoor
open Go Go.Am Go.Proofs

theorem one_ok {n : Int} {s : List Int × Int × Int × Unit} (h : SrcOk n s) (m : Int) (hn : n ≤ 4611686018427387902) :
    P21 s m ∧ SrcOk (n + 2) (u21_0 s m) := by
  obtain ⟨p, s1, _⟩ := pick_ok h m hn
  exact ⟨⟨p, trivial⟩, s1⟩

end Go.Proofs.YtfpdnbojchnglaaGreatDoor

/- A law that says how functions of the program and of the specification hang together. -/
set_option linter.unusedVariables false
set_option linter.unusedSimpArgs false
set_option maxRecDepth 100000
namespace Go.Proofs.YtfpdnbojchnglaaGreatDoor
open Go Go.Am Go.Proofs

theorem draw_fare {n : Int} {s : (List Int × Int × Int × Unit)} (h : SrcOk n s) (hn : n ≤ 4000000000000000000) (id : ByteArray) : P43 s id ∧ SrcOk (n + 6) (u43_0 s id) := by
  obtain ⟨p1, s1, a, b, _⟩ := pick_ok h 60 (by omega)
  have b := b (by decide)
  obtain ⟨p2, s2, _⟩ := among_ok s1 [1, 1, 2, 5, 10, 40] (by decide) (by omega)
  obtain ⟨p3, s3, _⟩ := among_ok s2 [1, 3, 7, 30, 400] (by decide) (by omega)
  exact ⟨⟨p1, by rw [i64_iff]; omega, by rw [i64_iff]; omega, p2, p3, trivial⟩, s3.up (by omega)⟩

theorem bent_fare {n : Int} {s : (List Int × Int × Int × Unit)} (h : SrcOk n s) (hn : n ≤ 4000000000000000000) (f : ByteArray × Int × Int × Int × Unit) : P45 s f ∧ SrcOk (n + 4) (u45_0 s f) := by
  obtain ⟨p1, s1, _⟩ := pick_ok h 18 (by omega)
  unfold P45 u45_0
  by_cases c0 : (g44_0 s 18 == 0) = true
  · obtain ⟨p2, s2, _⟩ := among_ok s1 [-1, 0, 100000, 100001] (by decide) (by omega)
    simp only [if_pos c0]
    exact ⟨⟨p1, p2, trivial⟩, s2.up (by omega)⟩
  · by_cases c1 : (g44_0 s 18 == 1) = true
    · obtain ⟨p2, s2, _⟩ := among_ok s1 [0, 1, 1000, 1001] (by decide) (by omega)
      simp only [if_neg c0, if_pos c1]
      exact ⟨⟨p1, p2, trivial⟩, s2.up (by omega)⟩
    · by_cases c2 : (g44_0 s 18 == 2) = true
      · obtain ⟨p2, s2, _⟩ := among_ok s1 [0, 1, 400, 401] (by decide) (by omega)
        simp only [if_neg c0, if_neg c1, if_pos c2]
        exact ⟨⟨p1, p2, trivial⟩, s2.up (by omega)⟩
      · simp only [if_neg c0, if_neg c1, if_neg c2]
        exact ⟨⟨p1, trivial⟩, s1.up (by omega)⟩

end Go.Proofs.YtfpdnbojchnglaaGreatDoor

/- Function 19 (spec.l18Draw): its runs between cut points. Written by a program of this repo (gen). -/
set_option linter.unusedVariables false
set_option linter.unusedSimpArgs false
set_option maxRecDepth 100000
namespace Go.Proofs.YtfpdnbojchnglaaGreatDoor
open Go Go.Am Go.Proofs
noncomputable section
def ext19 : Ext := [(21, S21), (43, S43), (44, S44), (45, S45), (35, S35), (46, S46)]
theorem call19_21 : Callable Tryz.prog 21 := ⟨Tryz.f21, Tryz.func21, by kernel_rfl, by kernel_rfl⟩
theorem call19_43 : Callable Tryz.prog 43 := ⟨Tryz.f43, Tryz.func43, by kernel_rfl, by kernel_rfl⟩
theorem call19_44 : Callable Tryz.prog 44 := ⟨Tryz.f44, Tryz.func44, by kernel_rfl, by kernel_rfl⟩
theorem call19_45 : Callable Tryz.prog 45 := ⟨Tryz.f45, Tryz.func45, by kernel_rfl, by kernel_rfl⟩
theorem call19_35 : Callable Tryz.prog 35 := ⟨Tryz.f35, Tryz.func35, by kernel_rfl, by kernel_rfl⟩
theorem call19_46 : Callable Tryz.prog 46 := ⟨Tryz.f46, Tryz.func46, by kernel_rfl, by kernel_rfl⟩
theorem ext19Ok : ExtOk Tryz.prog ext19 := ⟨⟨call19_21, con21⟩, ⟨call19_43, con43⟩, ⟨call19_44, con44⟩, ⟨call19_45, con45⟩, ⟨call19_35, con35⟩, ⟨call19_46, con46⟩, trivial⟩

noncomputable def b19 : Code := bodyOf Tryz.f19
theorem hb19 : Tryz.f19.body = some b19 := by kernel_rfl
def sig19 : List AT := [AT.pb (Ty.cons (Ty.sl (Ty.int IntKind.u8)) (Ty.cons (Ty.int IntKind.i64) (Ty.cons (Ty.int IntKind.u64) Ty.unit)))]
def tys19 : List Ty := [Ty.sl (Ty.cons Ty.str (Ty.cons (Ty.int IntKind.i64) (Ty.cons (Ty.int IntKind.i64) (Ty.cons (Ty.int IntKind.i64) Ty.unit))))]
def kds19 : List RK := []
def oks19 : List AT := owns sig19
def E19_4 (v5 : Int) (h2 : List (ByteArray × Int × Int × Int × Unit)) (x0 : List Int × Int × Int × Unit) : Env := [(0, PV.a (Atom.optr 0 0 [])), (3, PV.a (Atom.osl 1 Option.none)), (4, PV.a (Atom.osl 2 Option.none)), (5, PV.a (Atom.val (Value.int IntKind.i64 v5)))]
def L19_4 (v5 : Int) (h2 : List (ByteArray × Int × Int × Int × Unit)) (x0 : List Int × Int × Int × Unit) : Heap := [Option.some (Arr.mk (Ty.cons (Ty.sl (Ty.int IntKind.u8)) (Ty.cons (Ty.int IntKind.i64) (Ty.cons (Ty.int IntKind.u64) Ty.unit))) [x0] Bool.true Option.none (Option.some Bool.true)), Option.some (Arr.mk Ty.str [ByteArray.mk #[100, 97, 121], ByteArray.mk #[109, 111, 110, 116, 104], ByteArray.mk #[115, 105, 110, 103, 108, 101], ByteArray.mk #[116, 101, 110], ByteArray.mk #[119, 101, 101, 107]] Bool.false Option.none Option.none), Option.some (Arr.mk (Ty.cons Ty.str (Ty.cons (Ty.int IntKind.i64) (Ty.cons (Ty.int IntKind.i64) (Ty.cons (Ty.int IntKind.i64) Ty.unit)))) h2 Bool.false Option.none Option.none)]
def E19_15 (v7 : Int) (h0 : List Int × Int × Int × Unit) (h1 : List (ByteArray × Int × Int × Int × Unit)) (x0 : List Int × Int × Int × Unit) : Env := [(0, PV.a (Atom.optr 0 0 [])), (4, PV.a (Atom.osl 1 Option.none)), (6, PV.a (Atom.val (Value.int IntKind.i64 (g35_0 (u44_0 x0 20) [8, 9])))), (7, PV.a (Atom.val (Value.int IntKind.i64 v7)))]
def L19_15 (v7 : Int) (h0 : List Int × Int × Int × Unit) (h1 : List (ByteArray × Int × Int × Int × Unit)) (x0 : List Int × Int × Int × Unit) : Heap := [Option.some (Arr.mk (Ty.cons (Ty.sl (Ty.int IntKind.u8)) (Ty.cons (Ty.int IntKind.i64) (Ty.cons (Ty.int IntKind.u64) Ty.unit))) [h0] Bool.true Option.none (Option.some Bool.true)), Option.some (Arr.mk (Ty.cons Ty.str (Ty.cons (Ty.int IntKind.i64) (Ty.cons (Ty.int IntKind.i64) (Ty.cons (Ty.int IntKind.i64) Ty.unit)))) h1 Bool.false Option.none Option.none)]
mutual
def R19 : Nat → List Int × Int × Int × Unit → List Dyn → List (Option Lst) → Prop
  | 0, _, _, _ => False
  | n + 1, x0, ds, us => (R19_4 n (0) ([]) (x0) ds us)
def R19_4 : Nat → Int → List (ByteArray × Int × Int × Int × Unit) → List Int × Int × Int × Unit → List Dyn → List (Option Lst) → Prop
  | 0, _, _, _, _, _ => False
  | n + 1, v5, h2, x0, ds, us => (if (Decidable.decide (v5 < 5)) = true then ((P21 x0 4) ∧ (if (!g21_0 x0 4) = true then ((0 ≤ v5) ∧ (v5 < 5) ∧ ((P43 (u21_0 x0 4) (List.getD [ByteArray.mk #[100, 97, 121], ByteArray.mk #[109, 111, 110, 116, 104], ByteArray.mk #[115, 105, 110, 103, 108, 101], ByteArray.mk #[116, 101, 110], ByteArray.mk #[119, 101, 101, 107]] (Int.toNat v5) ByteArray.empty)) ∧ (((List.length h2 + 1) * 40 ≤ 140737488355328) ∧ ((InR IntKind.i64 (v5 + 1)) ∧ (R19_4 n (v5 + 1) (h2 ++ [(List.getD [ByteArray.mk #[100, 97, 121], ByteArray.mk #[109, 111, 110, 116, 104], ByteArray.mk #[115, 105, 110, 103, 108, 101], ByteArray.mk #[116, 101, 110], ByteArray.mk #[119, 101, 101, 107]] (Int.toNat v5) ByteArray.empty, 100 + 50 * g44_0 (u21_0 x0 4) 60, g35_0 (u44_0 (u21_0 x0 4) 60) [1, 1, 2, 5, 10, 40], g35_0 (u35_0 (u44_0 (u21_0 x0 4) 60) [1, 1, 2, 5, 10, 40]) [1, 3, 7, 30, 400], ())]) (u43_0 (u21_0 x0 4) (List.getD [ByteArray.mk #[100, 97, 121], ByteArray.mk #[109, 111, 110, 116, 104], ByteArray.mk #[115, 105, 110, 103, 108, 101], ByteArray.mk #[116, 101, 110], ByteArray.mk #[119, 101, 101, 107]] (Int.toNat v5) ByteArray.empty)) ds us))))) else ((InR IntKind.i64 (v5 + 1)) ∧ (R19_4 n (v5 + 1) (h2) (u21_0 x0 4) ds us)))) else ((P44 x0 20) ∧ (if (g44_0 x0 20 == 0) = true then ((P43 (u44_0 x0 20) (ByteArray.mk #[122, 122])) ∧ ((P45 (u43_0 (u44_0 x0 20) (ByteArray.mk #[122, 122])) (ByteArray.mk #[122, 122], 100 + 50 * g44_0 (u44_0 x0 20) 60, g35_0 (u44_0 (u44_0 x0 20) 60) [1, 1, 2, 5, 10, 40], g35_0 (u35_0 (u44_0 (u44_0 x0 20) 60) [1, 1, 2, 5, 10, 40]) [1, 3, 7, 30, 400], ())) ∧ (((List.length h2 + 1) * 40 ≤ 140737488355328) ∧ (ds = [Dyn.mk (Ty.sl (Ty.cons Ty.str (Ty.cons (Ty.int IntKind.i64) (Ty.cons (Ty.int IntKind.i64) (Ty.cons (Ty.int IntKind.i64) Ty.unit))))) (h2 ++ [g45_0 (u43_0 (u44_0 x0 20) (ByteArray.mk #[122, 122])) (ByteArray.mk #[122, 122], 100 + 50 * g44_0 (u44_0 x0 20) 60, g35_0 (u44_0 (u44_0 x0 20) 60) [1, 1, 2, 5, 10, 40], g35_0 (u35_0 (u44_0 (u44_0 x0 20) 60) [1, 1, 2, 5, 10, 40]) [1, 3, 7, 30, 400], ())])] ∧ us = [Option.some (Lst.mk (Ty.cons (Ty.sl (Ty.int IntKind.u8)) (Ty.cons (Ty.int IntKind.i64) (Ty.cons (Ty.int IntKind.u64) Ty.unit))) [u45_0 (u43_0 (u44_0 x0 20) (ByteArray.mk #[122, 122])) (ByteArray.mk #[122, 122], 100 + 50 * g44_0 (u44_0 x0 20) 60, g35_0 (u44_0 (u44_0 x0 20) 60) [1, 1, 2, 5, 10, 40], g35_0 (u35_0 (u44_0 (u44_0 x0 20) 60) [1, 1, 2, 5, 10, 40]) [1, 3, 7, 30, 400], ())])])))) else (if (g44_0 x0 20 == 1) = true then ((P35 (u44_0 x0 20) [8, 9]) ∧ (R19_15 n (0) (u35_0 (u44_0 x0 20) [8, 9]) ([]) (x0) ds us)) else (ds = [Dyn.mk (Ty.sl (Ty.cons Ty.str (Ty.cons (Ty.int IntKind.i64) (Ty.cons (Ty.int IntKind.i64) (Ty.cons (Ty.int IntKind.i64) Ty.unit))))) h2] ∧ us = [Option.some (Lst.mk (Ty.cons (Ty.sl (Ty.int IntKind.u8)) (Ty.cons (Ty.int IntKind.i64) (Ty.cons (Ty.int IntKind.u64) Ty.unit))) [u44_0 x0 20])])))))
def R19_15 : Nat → Int → List Int × Int × Int × Unit → List (ByteArray × Int × Int × Int × Unit) → List Int × Int × Int × Unit → List Dyn → List (Option Lst) → Prop
  | 0, _, _, _, _, _, _ => False
  | n + 1, v7, h0, h1, x0, ds, us => (if (Decidable.decide (v7 < g35_0 (u44_0 x0 20) [8, 9])) = true then ((1 + ByteArray.size (g46_0 v7) ≤ 9223372036854775807) ∧ ((P43 h0 (ByteArray.mk #[110] ++ g46_0 v7)) ∧ (((List.length h1 + 1) * 40 ≤ 140737488355328) ∧ ((InR IntKind.i64 (v7 + 1)) ∧ (R19_15 n (v7 + 1) (u43_0 h0 (ByteArray.mk #[110] ++ g46_0 v7)) (h1 ++ [(ByteArray.mk #[110] ++ g46_0 v7, 100 + 50 * g44_0 h0 60, g35_0 (u44_0 h0 60) [1, 1, 2, 5, 10, 40], g35_0 (u35_0 (u44_0 h0 60) [1, 1, 2, 5, 10, 40]) [1, 3, 7, 30, 400], ())]) (x0) ds us))))) else (ds = [Dyn.mk (Ty.sl (Ty.cons Ty.str (Ty.cons (Ty.int IntKind.i64) (Ty.cons (Ty.int IntKind.i64) (Ty.cons (Ty.int IntKind.i64) Ty.unit))))) h1] ∧ us = [Option.some (Lst.mk (Ty.cons (Ty.sl (Ty.int IntKind.u8)) (Ty.cons (Ty.int IntKind.i64) (Ty.cons (Ty.int IntKind.u64) Ty.unit))) [h0])]))
end
theorem snd19 : ∀ n, (∀ (x0 : List Int × Int × Int × Unit) ds us, R19 n x0 ds us → ∀ K q, AtV Tryz.prog 19 (PostR kds19 oks19 ds us [0] q K) 59 K q [0] [.code b19] (entE 0 0 sig19 (x0, ())) (entL sig19 (x0, ()))) ∧ (∀ (v5 : Int) (h2 : List (ByteArray × Int × Int × Int × Unit)) (x0 : List Int × Int × Int × Unit) ds us, R19_4 n v5 h2 x0 ds us → ∀ K q, AtV Tryz.prog 19 (PostR kds19 oks19 ds us [0] q K) 59 K q [0] (cutAt b19 4) (E19_4 v5 h2 x0) (L19_4 v5 h2 x0)) ∧ (∀ (v7 : Int) (h0 : List Int × Int × Int × Unit) (h1 : List (ByteArray × Int × Int × Int × Unit)) (x0 : List Int × Int × Int × Unit) ds us, R19_15 n v7 h0 h1 x0 ds us → ∀ K q, AtV Tryz.prog 19 (PostR kds19 oks19 ds us [0] q K) 59 K q [0] (cutAt b19 15) (E19_15 v7 h0 h1 x0) (L19_15 v7 h0 h1 x0)) := by
  intro n
  induction n with
  | zero => exact ⟨fun _ _ _ h => by simp only [R19] at h, fun _ _ _ _ _ h => by simp only [R19_4] at h, fun _ _ _ _ _ _ h => by simp only [R19_15] at h⟩
  | succ n ih =>
  obtain ⟨ih, ih4, ih15⟩ := ih
  refine ⟨?_, ?_, ?_⟩
  · intro x0 ds us h K q
    rw [R19] at h
    exact AtV.go tabOk ext19Ok mixed false [] [] [0, 3, 4, 5] [0, 1, 2] [] trivial (ih4 _ _ _ _ _ h K q) (by kernel_rfl)

  · intro v5 h2 x0 ds us h K q
    rw [R19_4] at h
    by_cases b0 : (Decidable.decide (v5 < 5)) = true
    · rw [if_pos b0] at h
      obtain ⟨s0, h⟩ := h
      by_cases b1 : (!g21_0 x0 4) = true
      · rw [if_pos b1] at h
        obtain ⟨s1, s2, h⟩ := h
        obtain ⟨s3, h⟩ := h
        obtain ⟨s4, h⟩ := h
        obtain ⟨s5, h⟩ := h
        exact AtV.go tabOk ext19Ok mixed false [] [] [0, 3, 4, 5] [0, 1, 2] [true, true] (a1 b0 (a1 s0 (a1 b1 (a1 s1 (a1 s2 (a1 s3 (a1 s4 (a1 s5 trivial)))))))) (ih4 _ _ _ _ _ h K q) (by kernel_rfl)
      · rw [if_neg b1] at h
        replace b1 := Bool.eq_false_iff.2 b1
        obtain ⟨s1, h⟩ := h
        exact AtV.go tabOk ext19Ok mixed false [] [] [0, 3, 4, 5] [0, 1, 2] [true, false] (a1 b0 (a1 s0 (a1 b1 (a1 s1 trivial)))) (ih4 _ _ _ _ _ h K q) (by kernel_rfl)
    · rw [if_neg b0] at h
      replace b0 := Bool.eq_false_iff.2 b0
      obtain ⟨s0, h⟩ := h
      by_cases b1 : (g44_0 x0 20 == 0) = true
      · rw [if_pos b1] at h
        obtain ⟨s1, h⟩ := h
        obtain ⟨s2, h⟩ := h
        obtain ⟨s3, h⟩ := h
        obtain ⟨h, h'⟩ := h; subst h; subst h'
        exact AtV.ret Tryz.func19 tabOk ext19Ok mixed false [] tys19 [false, true] (a1 b0 (a1 s0 (a1 b1 (a1 s1 (a1 s2 (a1 s3 trivial)))))) (by kernel_rfl)
      · rw [if_neg b1] at h
        replace b1 := Bool.eq_false_iff.2 b1
        by_cases b2 : (g44_0 x0 20 == 1) = true
        · rw [if_pos b2] at h
          obtain ⟨s1, h⟩ := h
          exact AtV.go tabOk ext19Ok mixed false [] [] [0, 4, 6, 7] [0, 4] [false, false, true] (a1 b0 (a1 s0 (a1 b1 (a1 b2 (a1 s1 trivial))))) (ih15 _ _ _ _ _ _ h K q) (by kernel_rfl)
        · rw [if_neg b2] at h
          replace b2 := Bool.eq_false_iff.2 b2
          obtain ⟨h, h'⟩ := h; subst h; subst h'
          exact AtV.ret Tryz.func19 tabOk ext19Ok mixed false [] tys19 [false, false, false] (a1 b0 (a1 s0 (a1 b1 (a1 b2 trivial)))) (by kernel_rfl)

  · intro v7 h0 h1 x0 ds us h K q
    rw [R19_15] at h
    by_cases b0 : (Decidable.decide (v7 < g35_0 (u44_0 x0 20) [8, 9])) = true
    · rw [if_pos b0] at h
      obtain ⟨s0, h⟩ := h
      obtain ⟨s1, h⟩ := h
      obtain ⟨s2, h⟩ := h
      obtain ⟨s3, h⟩ := h
      exact AtV.go tabOk ext19Ok mixed false [] [] [0, 4, 6, 7] [0, 1] [true] (a1 b0 (a1 trivial (a1 s0 (a1 s1 (a1 s2 (a1 s3 trivial)))))) (ih15 _ _ _ _ _ _ h K q) (by kernel_rfl)
    · rw [if_neg b0] at h
      replace b0 := Bool.eq_false_iff.2 b0
      obtain ⟨h, h'⟩ := h; subst h; subst h'
      exact AtV.ret Tryz.func19 tabOk ext19Ok mixed false [] tys19 [false] (a1 b0 trivial) (by kernel_rfl)



abbrev FT19 := ByteArray × Int × Int × Int × Unit
def P19 (x0 : (List Int × Int × Int × Unit)) : Prop := SrcOk 800000000 x0
def Q19 (x0 : (List Int × Int × Int × Unit)) (y : List FT19) (s : (List Int × Int × Int × Unit)) : Prop := SrcOk (x0.2.1 + 1000) s ∧ y.length ≤ 20 ∧ ∃ n, R19 n x0 [⟨.sl (.cons .str (.cons (.int .i64) (.cons (.int .i64) (.cons (.int .i64) .unit)))), y⟩] [some ⟨(.cons (.sl (.int .u8)) (.cons (.int .i64) (.cons (.int .u64) .unit))), [s]⟩]

theorem many19 (x0 : (List Int × Int × Int × Unit)) (hM : g35_0 (u44_0 x0 20) [8, 9] ≤ 9) : ∀ (k : Nat) (v : Int) (s : (List Int × Int × Int × Unit)) (h : List FT19) (m : Int), 0 ≤ v → v ≤ 9 → g35_0 (u44_0 x0 20) [8, 9] ≤ v + k → SrcOk m s → m + 6 * (k : Int) ≤ 1000000000 → h.length + k ≤ 1000 →
    ∃ (n : Nat) (y : List FT19) (t : (List Int × Int × Int × Unit)), SrcOk (m + 6 * (k : Int)) t ∧ y.length ≤ h.length + k ∧ R19_15 n v s h x0 [⟨.sl (.cons .str (.cons (.int .i64) (.cons (.int .i64) (.cons (.int .i64) .unit)))), y⟩] [some ⟨(.cons (.sl (.int .u8)) (.cons (.int .i64) (.cons (.int .u64) .unit))), [t]⟩] := by
  intro k
  induction k with
  | zero =>
    intro v s h m h0 h9 hv hs hm hl
    refine ⟨1, h, s, hs.up (by omega), by omega, ?_⟩
    rw [R19_15, if_neg (by simp only [decide_eq_true_eq]; omega)]
    exact ⟨rfl, rfl⟩
  | succ k ih =>
    intro v s h m h0 h9 hv hs hm hl
    by_cases hc : v < g35_0 (u44_0 x0 20) [8, 9]
    · obtain ⟨p1, s1⟩ := draw_fare hs (by omega) (ByteArray.mk #[110] ++ g46_0 v)
      obtain ⟨n, y, t, a1, a2, a3⟩ := ih (v + 1) _ (h ++ [(ByteArray.mk #[110] ++ g46_0 v, 100 + 50 * g44_0 s 60, g35_0 (u44_0 s 60) [1, 1, 2, 5, 10, 40], g35_0 (u35_0 (u44_0 s 60) [1, 1, 2, 5, 10, 40]) [1, 3, 7, 30, 400], ())]) (m + 6) (by omega) (by omega) (by omega) s1 (by omega) (by simp; omega)
      have hz := numB_size v (by omega) (by omega)
      refine ⟨n + 1, y, t, a1.up (by omega), by simp at a2; omega, ?_⟩
      rw [R19_15, if_pos (decide_eq_true hc)]
      exact ⟨by show 1 + (numB v).size ≤ _; omega, p1, by omega, by rw [i64_iff]; omega, a3⟩
    · refine ⟨1, h, s, hs.up (by omega), by omega, ?_⟩
      rw [R19_15, if_neg (by simpa using hc)]
      exact ⟨rfl, rfl⟩

theorem run19 : ∀ (k : Nat) (v : Int) (s : (List Int × Int × Int × Unit)) (h : List FT19) (m : Int), v + (k : Int) = 5 → 0 ≤ v → SrcOk m s → m + 8 * (k : Int) ≤ 900000000 → (h.length : Int) ≤ v →
    ∃ (n : Nat) (y : List FT19) (t : (List Int × Int × Int × Unit)), SrcOk (m + 8 * (k : Int) + 100) t ∧ y.length ≤ 20 ∧ R19_4 n v h s [⟨.sl (.cons .str (.cons (.int .i64) (.cons (.int .i64) (.cons (.int .i64) .unit)))), y⟩] [some ⟨(.cons (.sl (.int .u8)) (.cons (.int .i64) (.cons (.int .u64) .unit))), [t]⟩] := by
  intro k
  induction k with
  | zero =>
    intro v s h m hv h0 hs hm hl
    obtain ⟨p1, s1, _⟩ := pick_ok hs 20 (by omega)
    by_cases c0 : (g44_0 s 20 == 0) = true
    · obtain ⟨p2, s2⟩ := draw_fare s1 (by omega) (ByteArray.mk #[122, 122])
      obtain ⟨p3, s3⟩ := bent_fare s2 (by omega) (ByteArray.mk #[122, 122], 100 + 50 * g44_0 (u44_0 s 20) 60, g35_0 (u44_0 (u44_0 s 20) 60) [1, 1, 2, 5, 10, 40], g35_0 (u35_0 (u44_0 (u44_0 s 20) 60) [1, 1, 2, 5, 10, 40]) [1, 3, 7, 30, 400], ())
      refine ⟨1, _, _, s3.up (by omega), ?_, by
        rw [R19_4, if_neg (by simp only [decide_eq_true_eq]; omega), if_pos c0]
        exact ⟨p1, p2, p3, by omega, rfl, rfl⟩⟩
      simp; omega
    · by_cases c1 : (g44_0 s 20 == 1) = true
      · obtain ⟨p2, s2, hm2⟩ := among_ok s1 [8, 9] (by decide) (by omega)
        have hM : g35_0 (u44_0 s 20) [8, 9] ≤ 9 := by
          have : ∀ z ∈ ([8, 9] : List Int), z ≤ 9 := by decide
          exact this _ hm2
        obtain ⟨n, y, t, a1, a2, a3⟩ := many19 s hM 9 0 _ [] _ (by omega) (by omega) (by omega) s2 (by omega) (by simp)
        refine ⟨n + 1, y, t, a1.up (by omega), by simp at a2; omega, ?_⟩
        rw [R19_4, if_neg (by simp only [decide_eq_true_eq]; omega), if_neg c0, if_pos c1]
        exact ⟨p1, p2, a3⟩
      · refine ⟨1, h, _, s1.up (by omega), by omega, ?_⟩
        rw [R19_4, if_neg (by simp only [decide_eq_true_eq]; omega), if_neg c0, if_neg c1]
        exact ⟨p1, rfl, rfl⟩
  | succ k ih =>
    intro v s h m hv h0 hs hm hl
    obtain ⟨p1, s1⟩ := one_ok hs 4 (by omega)
    by_cases hc : (!g21_0 s 4) = true
    · obtain ⟨p2, s2⟩ := draw_fare s1 (by omega) (List.getD [ByteArray.mk #[100, 97, 121], ByteArray.mk #[109, 111, 110, 116, 104], ByteArray.mk #[115, 105, 110, 103, 108, 101], ByteArray.mk #[116, 101, 110], ByteArray.mk #[119, 101, 101, 107]] (Int.toNat v) ByteArray.empty)
      obtain ⟨n, y, t, a1, a2, a3⟩ := ih (v + 1) _ (h ++ [(List.getD [ByteArray.mk #[100, 97, 121], ByteArray.mk #[109, 111, 110, 116, 104], ByteArray.mk #[115, 105, 110, 103, 108, 101], ByteArray.mk #[116, 101, 110], ByteArray.mk #[119, 101, 101, 107]] (Int.toNat v) ByteArray.empty, 100 + 50 * g44_0 (u21_0 s 4) 60, g35_0 (u44_0 (u21_0 s 4) 60) [1, 1, 2, 5, 10, 40], g35_0 (u35_0 (u44_0 (u21_0 s 4) 60) [1, 1, 2, 5, 10, 40]) [1, 3, 7, 30, 400], ())]) (m + 8) (by omega) (by omega) (s2.up (by omega)) (by omega) (by simp; omega)
      refine ⟨n + 1, y, t, a1.up (by omega), a2, ?_⟩
      rw [R19_4, if_pos (by simp only [decide_eq_true_eq]; omega), if_pos hc]
      exact ⟨p1, h0, by omega, p2, by omega, by rw [i64_iff]; omega, a3⟩
    · obtain ⟨n, y, t, a1, a2, a3⟩ := ih (v + 1) _ h (m + 8) (by omega) (by omega) (s1.up (by omega)) (by omega) (by omega)
      refine ⟨n + 1, y, t, a1.up (by omega), a2, ?_⟩
      rw [R19_4, if_pos (by simp only [decide_eq_true_eq]; omega), if_neg hc]
      exact ⟨p1, by rw [i64_iff]; omega, a3⟩

theorem ex19 (x0 : (List Int × Int × Int × Unit)) (h : P19 x0) : ∃ y s, Q19 x0 y s := by
  have h0 : x0.2.1 ≤ 800000000 := h.2.2
  obtain ⟨n, y, t, a1, a2, a3⟩ := run19 5 0 x0 [] _ (by omega) (by omega) (SrcOk.self h) (by omega) (by simp)
  exact ⟨y, t, a1.up (by omega), a2, n + 1, by rw [R19]; exact a3⟩

def g19_0 (x0 : (List Int × Int × Int × Unit)) : List FT19 := (sel2 [] x0 (Q19 x0)).1
def u19_0 (x0 : (List Int × Int × Int × Unit)) : (List Int × Int × Int × Unit) := (sel2 [] x0 (Q19 x0)).2
theorem q19 (x0 : (List Int × Int × Int × Unit)) (h : P19 x0) : Q19 x0 (g19_0 x0) (u19_0 x0) := by
  obtain ⟨y, s, hq⟩ := ex19 x0 h
  exact sel2_spec hq

def S19 : Am.Spec := { sig := sig19, pre := fun ⟨x0, _⟩ => P19 x0, upd := fun ⟨x0, _⟩ => [some ⟨(.cons (.sl (.int .u8)) (.cons (.int .i64) (.cons (.int .u64) .unit))), [u19_0 x0]⟩], res := fun ⟨x0, _⟩ => [⟨.sl (.cons .str (.cons (.int .i64) (.cons (.int .i64) (.cons (.int .i64) .unit)))), g19_0 x0⟩], kds := kds19 }
theorem con19 : Contract Tryz.prog 19 S19 := contract_of Tryz.func19 hb19 (Nat.le_of_ble_eq_true (by kernel_rfl)) (fun ⟨x0, _⟩ h hwf K q =>
  let ⟨n, hn⟩ := (q19 x0 h).2.2
  (snd19 n).1 x0 _ _ hn K q)

end
end Go.Proofs.YtfpdnbojchnglaaGreatDoor

/- Function 33 (spec.l18DrawId): its runs between cut points. Written by a program of this repo (gen). -/
set_option linter.unusedVariables false
set_option linter.unusedSimpArgs false
set_option maxRecDepth 100000
namespace Go.Proofs.YtfpdnbojchnglaaGreatDoor
open Go Go.Am Go.Proofs
noncomputable section
def ext33 : Ext := [(47, S47)]
theorem call33_47 : Callable Tryz.prog 47 := ⟨Tryz.f47, Tryz.func47, by kernel_rfl, by kernel_rfl⟩
theorem ext33Ok : ExtOk Tryz.prog ext33 := ⟨⟨call33_47, con47⟩, trivial⟩

noncomputable def b33 : Code := bodyOf Tryz.f33
theorem hb33 : Tryz.f33.body = some b33 := by kernel_rfl
def sig33 : List AT := [AT.pb (Ty.cons (Ty.sl (Ty.int IntKind.u8)) (Ty.cons (Ty.int IntKind.i64) (Ty.cons (Ty.int IntKind.u64) Ty.unit)))]
def tys33 : List Ty := [Ty.str]
def kds33 : List RK := []
def oks33 : List AT := owns sig33
def P33 (x0 : List Int × Int × Int × Unit) : Prop := ((P47 x0 [ByteArray.mk #[100, 97, 121], ByteArray.mk #[109, 111, 110, 116, 104], ByteArray.mk #[115, 105, 110, 103, 108, 101], ByteArray.mk #[116, 101, 110], ByteArray.mk #[119, 101, 101, 107]]) ∧ True)
def g33_0 (x0 : List Int × Int × Int × Unit) : ByteArray := g47_0 x0 [ByteArray.mk #[100, 97, 121], ByteArray.mk #[109, 111, 110, 116, 104], ByteArray.mk #[115, 105, 110, 103, 108, 101], ByteArray.mk #[116, 101, 110], ByteArray.mk #[119, 101, 101, 107]]
def u33_0 (x0 : List Int × Int × Int × Unit) : List Int × Int × Int × Unit := u47_0 x0 [ByteArray.mk #[100, 97, 121], ByteArray.mk #[109, 111, 110, 116, 104], ByteArray.mk #[115, 105, 110, 103, 108, 101], ByteArray.mk #[116, 101, 110], ByteArray.mk #[119, 101, 101, 107]]
theorem at33 (x0 : List Int × Int × Int × Unit) (h : P33 x0) (K : Ctx) (q : Nat → Value) : AtV Tryz.prog 33 (PostR kds33 oks33 [⟨Ty.str, g33_0 x0⟩] [some ⟨Ty.cons (Ty.sl (Ty.int IntKind.u8)) (Ty.cons (Ty.int IntKind.i64) (Ty.cons (Ty.int IntKind.u64) Ty.unit)), [u33_0 x0]⟩] [0] q K) 6 K q [0] [.code b33] (entE 0 0 sig33 (x0, ())) (entL sig33 (x0, ())) := by
  unfold P33 at h
  unfold g33_0 u33_0
  obtain ⟨s0, h⟩ := h
  exact AtV.weak (AtV.ret (us := [Option.some (Lst.mk (Ty.cons (Ty.sl (Ty.int IntKind.u8)) (Ty.cons (Ty.int IntKind.i64) (Ty.cons (Ty.int IntKind.u64) Ty.unit))) [u47_0 x0 [ByteArray.mk #[100, 97, 121], ByteArray.mk #[109, 111, 110, 116, 104], ByteArray.mk #[115, 105, 110, 103, 108, 101], ByteArray.mk #[116, 101, 110], ByteArray.mk #[119, 101, 101, 107]]])]) Tryz.func33 tabOk ext33Ok mixed false [] tys33 [] (a1 s0 trivial) (by kernel_rfl)) ⟨.inl rfl, trivial⟩

def S33 : Am.Spec := { sig := sig33, pre := fun ⟨x0, _⟩ => P33 x0, upd := fun ⟨x0, _⟩ => [some ⟨Ty.cons (Ty.sl (Ty.int IntKind.u8)) (Ty.cons (Ty.int IntKind.i64) (Ty.cons (Ty.int IntKind.u64) Ty.unit)), [u33_0 x0]⟩], res := fun ⟨x0, _⟩ => [⟨Ty.str, g33_0 x0⟩], kds := kds33 }
theorem con33 : Contract Tryz.prog 33 S33 := contract_of Tryz.func33 hb33 (Nat.le_of_ble_eq_true (by kernel_rfl)) (fun ⟨x0, _⟩ h _ K q => at33 x0 h K q)


end
end Go.Proofs.YtfpdnbojchnglaaGreatDoor

/- Function 20 (spec.l18DrawTicket): its runs between cut points. Written by a program of this repo (gen). -/
set_option linter.unusedVariables false
set_option linter.unusedSimpArgs false
set_option maxRecDepth 100000
namespace Go.Proofs.YtfpdnbojchnglaaGreatDoor
open Go Go.Am Go.Proofs
noncomputable section
def ext20 : Ext := [(33, S33), (44, S44), (47, S47), (35, S35)]
theorem call20_33 : Callable Tryz.prog 33 := ⟨Tryz.f33, Tryz.func33, by kernel_rfl, by kernel_rfl⟩
theorem call20_44 : Callable Tryz.prog 44 := ⟨Tryz.f44, Tryz.func44, by kernel_rfl, by kernel_rfl⟩
theorem call20_47 : Callable Tryz.prog 47 := ⟨Tryz.f47, Tryz.func47, by kernel_rfl, by kernel_rfl⟩
theorem call20_35 : Callable Tryz.prog 35 := ⟨Tryz.f35, Tryz.func35, by kernel_rfl, by kernel_rfl⟩
theorem ext20Ok : ExtOk Tryz.prog ext20 := ⟨⟨call20_33, con33⟩, ⟨call20_44, con44⟩, ⟨call20_47, con47⟩, ⟨call20_35, con35⟩, trivial⟩

noncomputable def b20 : Code := bodyOf Tryz.f20
theorem hb20 : Tryz.f20.body = some b20 := by kernel_rfl
def sig20 : List AT := [AT.pb (Ty.cons (Ty.sl (Ty.int IntKind.u8)) (Ty.cons (Ty.int IntKind.i64) (Ty.cons (Ty.int IntKind.u64) Ty.unit)))]
def tys20 : List Ty := [Ty.cons Ty.str (Ty.cons (Ty.int IntKind.i64) (Ty.cons (Ty.int IntKind.i64) Ty.unit))]
def kds20 : List RK := []
def oks20 : List AT := owns sig20
def P20 (x0 : List Int × Int × Int × Unit) : Prop := ((P33 x0) ∧ ((P44 (u33_0 x0) 40) ∧ ((InR IntKind.i64 (9000 + g44_0 (u33_0 x0) 40)) ∧ ((P44 (u44_0 (u33_0 x0) 40) 3) ∧ ((P44 (u44_0 (u44_0 (u33_0 x0) 40) 3) 24) ∧ (if (g44_0 (u44_0 (u44_0 (u33_0 x0) 40) 3) 24 == 0) = true then ((P47 (u44_0 (u44_0 (u44_0 (u33_0 x0) 40) 3) 24) [ByteArray.mk #[], ByteArray.mk #[122, 122]]) ∧ True) else (if (g44_0 (u44_0 (u44_0 (u33_0 x0) 40) 3) 24 == 1) = true then ((P35 (u44_0 (u44_0 (u44_0 (u33_0 x0) 40) 3) 24) [-1, 0, 36524, 36525]) ∧ True) else (if (g44_0 (u44_0 (u44_0 (u33_0 x0) 40) 3) 24 == 2) = true then ((P35 (u44_0 (u44_0 (u44_0 (u33_0 x0) 40) 3) 24) [-1, 0, 1000, 1001]) ∧ True) else True))))))))
def g20_0 (x0 : List Int × Int × Int × Unit) : ByteArray × Int × Int × Unit := (if (g44_0 (u44_0 (u44_0 (u33_0 x0) 40) 3) 24 == 0) = true then (g47_0 (u44_0 (u44_0 (u44_0 (u33_0 x0) 40) 3) 24) [ByteArray.mk #[], ByteArray.mk #[122, 122]], 9000 + g44_0 (u33_0 x0) 40, g44_0 (u44_0 (u33_0 x0) 40) 3, ()) else (if (g44_0 (u44_0 (u44_0 (u33_0 x0) 40) 3) 24 == 1) = true then (g33_0 x0, g35_0 (u44_0 (u44_0 (u44_0 (u33_0 x0) 40) 3) 24) [-1, 0, 36524, 36525], g44_0 (u44_0 (u33_0 x0) 40) 3, ()) else (if (g44_0 (u44_0 (u44_0 (u33_0 x0) 40) 3) 24 == 2) = true then (g33_0 x0, 9000 + g44_0 (u33_0 x0) 40, g35_0 (u44_0 (u44_0 (u44_0 (u33_0 x0) 40) 3) 24) [-1, 0, 1000, 1001], ()) else (g33_0 x0, 9000 + g44_0 (u33_0 x0) 40, g44_0 (u44_0 (u33_0 x0) 40) 3, ()))))
def u20_0 (x0 : List Int × Int × Int × Unit) : List Int × Int × Int × Unit := (if (g44_0 (u44_0 (u44_0 (u33_0 x0) 40) 3) 24 == 0) = true then u47_0 (u44_0 (u44_0 (u44_0 (u33_0 x0) 40) 3) 24) [ByteArray.mk #[], ByteArray.mk #[122, 122]] else (if (g44_0 (u44_0 (u44_0 (u33_0 x0) 40) 3) 24 == 1) = true then u35_0 (u44_0 (u44_0 (u44_0 (u33_0 x0) 40) 3) 24) [-1, 0, 36524, 36525] else (if (g44_0 (u44_0 (u44_0 (u33_0 x0) 40) 3) 24 == 2) = true then u35_0 (u44_0 (u44_0 (u44_0 (u33_0 x0) 40) 3) 24) [-1, 0, 1000, 1001] else u44_0 (u44_0 (u44_0 (u33_0 x0) 40) 3) 24)))
theorem at20 (x0 : List Int × Int × Int × Unit) (h : P20 x0) (K : Ctx) (q : Nat → Value) : AtV Tryz.prog 20 (PostR kds20 oks20 [⟨Ty.cons Ty.str (Ty.cons (Ty.int IntKind.i64) (Ty.cons (Ty.int IntKind.i64) Ty.unit)), g20_0 x0⟩] [some ⟨Ty.cons (Ty.sl (Ty.int IntKind.u8)) (Ty.cons (Ty.int IntKind.i64) (Ty.cons (Ty.int IntKind.u64) Ty.unit)), [u20_0 x0]⟩] [0] q K) 33 K q [0] [.code b20] (entE 0 0 sig20 (x0, ())) (entL sig20 (x0, ())) := by
  unfold P20 at h
  unfold g20_0 u20_0
  obtain ⟨s0, h⟩ := h
  obtain ⟨s1, h⟩ := h
  obtain ⟨s2, h⟩ := h
  obtain ⟨s3, h⟩ := h
  obtain ⟨s4, h⟩ := h
  by_cases b0 : (g44_0 (u44_0 (u44_0 (u33_0 x0) 40) 3) 24 == 0) = true
  · try simp only [if_pos b0] at h ⊢
    obtain ⟨s5, h⟩ := h
    exact AtV.weak (AtV.ret (us := [Option.some (Lst.mk (Ty.cons (Ty.sl (Ty.int IntKind.u8)) (Ty.cons (Ty.int IntKind.i64) (Ty.cons (Ty.int IntKind.u64) Ty.unit))) [u47_0 (u44_0 (u44_0 (u44_0 (u33_0 x0) 40) 3) 24) [ByteArray.mk #[], ByteArray.mk #[122, 122]]])]) Tryz.func20 tabOk ext20Ok mixed false [] tys20 [true] (a1 s0 (a1 s1 (a1 s2 (a1 s3 (a1 s4 (a1 b0 (a1 s5 trivial))))))) (by kernel_rfl)) ⟨.inl rfl, trivial⟩
  · try simp only [if_neg b0] at h ⊢
    replace b0 := Bool.eq_false_iff.2 b0
    by_cases b1 : (g44_0 (u44_0 (u44_0 (u33_0 x0) 40) 3) 24 == 1) = true
    · try simp only [if_pos b1] at h ⊢
      obtain ⟨s5, h⟩ := h
      exact AtV.weak (AtV.ret (us := [Option.some (Lst.mk (Ty.cons (Ty.sl (Ty.int IntKind.u8)) (Ty.cons (Ty.int IntKind.i64) (Ty.cons (Ty.int IntKind.u64) Ty.unit))) [u35_0 (u44_0 (u44_0 (u44_0 (u33_0 x0) 40) 3) 24) [-1, 0, 36524, 36525]])]) Tryz.func20 tabOk ext20Ok mixed false [] tys20 [false, true] (a1 s0 (a1 s1 (a1 s2 (a1 s3 (a1 s4 (a1 b0 (a1 b1 (a1 s5 trivial)))))))) (by kernel_rfl)) ⟨.inl rfl, trivial⟩
    · try simp only [if_neg b1] at h ⊢
      replace b1 := Bool.eq_false_iff.2 b1
      by_cases b2 : (g44_0 (u44_0 (u44_0 (u33_0 x0) 40) 3) 24 == 2) = true
      · try simp only [if_pos b2] at h ⊢
        obtain ⟨s5, h⟩ := h
        exact AtV.weak (AtV.ret (us := [Option.some (Lst.mk (Ty.cons (Ty.sl (Ty.int IntKind.u8)) (Ty.cons (Ty.int IntKind.i64) (Ty.cons (Ty.int IntKind.u64) Ty.unit))) [u35_0 (u44_0 (u44_0 (u44_0 (u33_0 x0) 40) 3) 24) [-1, 0, 1000, 1001]])]) Tryz.func20 tabOk ext20Ok mixed false [] tys20 [false, false, true] (a1 s0 (a1 s1 (a1 s2 (a1 s3 (a1 s4 (a1 b0 (a1 b1 (a1 b2 (a1 s5 trivial))))))))) (by kernel_rfl)) ⟨.inl rfl, trivial⟩
      · try simp only [if_neg b2] at h ⊢
        replace b2 := Bool.eq_false_iff.2 b2
        exact AtV.weak (AtV.ret (us := [Option.some (Lst.mk (Ty.cons (Ty.sl (Ty.int IntKind.u8)) (Ty.cons (Ty.int IntKind.i64) (Ty.cons (Ty.int IntKind.u64) Ty.unit))) [u44_0 (u44_0 (u44_0 (u33_0 x0) 40) 3) 24])]) Tryz.func20 tabOk ext20Ok mixed false [] tys20 [false, false, false] (a1 s0 (a1 s1 (a1 s2 (a1 s3 (a1 s4 (a1 b0 (a1 b1 (a1 b2 trivial)))))))) (by kernel_rfl)) ⟨.inl rfl, trivial⟩

def S20 : Am.Spec := { sig := sig20, pre := fun ⟨x0, _⟩ => P20 x0, upd := fun ⟨x0, _⟩ => [some ⟨Ty.cons (Ty.sl (Ty.int IntKind.u8)) (Ty.cons (Ty.int IntKind.i64) (Ty.cons (Ty.int IntKind.u64) Ty.unit)), [u20_0 x0]⟩], res := fun ⟨x0, _⟩ => [⟨Ty.cons Ty.str (Ty.cons (Ty.int IntKind.i64) (Ty.cons (Ty.int IntKind.i64) Ty.unit)), g20_0 x0⟩], kds := kds20 }
theorem con20 : Contract Tryz.prog 20 S20 := contract_of Tryz.func20 hb20 (Nat.le_of_ble_eq_true (by kernel_rfl)) (fun ⟨x0, _⟩ h _ K q => at20 x0 h K q)


end
end Go.Proofs.YtfpdnbojchnglaaGreatDoor

/- Function 22 (spec.l18DrawDay): its runs between cut points. Written by a program of this repo (gen). -/
set_option linter.unusedVariables false
set_option linter.unusedSimpArgs false
set_option maxRecDepth 100000
namespace Go.Proofs.YtfpdnbojchnglaaGreatDoor
open Go Go.Am Go.Proofs
noncomputable section
def ext22 : Ext := [(21, S21), (35, S35), (44, S44)]
theorem call22_21 : Callable Tryz.prog 21 := ⟨Tryz.f21, Tryz.func21, by kernel_rfl, by kernel_rfl⟩
theorem call22_35 : Callable Tryz.prog 35 := ⟨Tryz.f35, Tryz.func35, by kernel_rfl, by kernel_rfl⟩
theorem call22_44 : Callable Tryz.prog 44 := ⟨Tryz.f44, Tryz.func44, by kernel_rfl, by kernel_rfl⟩
theorem ext22Ok : ExtOk Tryz.prog ext22 := ⟨⟨call22_21, con21⟩, ⟨call22_35, con35⟩, ⟨call22_44, con44⟩, trivial⟩

noncomputable def b22 : Code := bodyOf Tryz.f22
theorem hb22 : Tryz.f22.body = some b22 := by kernel_rfl
def sig22 : List AT := [AT.pb (Ty.cons (Ty.sl (Ty.int IntKind.u8)) (Ty.cons (Ty.int IntKind.i64) (Ty.cons (Ty.int IntKind.u64) Ty.unit)))]
def tys22 : List Ty := [Ty.int IntKind.i64]
def kds22 : List RK := []
def oks22 : List AT := owns sig22
def P22 (x0 : List Int × Int × Int × Unit) : Prop := ((P21 x0 10) ∧ (if (g21_0 x0 10) = true then ((P35 (u21_0 x0 10) [-1, 0, 36524, 36525]) ∧ True) else ((P44 (u21_0 x0 10) 60) ∧ ((InR IntKind.i64 (9000 + g44_0 (u21_0 x0 10) 60)) ∧ True))))
def g22_0 (x0 : List Int × Int × Int × Unit) : Int := (if (g21_0 x0 10) = true then g35_0 (u21_0 x0 10) [-1, 0, 36524, 36525] else 9000 + g44_0 (u21_0 x0 10) 60)
def u22_0 (x0 : List Int × Int × Int × Unit) : List Int × Int × Int × Unit := (if (g21_0 x0 10) = true then u35_0 (u21_0 x0 10) [-1, 0, 36524, 36525] else u44_0 (u21_0 x0 10) 60)
theorem at22 (x0 : List Int × Int × Int × Unit) (h : P22 x0) (K : Ctx) (q : Nat → Value) : AtV Tryz.prog 22 (PostR kds22 oks22 [⟨Ty.int IntKind.i64, g22_0 x0⟩] [some ⟨Ty.cons (Ty.sl (Ty.int IntKind.u8)) (Ty.cons (Ty.int IntKind.i64) (Ty.cons (Ty.int IntKind.u64) Ty.unit)), [u22_0 x0]⟩] [0] q K) 11 K q [0] [.code b22] (entE 0 0 sig22 (x0, ())) (entL sig22 (x0, ())) := by
  unfold P22 at h
  unfold g22_0 u22_0
  obtain ⟨s0, h⟩ := h
  by_cases b0 : (g21_0 x0 10) = true
  · try simp only [if_pos b0] at h ⊢
    obtain ⟨s1, h⟩ := h
    exact AtV.weak (AtV.ret (us := [Option.some (Lst.mk (Ty.cons (Ty.sl (Ty.int IntKind.u8)) (Ty.cons (Ty.int IntKind.i64) (Ty.cons (Ty.int IntKind.u64) Ty.unit))) [u35_0 (u21_0 x0 10) [-1, 0, 36524, 36525]])]) Tryz.func22 tabOk ext22Ok mixed false [] tys22 [true] (a1 s0 (a1 b0 (a1 s1 trivial))) (by kernel_rfl)) ⟨.inl rfl, trivial⟩
  · try simp only [if_neg b0] at h ⊢
    replace b0 := Bool.eq_false_iff.2 b0
    obtain ⟨s1, h⟩ := h
    obtain ⟨s2, h⟩ := h
    exact AtV.weak (AtV.ret (us := [Option.some (Lst.mk (Ty.cons (Ty.sl (Ty.int IntKind.u8)) (Ty.cons (Ty.int IntKind.i64) (Ty.cons (Ty.int IntKind.u64) Ty.unit))) [u44_0 (u21_0 x0 10) 60])]) Tryz.func22 tabOk ext22Ok mixed false [] tys22 [false] (a1 s0 (a1 b0 (a1 s1 (a1 s2 trivial)))) (by kernel_rfl)) ⟨.inl rfl, trivial⟩

def S22 : Am.Spec := { sig := sig22, pre := fun ⟨x0, _⟩ => P22 x0, upd := fun ⟨x0, _⟩ => [some ⟨Ty.cons (Ty.sl (Ty.int IntKind.u8)) (Ty.cons (Ty.int IntKind.i64) (Ty.cons (Ty.int IntKind.u64) Ty.unit)), [u22_0 x0]⟩], res := fun ⟨x0, _⟩ => [⟨Ty.int IntKind.i64, g22_0 x0⟩], kds := kds22 }
theorem con22 : Contract Tryz.prog 22 S22 := contract_of Tryz.func22 hb22 (Nat.le_of_ble_eq_true (by kernel_rfl)) (fun ⟨x0, _⟩ h _ K q => at22 x0 h K q)


end
end Go.Proofs.YtfpdnbojchnglaaGreatDoor

/- Function 5 (spec.DrawUseTicket): its runs between cut points. Written by a program of this repo (gen). -/
set_option linter.unusedVariables false
set_option linter.unusedSimpArgs false
set_option maxRecDepth 100000
namespace Go.Proofs.YtfpdnbojchnglaaGreatDoor
open Go Go.Am Go.Proofs
noncomputable section
def ext5 : Ext := [(18, S18), (19, S19), (20, S20), (21, S21), (22, S22)]
theorem call5_18 : Callable Tryz.prog 18 := ⟨Tryz.f18, Tryz.func18, by kernel_rfl, by kernel_rfl⟩
theorem call5_19 : Callable Tryz.prog 19 := ⟨Tryz.f19, Tryz.func19, by kernel_rfl, by kernel_rfl⟩
theorem call5_20 : Callable Tryz.prog 20 := ⟨Tryz.f20, Tryz.func20, by kernel_rfl, by kernel_rfl⟩
theorem call5_21 : Callable Tryz.prog 21 := ⟨Tryz.f21, Tryz.func21, by kernel_rfl, by kernel_rfl⟩
theorem call5_22 : Callable Tryz.prog 22 := ⟨Tryz.f22, Tryz.func22, by kernel_rfl, by kernel_rfl⟩
theorem ext5Ok : ExtOk Tryz.prog ext5 := ⟨⟨call5_18, con18⟩, ⟨call5_19, con19⟩, ⟨call5_20, con20⟩, ⟨call5_21, con21⟩, ⟨call5_22, con22⟩, trivial⟩

noncomputable def b5 : Code := bodyOf Tryz.f5
theorem hb5 : Tryz.f5.body = some b5 := by kernel_rfl
def sig5 : List AT := [AT.v (Ty.sl (Ty.int IntKind.u8))]
def tys5 : List Ty := [Ty.sl (Ty.cons Ty.str (Ty.cons (Ty.int IntKind.i64) (Ty.cons (Ty.int IntKind.i64) (Ty.cons (Ty.int IntKind.i64) Ty.unit)))), Ty.cons Ty.str (Ty.cons (Ty.int IntKind.i64) (Ty.cons (Ty.int IntKind.i64) Ty.unit)), Ty.int IntKind.i64]
def kds5 : List RK := []
def oks5 : List AT := owns sig5
def P5 (x0 : List Int) : Prop := ((P19 (g18_0 x0)) ∧ ((P20 (u19_0 (g18_0 x0))) ∧ ((P21 (u20_0 (u19_0 (g18_0 x0))) 2) ∧ (if (g21_0 (u20_0 (u19_0 (g18_0 x0))) 2) = true then True else ((P22 (u21_0 (u20_0 (u19_0 (g18_0 x0))) 2)) ∧ True)))))
def g5_0 (x0 : List Int) : List (ByteArray × Int × Int × Int × Unit) := (if (g21_0 (u20_0 (u19_0 (g18_0 x0))) 2) = true then g19_0 (g18_0 x0) else g19_0 (g18_0 x0))
def g5_1 (x0 : List Int) : ByteArray × Int × Int × Unit := (if (g21_0 (u20_0 (u19_0 (g18_0 x0))) 2) = true then g20_0 (u19_0 (g18_0 x0)) else g20_0 (u19_0 (g18_0 x0)))
def g5_2 (x0 : List Int) : Int := (if (g21_0 (u20_0 (u19_0 (g18_0 x0))) 2) = true then Prod.fst (Prod.snd (g20_0 (u19_0 (g18_0 x0)))) else g22_0 (u21_0 (u20_0 (u19_0 (g18_0 x0))) 2))
theorem at5 (x0 : List Int) (h : P5 x0) (K : Ctx) (q : Nat → Value) : AtV Tryz.prog 5 (PostR kds5 oks5 [⟨Ty.sl (Ty.cons Ty.str (Ty.cons (Ty.int IntKind.i64) (Ty.cons (Ty.int IntKind.i64) (Ty.cons (Ty.int IntKind.i64) Ty.unit)))), g5_0 x0⟩, ⟨Ty.cons Ty.str (Ty.cons (Ty.int IntKind.i64) (Ty.cons (Ty.int IntKind.i64) Ty.unit)), g5_1 x0⟩, ⟨Ty.int IntKind.i64, g5_2 x0⟩] [] [] q K) 24 K q [] [.code b5] (entE 0 0 sig5 (x0, ())) (entL sig5 (x0, ())) := by
  unfold P5 at h
  unfold g5_0 g5_1 g5_2
  obtain ⟨s0, h⟩ := h
  obtain ⟨s1, h⟩ := h
  obtain ⟨s2, h⟩ := h
  by_cases b0 : (g21_0 (u20_0 (u19_0 (g18_0 x0))) 2) = true
  · try simp only [if_pos b0] at h ⊢
    exact AtV.ret Tryz.func5 tabOk ext5Ok mixed false [] tys5 [true] (a1 trivial (a1 s0 (a1 s1 (a1 s2 (a1 b0 trivial))))) (by kernel_rfl)
  · try simp only [if_neg b0] at h ⊢
    replace b0 := Bool.eq_false_iff.2 b0
    obtain ⟨s3, h⟩ := h
    exact AtV.ret Tryz.func5 tabOk ext5Ok mixed false [] tys5 [false] (a1 trivial (a1 s0 (a1 s1 (a1 s2 (a1 b0 (a1 s3 (a1 s3 (a1 (rfl : SameS [(0, PV.a (Atom.sl (Ty.int IntKind.u8) x0)), (2, PV.a (Atom.osl 2 Option.none)), (3, PV.a (Atom.optr 0 0 [])), (4, PV.a (Atom.val (Value.int IntKind.i64 (g22_0 (u21_0 (u20_0 (u19_0 (g18_0 x0))) 2))))), (5, PV.a (Atom.optr 1 0 [])), (6, PV.a (Atom.osl 2 Option.none)), (7, PV.a (Atom.optr 3 0 [])), (8, PV.a (Atom.sl (Ty.int IntKind.u8) x0)), (9, PV.a (Atom.optr 1 0 [])), (10, PV.a (Atom.optr 1 0 [])), (11, PV.a (Atom.osl 2 Option.none)), (12, PV.a (Atom.optr 1 0 [])), (13, PV.a (Atom.st (Ty.cons Ty.str (Ty.cons (Ty.int IntKind.i64) (Ty.cons (Ty.int IntKind.i64) Ty.unit))) (g20_0 (u19_0 (g18_0 x0))))), (14, PV.a (Atom.optr 1 0 [])), (15, PV.a (Atom.val (Value.bool (g21_0 (u20_0 (u19_0 (g18_0 x0))) 2)))), (20, PV.a (Atom.osl 2 Option.none)), (21, PV.a (Atom.st (Ty.cons Ty.str (Ty.cons (Ty.int IntKind.i64) (Ty.cons (Ty.int IntKind.i64) Ty.unit))) (g20_0 (u19_0 (g18_0 x0))))), (22, PV.a (Atom.optr 1 0 [])), (23, PV.a (Atom.val (Value.int IntKind.i64 (g22_0 (u21_0 (u20_0 (u19_0 (g18_0 x0))) 2)))))] [Option.some (Arr.mk (Ty.cons Ty.str (Ty.cons (Ty.int IntKind.i64) (Ty.cons (Ty.int IntKind.i64) Ty.unit))) [g20_0 (u19_0 (g18_0 x0))] Bool.true Option.none (Option.some Bool.false)), Option.some (Arr.mk (Ty.cons (Ty.sl (Ty.int IntKind.u8)) (Ty.cons (Ty.int IntKind.i64) (Ty.cons (Ty.int IntKind.u64) Ty.unit))) [u22_0 (u21_0 (u20_0 (u19_0 (g18_0 x0))) 2)] Bool.true Option.none (Option.some Bool.false)), Option.some (Arr.mk (Ty.cons Ty.str (Ty.cons (Ty.int IntKind.i64) (Ty.cons (Ty.int IntKind.i64) (Ty.cons (Ty.int IntKind.i64) Ty.unit)))) (g19_0 (g18_0 x0)) Bool.false Option.none Option.none), Option.some (Arr.mk (Ty.cons Ty.str (Ty.cons (Ty.int IntKind.i64) (Ty.cons (Ty.int IntKind.i64) Ty.unit))) [g20_0 (u19_0 (g18_0 x0))] Bool.true Option.none (Option.some Bool.false))] [(0, PV.a (Atom.sl (Ty.int IntKind.u8) x0)), (2, PV.a (Atom.osl 2 Option.none)), (3, PV.a (Atom.optr 0 0 [])), (4, PV.a (Atom.val (Value.int IntKind.i64 (g22_0 (u21_0 (u20_0 (u19_0 (g18_0 x0))) 2))))), (5, PV.a (Atom.optr 1 0 [])), (6, PV.a (Atom.osl 2 Option.none)), (7, PV.a (Atom.optr 3 0 [])), (8, PV.a (Atom.sl (Ty.int IntKind.u8) x0)), (9, PV.a (Atom.optr 1 0 [])), (10, PV.a (Atom.optr 1 0 [])), (11, PV.a (Atom.osl 2 Option.none)), (12, PV.a (Atom.optr 1 0 [])), (13, PV.a (Atom.st (Ty.cons Ty.str (Ty.cons (Ty.int IntKind.i64) (Ty.cons (Ty.int IntKind.i64) Ty.unit))) (g20_0 (u19_0 (g18_0 x0))))), (14, PV.a (Atom.optr 1 0 [])), (15, PV.a (Atom.val (Value.bool (g21_0 (u20_0 (u19_0 (g18_0 x0))) 2)))), (20, PV.a (Atom.osl 2 Option.none)), (21, PV.a (Atom.st (Ty.cons Ty.str (Ty.cons (Ty.int IntKind.i64) (Ty.cons (Ty.int IntKind.i64) Ty.unit))) (g20_0 (u19_0 (g18_0 x0))))), (22, PV.a (Atom.optr 1 0 [])), (23, PV.a (Atom.val (Value.int IntKind.i64 (g22_0 (u21_0 (u20_0 (u19_0 (g18_0 x0))) 2)))))] [Option.some (Arr.mk (Ty.cons Ty.str (Ty.cons (Ty.int IntKind.i64) (Ty.cons (Ty.int IntKind.i64) Ty.unit))) [g20_0 (u19_0 (g18_0 x0))] Bool.true Option.none (Option.some Bool.false)), Option.some (Arr.mk (Ty.cons (Ty.sl (Ty.int IntKind.u8)) (Ty.cons (Ty.int IntKind.i64) (Ty.cons (Ty.int IntKind.u64) Ty.unit))) [u22_0 (u21_0 (u20_0 (u19_0 (g18_0 x0))) 2)] Bool.true Option.none (Option.some Bool.false)), Option.some (Arr.mk (Ty.cons Ty.str (Ty.cons (Ty.int IntKind.i64) (Ty.cons (Ty.int IntKind.i64) (Ty.cons (Ty.int IntKind.i64) Ty.unit)))) (g19_0 (g18_0 x0)) Bool.false Option.none Option.none), Option.some (Arr.mk (Ty.cons Ty.str (Ty.cons (Ty.int IntKind.i64) (Ty.cons (Ty.int IntKind.i64) Ty.unit))) [g20_0 (u19_0 (g18_0 x0))] Bool.true Option.none (Option.some Bool.false))]) trivial)))))))) (by kernel_rfl)

def S5 : Am.Spec := { sig := sig5, pre := fun ⟨x0, _⟩ => P5 x0, res := fun ⟨x0, _⟩ => [⟨Ty.sl (Ty.cons Ty.str (Ty.cons (Ty.int IntKind.i64) (Ty.cons (Ty.int IntKind.i64) (Ty.cons (Ty.int IntKind.i64) Ty.unit)))), g5_0 x0⟩, ⟨Ty.cons Ty.str (Ty.cons (Ty.int IntKind.i64) (Ty.cons (Ty.int IntKind.i64) Ty.unit)), g5_1 x0⟩, ⟨Ty.int IntKind.i64, g5_2 x0⟩], kds := kds5 }
theorem con5 : Contract Tryz.prog 5 S5 := contract_of Tryz.func5 hb5 (Nat.le_of_ble_eq_true (by kernel_rfl)) (fun ⟨x0, _⟩ h _ K q => at5 x0 h K q)


end
end Go.Proofs.YtfpdnbojchnglaaGreatDoor

/- Function 49 (impl.IsName): its runs between cut points. Written by a program of this repo (gen). -/
set_option linter.unusedVariables false
set_option linter.unusedSimpArgs false
set_option maxRecDepth 100000
namespace Go.Proofs.YtfpdnbojchnglaaGreatDoor
open Go Go.Am Go.Proofs
noncomputable section
def ext49 : Ext := []
theorem ext49Ok : ExtOk Tryz.prog ext49 := trivial

noncomputable def b49 : Code := bodyOf Tryz.f49
theorem hb49 : Tryz.f49.body = some b49 := by kernel_rfl
def sig49 : List AT := [AT.v (Ty.str)]
def tys49 : List Ty := [Ty.bool]
def kds49 : List RK := []
def oks49 : List AT := owns sig49
def E49_4 (v18 : Int) (x0 : ByteArray) : Env := [(16, PV.a (Atom.osl 0 Option.none)), (17, PV.a (Atom.val (Value.int IntKind.i64 (↑(List.length (bytesOf x0)) : Int)))), (18, PV.a (Atom.val (Value.int IntKind.i64 v18)))]
def L49_4 (v18 : Int) (x0 : ByteArray) : Heap := [Option.some (Arr.mk (Ty.int IntKind.u8) (bytesOf x0) Bool.false Option.none Option.none)]
mutual
def R49 : Nat → ByteArray → List Dyn → Prop
  | 0, _, _ => False
  | n + 1, x0, ds => (if (Decidable.decide ((↑(ByteArray.size x0) : Int) < 1)) = true then (ds = [Dyn.mk Ty.bool Bool.false]) else (if (Decidable.decide ((↑(ByteArray.size x0) : Int) > 10)) = true then (ds = [Dyn.mk Ty.bool Bool.false]) else (R49_4 n (0) (x0) ds)))
def R49_4 : Nat → Int → ByteArray → List Dyn → Prop
  | 0, _, _, _ => False
  | n + 1, v18, x0, ds => (if (Decidable.decide (v18 < (↑(List.length (bytesOf x0)) : Int))) = true then ((0 ≤ v18) ∧ (v18 < (↑(List.length (bytesOf x0)) : Int)) ∧ (if (Decidable.decide (List.getD (bytesOf x0) (Int.toNat v18) 0 ≥ 97)) = true then (if (Decidable.decide (List.getD (bytesOf x0) (Int.toNat v18) 0 ≥ 48)) = true then (if (!Decidable.decide (List.getD (bytesOf x0) (Int.toNat v18) 0 ≤ 122)) = true then (if (v18 == 0) = true then (ds = [Dyn.mk Ty.bool Bool.false]) else (if (!Decidable.decide (List.getD (bytesOf x0) (Int.toNat v18) 0 ≤ 57)) = true then (ds = [Dyn.mk Ty.bool Bool.false]) else ((InR IntKind.i64 (v18 + 1)) ∧ (R49_4 n (v18 + 1) (x0) ds)))) else ((InR IntKind.i64 (v18 + 1)) ∧ (R49_4 n (v18 + 1) (x0) ds))) else (if (!Decidable.decide (List.getD (bytesOf x0) (Int.toNat v18) 0 ≤ 122)) = true then (if (v18 == 0) = true then (ds = [Dyn.mk Ty.bool Bool.false]) else (ds = [Dyn.mk Ty.bool Bool.false])) else ((InR IntKind.i64 (v18 + 1)) ∧ (R49_4 n (v18 + 1) (x0) ds)))) else (if (Decidable.decide (List.getD (bytesOf x0) (Int.toNat v18) 0 ≥ 48)) = true then (if (v18 == 0) = true then (ds = [Dyn.mk Ty.bool Bool.false]) else (if (!Decidable.decide (List.getD (bytesOf x0) (Int.toNat v18) 0 ≤ 57)) = true then (ds = [Dyn.mk Ty.bool Bool.false]) else ((InR IntKind.i64 (v18 + 1)) ∧ (R49_4 n (v18 + 1) (x0) ds)))) else (if (v18 == 0) = true then (ds = [Dyn.mk Ty.bool Bool.false]) else (ds = [Dyn.mk Ty.bool Bool.false]))))) else (ds = [Dyn.mk Ty.bool Bool.true]))
end
theorem snd49 : ∀ n, (∀ (x0 : ByteArray) ds, R49 n x0 ds → ∀ K q, AtV Tryz.prog 49 (PostR kds49 oks49 ds [] [] q K) 46 K q [] [.code b49] (entE 0 0 sig49 (x0, ())) (entL sig49 (x0, ()))) ∧ (∀ (v18 : Int) (x0 : ByteArray) ds, R49_4 n v18 x0 ds → ∀ K q, AtV Tryz.prog 49 (PostR kds49 oks49 ds [] [] q K) 46 K q [] (cutAt b49 4) (E49_4 v18 x0) (L49_4 v18 x0)) := by
  intro n
  induction n with
  | zero => exact ⟨fun _ _ h => by simp only [R49] at h, fun _ _ _ h => by simp only [R49_4] at h⟩
  | succ n ih =>
  obtain ⟨ih, ih4⟩ := ih
  refine ⟨?_, ?_⟩
  · intro x0 ds h K q
    rw [R49] at h
    by_cases b0 : (Decidable.decide ((↑(ByteArray.size x0) : Int) < 1)) = true
    · rw [if_pos b0] at h
      subst h
      exact AtV.ret Tryz.func49 tabOk ext49Ok mixed false [] tys49 [true, true] (a1 b0 (a1 (rfl : Bool.true = Bool.true) trivial)) (by kernel_rfl)
    · rw [if_neg b0] at h
      replace b0 := Bool.eq_false_iff.2 b0
      by_cases b1 : (Decidable.decide ((↑(ByteArray.size x0) : Int) > 10)) = true
      · rw [if_pos b1] at h
        subst h
        exact AtV.ret Tryz.func49 tabOk ext49Ok mixed false [] tys49 [false, true] (a1 b0 (a1 b1 trivial)) (by kernel_rfl)
      · rw [if_neg b1] at h
        replace b1 := Bool.eq_false_iff.2 b1
        exact AtV.go tabOk ext49Ok mixed false [] [] [16, 17, 18] [0] [false, false] (a1 b0 (a1 b1 trivial)) (ih4 _ _ _ h K q) (by kernel_rfl)

  · intro v18 x0 ds h K q
    rw [R49_4] at h
    by_cases b0 : (Decidable.decide (v18 < (↑(List.length (bytesOf x0)) : Int))) = true
    · rw [if_pos b0] at h
      obtain ⟨s0, s1, h⟩ := h
      by_cases b1 : (Decidable.decide (List.getD (bytesOf x0) (Int.toNat v18) 0 ≥ 97)) = true
      · rw [if_pos b1] at h
        by_cases b2 : (Decidable.decide (List.getD (bytesOf x0) (Int.toNat v18) 0 ≥ 48)) = true
        · rw [if_pos b2] at h
          by_cases b3 : (!Decidable.decide (List.getD (bytesOf x0) (Int.toNat v18) 0 ≤ 122)) = true
          · rw [if_pos b3] at h
            by_cases b4 : (v18 == 0) = true
            · rw [if_pos b4] at h
              subst h
              exact AtV.ret Tryz.func49 tabOk ext49Ok mixed false [] tys49 [true, true, true, true, true, true] (a1 b0 (a1 s0 (a1 s1 (a1 b1 (a1 b2 (a1 b3 (a1 b4 (a1 (rfl : Bool.true = Bool.true) trivial)))))))) (by kernel_rfl)
            · rw [if_neg b4] at h
              replace b4 := Bool.eq_false_iff.2 b4
              by_cases b5 : (!Decidable.decide (List.getD (bytesOf x0) (Int.toNat v18) 0 ≤ 57)) = true
              · rw [if_pos b5] at h
                subst h
                exact AtV.ret Tryz.func49 tabOk ext49Ok mixed false [] tys49 [true, true, true, true, false, true] (a1 b0 (a1 s0 (a1 s1 (a1 b1 (a1 b2 (a1 b3 (a1 b4 (a1 b5 trivial)))))))) (by kernel_rfl)
              · rw [if_neg b5] at h
                replace b5 := Bool.eq_false_iff.2 b5
                obtain ⟨s2, h⟩ := h
                exact AtV.go tabOk ext49Ok mixed false [] [] [16, 17, 18] [0] [true, true, true, true, false, false] (a1 b0 (a1 s0 (a1 s1 (a1 b1 (a1 b2 (a1 b3 (a1 b4 (a1 b5 (a1 s2 trivial))))))))) (ih4 _ _ _ h K q) (by kernel_rfl)
          · rw [if_neg b3] at h
            replace b3 := Bool.eq_false_iff.2 b3
            obtain ⟨s2, h⟩ := h
            exact AtV.go tabOk ext49Ok mixed false [] [] [16, 17, 18] [0] [true, true, true, false, false] (a1 b0 (a1 s0 (a1 s1 (a1 b1 (a1 b2 (a1 b3 (a1 (rfl : Bool.false = Bool.false) (a1 s2 trivial)))))))) (ih4 _ _ _ h K q) (by kernel_rfl)
        · rw [if_neg b2] at h
          replace b2 := Bool.eq_false_iff.2 b2
          by_cases b3 : (!Decidable.decide (List.getD (bytesOf x0) (Int.toNat v18) 0 ≤ 122)) = true
          · rw [if_pos b3] at h
            by_cases b4 : (v18 == 0) = true
            · rw [if_pos b4] at h
              subst h
              exact AtV.ret Tryz.func49 tabOk ext49Ok mixed false [] tys49 [true, true, false, true, true, true] (a1 b0 (a1 s0 (a1 s1 (a1 b1 (a1 b2 (a1 b3 (a1 b4 (a1 (rfl : Bool.true = Bool.true) trivial)))))))) (by kernel_rfl)
            · rw [if_neg b4] at h
              replace b4 := Bool.eq_false_iff.2 b4
              subst h
              exact AtV.ret Tryz.func49 tabOk ext49Ok mixed false [] tys49 [true, true, false, true, false, true] (a1 b0 (a1 s0 (a1 s1 (a1 b1 (a1 b2 (a1 b3 (a1 b4 (a1 (rfl : Bool.true = Bool.true) trivial)))))))) (by kernel_rfl)
          · rw [if_neg b3] at h
            replace b3 := Bool.eq_false_iff.2 b3
            obtain ⟨s2, h⟩ := h
            exact AtV.go tabOk ext49Ok mixed false [] [] [16, 17, 18] [0] [true, true, false, false, false] (a1 b0 (a1 s0 (a1 s1 (a1 b1 (a1 b2 (a1 b3 (a1 (rfl : Bool.false = Bool.false) (a1 s2 trivial)))))))) (ih4 _ _ _ h K q) (by kernel_rfl)
      · rw [if_neg b1] at h
        replace b1 := Bool.eq_false_iff.2 b1
        by_cases b2 : (Decidable.decide (List.getD (bytesOf x0) (Int.toNat v18) 0 ≥ 48)) = true
        · rw [if_pos b2] at h
          by_cases b3 : (v18 == 0) = true
          · rw [if_pos b3] at h
            subst h
            exact AtV.ret Tryz.func49 tabOk ext49Ok mixed false [] tys49 [true, false, true, true, true, true] (a1 b0 (a1 s0 (a1 s1 (a1 b1 (a1 b2 (a1 (rfl : Bool.true = Bool.true) (a1 b3 (a1 (rfl : Bool.true = Bool.true) trivial)))))))) (by kernel_rfl)
          · rw [if_neg b3] at h
            replace b3 := Bool.eq_false_iff.2 b3
            by_cases b4 : (!Decidable.decide (List.getD (bytesOf x0) (Int.toNat v18) 0 ≤ 57)) = true
            · rw [if_pos b4] at h
              subst h
              exact AtV.ret Tryz.func49 tabOk ext49Ok mixed false [] tys49 [true, false, true, true, false, true] (a1 b0 (a1 s0 (a1 s1 (a1 b1 (a1 b2 (a1 (rfl : Bool.true = Bool.true) (a1 b3 (a1 b4 trivial)))))))) (by kernel_rfl)
            · rw [if_neg b4] at h
              replace b4 := Bool.eq_false_iff.2 b4
              obtain ⟨s2, h⟩ := h
              exact AtV.go tabOk ext49Ok mixed false [] [] [16, 17, 18] [0] [true, false, true, true, false, false] (a1 b0 (a1 s0 (a1 s1 (a1 b1 (a1 b2 (a1 (rfl : Bool.true = Bool.true) (a1 b3 (a1 b4 (a1 s2 trivial))))))))) (ih4 _ _ _ h K q) (by kernel_rfl)
        · rw [if_neg b2] at h
          replace b2 := Bool.eq_false_iff.2 b2
          by_cases b3 : (v18 == 0) = true
          · rw [if_pos b3] at h
            subst h
            exact AtV.ret Tryz.func49 tabOk ext49Ok mixed false [] tys49 [true, false, false, true, true, true] (a1 b0 (a1 s0 (a1 s1 (a1 b1 (a1 b2 (a1 (rfl : Bool.true = Bool.true) (a1 b3 (a1 (rfl : Bool.true = Bool.true) trivial)))))))) (by kernel_rfl)
          · rw [if_neg b3] at h
            replace b3 := Bool.eq_false_iff.2 b3
            subst h
            exact AtV.ret Tryz.func49 tabOk ext49Ok mixed false [] tys49 [true, false, false, true, false, true] (a1 b0 (a1 s0 (a1 s1 (a1 b1 (a1 b2 (a1 (rfl : Bool.true = Bool.true) (a1 b3 (a1 (rfl : Bool.true = Bool.true) trivial)))))))) (by kernel_rfl)
    · rw [if_neg b0] at h
      replace b0 := Bool.eq_false_iff.2 b0
      subst h
      exact AtV.ret Tryz.func49 tabOk ext49Ok mixed false [] tys49 [false] (a1 b0 trivial) (by kernel_rfl)



def ok49 (i : Nat) (b : Int) : Bool := (decide (97 ≤ b) && decide (b ≤ 122)) || (!(i == 0) && (decide (48 ≤ b) && decide (b ≤ 57)))
def g49_0 (x0 : ByteArray) : Bool := decide (1 ≤ x0.size) && decide (x0.size ≤ 10) && allI ok49 0 (bytesOf x0)
def P49 (x0 : ByteArray) : Prop := True

theorem step49 (n i : Nat) (x0 : ByteArray) (hw : Wf .str x0) (hi : i < (bytesOf x0).length) (ds : List Dyn) :
    R49_4 (n + 1) (i : Int) x0 ds ↔ (if ok49 i ((bytesOf x0).getD i 0) = true then R49_4 n ((i : Int) + 1) x0 ds else ds = [⟨.bool, false⟩]) := by
  have hu := inR_up (xs := bytesOf x0) (by rw [bytesOf_length]; exact hw) hi
  rw [R49_4, if_pos (by simp; omega)]
  simp only [Int.toNat_natCast]
  have hb : (0 : Int) ≤ (i : Int) ∧ (i : Int) < ((bytesOf x0).length : Int) := by omega
  have hz : ((i : Int) == 0) = (i == 0) := by
    cases i with
    | zero => rfl
    | succ k => simp; omega
  simp only [hz, ok49, hu, true_and, hb.1, hb.2, ge_iff_le]
  by_cases h1 : (97 : Int) ≤ (bytesOf x0).getD i 0 <;> by_cases h2 : (bytesOf x0).getD i 0 ≤ 122 <;> by_cases h3 : (48 : Int) ≤ (bytesOf x0).getD i 0 <;> by_cases h4 : (bytesOf x0).getD i 0 ≤ 57 <;> rcases Bool.eq_false_or_eq_true (i == 0) with e0 | e0 <;> first | (exfalso; omega) | simp only [h1, h2, h3, h4, e0, decide_true, decide_false, Bool.not_true, Bool.not_false, Bool.true_and, Bool.false_and, Bool.and_true, Bool.and_false, Bool.true_or, Bool.or_true, Bool.or_false, Bool.false_or, if_true, if_false, Bool.false_eq_true]

theorem top49 (x0 : ByteArray) (hw : Wf .str x0) : R49 (x0.size + 1 + 1) x0 [⟨.bool, g49_0 x0⟩] := by
  have hl := bytesOf_length x0
  rw [R49]
  by_cases h0 : (x0.size : Int) < 1
  · rw [if_pos (by simpa using h0)]
    have : ¬ 1 ≤ x0.size := by omega
    simp [g49_0, this]
  · rw [if_neg (by simpa using h0)]
    by_cases h1 : (x0.size : Int) > 10
    · rw [if_pos (by simpa using h1)]
      have : ¬ x0.size ≤ 10 := by omega
      simp [g49_0, this]
    · rw [if_neg (by simpa using h1)]
      have key := loop_testI (bytesOf x0) 0 ok49 [(⟨.bool, false⟩ : Dyn)] [⟨.bool, true⟩] (fun n i ds => R49_4 n i x0 ds) (fun n => ?_) (fun n i hi hok ds hr => ?_) (fun n i hi hok => ?_)
      · rw [hl] at key
        have e : g49_0 x0 = allI ok49 0 (bytesOf x0) := by
          have a : 1 ≤ x0.size := by omega
          have b : x0.size ≤ 10 := by omega
          simp [g49_0, a, b]
        rw [e]
        cases h : allI ok49 0 (bytesOf x0) with
        | true => rw [if_pos h] at key; exact key
        | false => rw [if_neg (by rw [h]; simp)] at key; exact key
      · show R49_4 (n + 1) ((bytesOf x0).length : Int) x0 _
        rw [R49_4, if_neg (by simp)]
      · exact (step49 n i x0 hw hi ds).2 (by rw [if_pos hok]; exact hr)
      · exact (step49 n i x0 hw hi _).2 (by rw [if_neg (by rw [hok]; simp)])

def S49 : Am.Spec := { sig := sig49, pre := fun ⟨x0, _⟩ => P49 x0, res := fun ⟨x0, _⟩ => [⟨Ty.bool, g49_0 x0⟩] }
theorem con49 : Contract Tryz.prog 49 S49 := contract_of Tryz.func49 hb49 (Nat.le_of_ble_eq_true (by kernel_rfl)) (fun ⟨x0, _⟩ h hwf K q =>
  (snd49 _).1 x0 _ (top49 x0 hwf.1) K q)

end
end Go.Proofs.YtfpdnbojchnglaaGreatDoor

/- Function 40 (impl.within): its runs between cut points. Written by a program of this repo (gen). -/
set_option linter.unusedVariables false
set_option linter.unusedSimpArgs false
set_option maxRecDepth 100000
namespace Go.Proofs.YtfpdnbojchnglaaGreatDoor
open Go Go.Am Go.Proofs
noncomputable section
def ext40 : Ext := []
theorem ext40Ok : ExtOk Tryz.prog ext40 := trivial

noncomputable def b40 : Code := bodyOf Tryz.f40
theorem hb40 : Tryz.f40.body = some b40 := by kernel_rfl
def sig40 : List AT := [AT.v (Ty.int IntKind.i64), AT.v (Ty.int IntKind.i64), AT.v (Ty.int IntKind.i64)]
def tys40 : List Ty := [Ty.bool]
def kds40 : List RK := []
def oks40 : List AT := owns sig40
def P40 (x0 : Int) (x1 : Int) (x2 : Int) : Prop := True
def g40_0 (x0 : Int) (x1 : Int) (x2 : Int) : Bool := (if (Decidable.decide (x0 ≥ x1)) = true then Decidable.decide (x0 ≤ x2) else Bool.false)
theorem at40 (x0 : Int) (x1 : Int) (x2 : Int) (h : P40 x0 x1 x2) (K : Ctx) (q : Nat → Value) : AtV Tryz.prog 40 (PostR kds40 oks40 [⟨Ty.bool, g40_0 x0 x1 x2⟩] [] [] q K) 15 K q [] [.code b40] (entE 0 0 sig40 (x0, x1, x2, ())) (entL sig40 (x0, x1, x2, ())) := by
  unfold P40 at h
  unfold g40_0
  by_cases b0 : (Decidable.decide (x0 ≥ x1)) = true
  · try simp only [if_pos b0] at h ⊢
    exact AtV.ret Tryz.func40 tabOk ext40Ok mixed false [] tys40 [true] (a1 b0 trivial) (by kernel_rfl)
  · try simp only [if_neg b0] at h ⊢
    replace b0 := Bool.eq_false_iff.2 b0
    exact AtV.ret Tryz.func40 tabOk ext40Ok mixed false [] tys40 [false] (a1 b0 trivial) (by kernel_rfl)

def S40 : Am.Spec := { sig := sig40, pre := fun ⟨x0, x1, x2, _⟩ => P40 x0 x1 x2, res := fun ⟨x0, x1, x2, _⟩ => [⟨Ty.bool, g40_0 x0 x1 x2⟩], kds := kds40 }
theorem con40 : Contract Tryz.prog 40 S40 := contract_of Tryz.func40 hb40 (Nat.le_of_ble_eq_true (by kernel_rfl)) (fun ⟨x0, x1, x2, _⟩ h _ K q => at40 x0 x1 x2 h K q)


end
end Go.Proofs.YtfpdnbojchnglaaGreatDoor

/- Function 25 (impl.isDay): its runs between cut points. Written by a program of this repo (gen). -/
set_option linter.unusedVariables false
set_option linter.unusedSimpArgs false
set_option maxRecDepth 100000
namespace Go.Proofs.YtfpdnbojchnglaaGreatDoor
open Go Go.Am Go.Proofs
noncomputable section
def ext25 : Ext := [(40, S40)]
theorem call25_40 : Callable Tryz.prog 40 := ⟨Tryz.f40, Tryz.func40, by kernel_rfl, by kernel_rfl⟩
theorem ext25Ok : ExtOk Tryz.prog ext25 := ⟨⟨call25_40, con40⟩, trivial⟩

noncomputable def b25 : Code := bodyOf Tryz.f25
theorem hb25 : Tryz.f25.body = some b25 := by kernel_rfl
def sig25 : List AT := [AT.v (Ty.int IntKind.i64)]
def tys25 : List Ty := [Ty.bool]
def kds25 : List RK := []
def oks25 : List AT := owns sig25
def P25 (x0 : Int) : Prop := True
def g25_0 (x0 : Int) : Bool := g40_0 x0 0 36524
theorem at25 (x0 : Int) (h : P25 x0) (K : Ctx) (q : Nat → Value) : AtV Tryz.prog 25 (PostR kds25 oks25 [⟨Ty.bool, g25_0 x0⟩] [] [] q K) 5 K q [] [.code b25] (entE 0 0 sig25 (x0, ())) (entL sig25 (x0, ())) := by
  unfold P25 at h
  unfold g25_0
  exact AtV.ret Tryz.func25 tabOk ext25Ok mixed false [] tys25 [] (a1 trivial trivial) (by kernel_rfl)

def S25 : Am.Spec := { sig := sig25, pre := fun ⟨x0, _⟩ => P25 x0, res := fun ⟨x0, _⟩ => [⟨Ty.bool, g25_0 x0⟩], kds := kds25 }
theorem con25 : Contract Tryz.prog 25 S25 := contract_of Tryz.func25 hb25 (Nat.le_of_ble_eq_true (by kernel_rfl)) (fun ⟨x0, _⟩ h _ K q => at25 x0 h K q)


end
end Go.Proofs.YtfpdnbojchnglaaGreatDoor

/- Function 24 (impl.isTicket): its runs between cut points. Written by a program of this repo (gen). -/
set_option linter.unusedVariables false
set_option linter.unusedSimpArgs false
set_option maxRecDepth 100000
namespace Go.Proofs.YtfpdnbojchnglaaGreatDoor
open Go Go.Am Go.Proofs
noncomputable section
def ext24 : Ext := [(49, S49), (25, S25), (40, S40)]
theorem call24_49 : Callable Tryz.prog 49 := ⟨Tryz.f49, Tryz.func49, by kernel_rfl, by kernel_rfl⟩
theorem call24_25 : Callable Tryz.prog 25 := ⟨Tryz.f25, Tryz.func25, by kernel_rfl, by kernel_rfl⟩
theorem call24_40 : Callable Tryz.prog 40 := ⟨Tryz.f40, Tryz.func40, by kernel_rfl, by kernel_rfl⟩
theorem ext24Ok : ExtOk Tryz.prog ext24 := ⟨⟨call24_49, con49⟩, ⟨call24_25, con25⟩, ⟨call24_40, con40⟩, trivial⟩

noncomputable def b24 : Code := bodyOf Tryz.f24
theorem hb24 : Tryz.f24.body = some b24 := by kernel_rfl
def sig24 : List AT := [AT.v (Ty.cons Ty.str (Ty.cons (Ty.int IntKind.i64) (Ty.cons (Ty.int IntKind.i64) Ty.unit)))]
def tys24 : List Ty := [Ty.bool]
def kds24 : List RK := []
def oks24 : List AT := owns sig24
def P24 (x0 : ByteArray × Int × Int × Unit) : Prop := True
def g24_0 (x0 : ByteArray × Int × Int × Unit) : Bool := (if (g49_0 (Prod.fst x0)) = true then (if (g25_0 (Prod.fst (Prod.snd x0))) = true then g40_0 (Prod.fst (Prod.snd (Prod.snd x0))) 0 1000 else Bool.false) else Bool.false)
theorem at24 (x0 : ByteArray × Int × Int × Unit) (h : P24 x0) (K : Ctx) (q : Nat → Value) : AtV Tryz.prog 24 (PostR kds24 oks24 [⟨Ty.bool, g24_0 x0⟩] [] [] q K) 16 K q [] [.code b24] (entE 0 0 sig24 (x0, ())) (entL sig24 (x0, ())) := by
  unfold P24 at h
  unfold g24_0
  by_cases b0 : (g49_0 (Prod.fst x0)) = true
  · try simp only [if_pos b0] at h ⊢
    by_cases b1 : (g25_0 (Prod.fst (Prod.snd x0))) = true
    · try simp only [if_pos b1] at h ⊢
      exact AtV.ret Tryz.func24 tabOk ext24Ok mixed false [] tys24 [true, true] (a1 trivial (a1 b0 (a1 trivial (a1 b1 (a1 trivial trivial))))) (by kernel_rfl)
    · try simp only [if_neg b1] at h ⊢
      replace b1 := Bool.eq_false_iff.2 b1
      exact AtV.ret Tryz.func24 tabOk ext24Ok mixed false [] tys24 [true, false] (a1 trivial (a1 b0 (a1 trivial (a1 b1 trivial)))) (by kernel_rfl)
  · try simp only [if_neg b0] at h ⊢
    replace b0 := Bool.eq_false_iff.2 b0
    exact AtV.ret Tryz.func24 tabOk ext24Ok mixed false [] tys24 [false, false] (a1 trivial (a1 b0 (a1 (rfl : Bool.false = Bool.false) trivial))) (by kernel_rfl)

def S24 : Am.Spec := { sig := sig24, pre := fun ⟨x0, _⟩ => P24 x0, res := fun ⟨x0, _⟩ => [⟨Ty.bool, g24_0 x0⟩], kds := kds24 }
theorem con24 : Contract Tryz.prog 24 S24 := contract_of Tryz.func24 hb24 (Nat.le_of_ble_eq_true (by kernel_rfl)) (fun ⟨x0, _⟩ h _ K q => at24 x0 h K q)


end
end Go.Proofs.YtfpdnbojchnglaaGreatDoor

/- Function 62 (impl.validFare): its runs between cut points. Written by a program of this repo (gen). -/
set_option linter.unusedVariables false
set_option linter.unusedSimpArgs false
set_option maxRecDepth 100000
namespace Go.Proofs.YtfpdnbojchnglaaGreatDoor
open Go Go.Am Go.Proofs
noncomputable section
def ext62 : Ext := [(49, S49), (40, S40)]
theorem call62_49 : Callable Tryz.prog 49 := ⟨Tryz.f49, Tryz.func49, by kernel_rfl, by kernel_rfl⟩
theorem call62_40 : Callable Tryz.prog 40 := ⟨Tryz.f40, Tryz.func40, by kernel_rfl, by kernel_rfl⟩
theorem ext62Ok : ExtOk Tryz.prog ext62 := ⟨⟨call62_49, con49⟩, ⟨call62_40, con40⟩, trivial⟩

noncomputable def b62 : Code := bodyOf Tryz.f62
theorem hb62 : Tryz.f62.body = some b62 := by kernel_rfl
def sig62 : List AT := [AT.v (Ty.cons Ty.str (Ty.cons (Ty.int IntKind.i64) (Ty.cons (Ty.int IntKind.i64) (Ty.cons (Ty.int IntKind.i64) Ty.unit))))]
def tys62 : List Ty := [Ty.bool]
def kds62 : List RK := []
def oks62 : List AT := owns sig62
def P62 (x0 : ByteArray × Int × Int × Int × Unit) : Prop := True
def g62_0 (x0 : ByteArray × Int × Int × Int × Unit) : Bool := (if (g49_0 (Prod.fst x0)) = true then (if (g40_0 (Prod.fst (Prod.snd x0)) 0 100000) = true then (if (g40_0 (Prod.fst (Prod.snd (Prod.snd x0))) 1 1000) = true then g40_0 (Prod.fst (Prod.snd (Prod.snd (Prod.snd x0)))) 1 400 else Bool.false) else Bool.false) else Bool.false)
theorem at62 (x0 : ByteArray × Int × Int × Int × Unit) (h : P62 x0) (K : Ctx) (q : Nat → Value) : AtV Tryz.prog 62 (PostR kds62 oks62 [⟨Ty.bool, g62_0 x0⟩] [] [] q K) 21 K q [] [.code b62] (entE 0 0 sig62 (x0, ())) (entL sig62 (x0, ())) := by
  unfold P62 at h
  unfold g62_0
  by_cases b0 : (g49_0 (Prod.fst x0)) = true
  · try simp only [if_pos b0] at h ⊢
    by_cases b1 : (g40_0 (Prod.fst (Prod.snd x0)) 0 100000) = true
    · try simp only [if_pos b1] at h ⊢
      by_cases b2 : (g40_0 (Prod.fst (Prod.snd (Prod.snd x0))) 1 1000) = true
      · try simp only [if_pos b2] at h ⊢
        exact AtV.ret Tryz.func62 tabOk ext62Ok mixed false [] tys62 [true, true, true] (a1 trivial (a1 b0 (a1 trivial (a1 b1 (a1 trivial (a1 b2 (a1 trivial trivial))))))) (by kernel_rfl)
      · try simp only [if_neg b2] at h ⊢
        replace b2 := Bool.eq_false_iff.2 b2
        exact AtV.ret Tryz.func62 tabOk ext62Ok mixed false [] tys62 [true, true, false] (a1 trivial (a1 b0 (a1 trivial (a1 b1 (a1 trivial (a1 b2 trivial)))))) (by kernel_rfl)
    · try simp only [if_neg b1] at h ⊢
      replace b1 := Bool.eq_false_iff.2 b1
      exact AtV.ret Tryz.func62 tabOk ext62Ok mixed false [] tys62 [true, false, false] (a1 trivial (a1 b0 (a1 trivial (a1 b1 (a1 (rfl : Bool.false = Bool.false) trivial))))) (by kernel_rfl)
  · try simp only [if_neg b0] at h ⊢
    replace b0 := Bool.eq_false_iff.2 b0
    exact AtV.ret Tryz.func62 tabOk ext62Ok mixed false [] tys62 [false, false, false] (a1 trivial (a1 b0 (a1 (rfl : Bool.false = Bool.false) (a1 (rfl : Bool.false = Bool.false) trivial)))) (by kernel_rfl)

def S62 : Am.Spec := { sig := sig62, pre := fun ⟨x0, _⟩ => P62 x0, res := fun ⟨x0, _⟩ => [⟨Ty.bool, g62_0 x0⟩], kds := kds62 }
theorem con62 : Contract Tryz.prog 62 S62 := contract_of Tryz.func62 hb62 (Nat.le_of_ble_eq_true (by kernel_rfl)) (fun ⟨x0, _⟩ h _ K q => at62 x0 h K q)


end
end Go.Proofs.YtfpdnbojchnglaaGreatDoor

/- Function 48 (impl.ValidFares): its runs between cut points. Written by a program of this repo (gen). -/
set_option linter.unusedVariables false
set_option linter.unusedSimpArgs false
set_option maxRecDepth 100000
namespace Go.Proofs.YtfpdnbojchnglaaGreatDoor
open Go Go.Am Go.Proofs
noncomputable section
def ext48 : Ext := [(62, S62)]
theorem call48_62 : Callable Tryz.prog 62 := ⟨Tryz.f62, Tryz.func62, by kernel_rfl, by kernel_rfl⟩
theorem ext48Ok : ExtOk Tryz.prog ext48 := ⟨⟨call48_62, con62⟩, trivial⟩

noncomputable def b48 : Code := bodyOf Tryz.f48
theorem hb48 : Tryz.f48.body = some b48 := by kernel_rfl
def sig48 : List AT := [AT.v (Ty.sl (Ty.cons Ty.str (Ty.cons (Ty.int IntKind.i64) (Ty.cons (Ty.int IntKind.i64) (Ty.cons (Ty.int IntKind.i64) Ty.unit)))))]
def tys48 : List Ty := [Ty.bool]
def kds48 : List RK := []
def oks48 : List AT := owns sig48
def E48_2 (v7 : Int) (x0 : List (ByteArray × Int × Int × Int × Unit)) : Env := [(0, PV.a (Atom.sl (Ty.cons Ty.str (Ty.cons (Ty.int IntKind.i64) (Ty.cons (Ty.int IntKind.i64) (Ty.cons (Ty.int IntKind.i64) Ty.unit)))) x0)), (5, PV.a (Atom.sl (Ty.cons Ty.str (Ty.cons (Ty.int IntKind.i64) (Ty.cons (Ty.int IntKind.i64) (Ty.cons (Ty.int IntKind.i64) Ty.unit)))) x0)), (6, PV.a (Atom.val (Value.int IntKind.i64 (↑(List.length x0) : Int)))), (7, PV.a (Atom.val (Value.int IntKind.i64 v7)))]
def L48_2 (v7 : Int) (x0 : List (ByteArray × Int × Int × Int × Unit)) : Heap := []
mutual
def R48 : Nat → List (ByteArray × Int × Int × Int × Unit) → List Dyn → Prop
  | 0, _, _ => False
  | n + 1, x0, ds => (R48_2 n (0) (x0) ds)
def R48_2 : Nat → Int → List (ByteArray × Int × Int × Int × Unit) → List Dyn → Prop
  | 0, _, _, _ => False
  | n + 1, v7, x0, ds => (if (Decidable.decide (v7 < (↑(List.length x0) : Int))) = true then ((0 ≤ v7) ∧ (v7 < (↑(List.length x0) : Int)) ∧ (if (!g62_0 (List.getD x0 (Int.toNat v7) (ByteArray.empty, 0, 0, 0, ()))) = true then (ds = [Dyn.mk Ty.bool Bool.false]) else (if (Decidable.decide (v7 > 0)) = true then ((InR IntKind.i64 (v7 - 1)) ∧ ((0 ≤ v7 - 1) ∧ (v7 - 1 < (↑(List.length x0) : Int)) ∧ (if (Op.bytesLess (ByteArray.toList (Prod.fst (List.getD x0 (Int.toNat v7) (ByteArray.empty, 0, 0, 0, ())))) (ByteArray.toList (Prod.fst (List.getD x0 (Int.toNat (v7 - 1)) (ByteArray.empty, 0, 0, 0, ())))) || ByteArray.toList (Prod.fst (List.getD x0 (Int.toNat v7) (ByteArray.empty, 0, 0, 0, ()))) == ByteArray.toList (Prod.fst (List.getD x0 (Int.toNat (v7 - 1)) (ByteArray.empty, 0, 0, 0, ())))) = true then (ds = [Dyn.mk Ty.bool Bool.false]) else ((InR IntKind.i64 (v7 + 1)) ∧ (R48_2 n (v7 + 1) (x0) ds))))) else ((InR IntKind.i64 (v7 + 1)) ∧ (R48_2 n (v7 + 1) (x0) ds))))) else (ds = [Dyn.mk Ty.bool (Decidable.decide ((↑(List.length x0) : Int) ≤ 8))]))
end
theorem snd48 : ∀ n, (∀ (x0 : List (ByteArray × Int × Int × Int × Unit)) ds, R48 n x0 ds → ∀ K q, AtV Tryz.prog 48 (PostR kds48 oks48 ds [] [] q K) 34 K q [] [.code b48] (entE 0 0 sig48 (x0, ())) (entL sig48 (x0, ()))) ∧ (∀ (v7 : Int) (x0 : List (ByteArray × Int × Int × Int × Unit)) ds, R48_2 n v7 x0 ds → ∀ K q, AtV Tryz.prog 48 (PostR kds48 oks48 ds [] [] q K) 34 K q [] (cutAt b48 2) (E48_2 v7 x0) (L48_2 v7 x0)) := by
  intro n
  induction n with
  | zero => exact ⟨fun _ _ h => by simp only [R48] at h, fun _ _ _ h => by simp only [R48_2] at h⟩
  | succ n ih =>
  obtain ⟨ih, ih2⟩ := ih
  refine ⟨?_, ?_⟩
  · intro x0 ds h K q
    rw [R48] at h
    exact AtV.go tabOk ext48Ok mixed false [] [] [0, 5, 6, 7] [] [] trivial (ih2 _ _ _ h K q) (by kernel_rfl)

  · intro v7 x0 ds h K q
    rw [R48_2] at h
    by_cases b0 : (Decidable.decide (v7 < (↑(List.length x0) : Int))) = true
    · rw [if_pos b0] at h
      obtain ⟨s0, s1, h⟩ := h
      by_cases b1 : (!g62_0 (List.getD x0 (Int.toNat v7) (ByteArray.empty, 0, 0, 0, ()))) = true
      · rw [if_pos b1] at h
        subst h
        exact AtV.ret Tryz.func48 tabOk ext48Ok mixed false [] tys48 [true, true, true] (a1 b0 (a1 s0 (a1 s1 (a1 trivial (a1 b1 (a1 (rfl : Bool.true = Bool.true) trivial)))))) (by kernel_rfl)
      · rw [if_neg b1] at h
        replace b1 := Bool.eq_false_iff.2 b1
        by_cases b2 : (Decidable.decide (v7 > 0)) = true
        · rw [if_pos b2] at h
          obtain ⟨s2, h⟩ := h
          obtain ⟨s3, s4, h⟩ := h
          by_cases b3 : (Op.bytesLess (ByteArray.toList (Prod.fst (List.getD x0 (Int.toNat v7) (ByteArray.empty, 0, 0, 0, ())))) (ByteArray.toList (Prod.fst (List.getD x0 (Int.toNat (v7 - 1)) (ByteArray.empty, 0, 0, 0, ())))) || ByteArray.toList (Prod.fst (List.getD x0 (Int.toNat v7) (ByteArray.empty, 0, 0, 0, ()))) == ByteArray.toList (Prod.fst (List.getD x0 (Int.toNat (v7 - 1)) (ByteArray.empty, 0, 0, 0, ())))) = true
          · rw [if_pos b3] at h
            subst h
            exact AtV.ret Tryz.func48 tabOk ext48Ok mixed false [] tys48 [true, false, true, true] (a1 b0 (a1 s0 (a1 s1 (a1 trivial (a1 b1 (a1 b2 (a1 s2 (a1 s3 (a1 s4 (a1 b3 trivial)))))))))) (by kernel_rfl)
          · rw [if_neg b3] at h
            replace b3 := Bool.eq_false_iff.2 b3
            obtain ⟨s5, h⟩ := h
            exact AtV.go tabOk ext48Ok mixed false [] [] [0, 5, 6, 7] [] [true, false, true, false] (a1 b0 (a1 s0 (a1 s1 (a1 trivial (a1 b1 (a1 b2 (a1 s2 (a1 s3 (a1 s4 (a1 b3 (a1 s5 trivial))))))))))) (ih2 _ _ _ h K q) (by kernel_rfl)
        · rw [if_neg b2] at h
          replace b2 := Bool.eq_false_iff.2 b2
          obtain ⟨s2, h⟩ := h
          exact AtV.go tabOk ext48Ok mixed false [] [] [0, 5, 6, 7] [] [true, false, false, false] (a1 b0 (a1 s0 (a1 s1 (a1 trivial (a1 b1 (a1 b2 (a1 (rfl : Bool.false = Bool.false) (a1 s2 trivial)))))))) (ih2 _ _ _ h K q) (by kernel_rfl)
    · rw [if_neg b0] at h
      replace b0 := Bool.eq_false_iff.2 b0
      subst h
      exact AtV.ret Tryz.func48 tabOk ext48Ok mixed false [] tys48 [false] (a1 b0 trivial) (by kernel_rfl)



def ok48 (x0 : List (ByteArray × Int × Int × Int × Unit)) (i : Nat) (x : (ByteArray × Int × Int × Int × Unit)) : Bool :=
  g62_0 x && (i == 0 || !(Op.bytesLess (ByteArray.toList x.1) (ByteArray.toList (x0.getD (i - 1) (ByteArray.empty, (0 : Int), (0 : Int), (0 : Int), ())).1) || ByteArray.toList x.1 == ByteArray.toList (x0.getD (i - 1) (ByteArray.empty, (0 : Int), (0 : Int), (0 : Int), ())).1))
def g48_0 (x0 : List (ByteArray × Int × Int × Int × Unit)) : Bool := allI (ok48 x0) 0 x0 && decide (x0.length ≤ 8)
def P48 (x0 : List (ByteArray × Int × Int × Int × Unit)) : Prop := True

theorem step48 (n i : Nat) (x0 : List (ByteArray × Int × Int × Int × Unit)) (hm : x0.length ≤ maxLen) (hi : i < x0.length) (ds : List Dyn) :
    (if ok48 x0 i (x0.getD i (ByteArray.empty, (0 : Int), (0 : Int), (0 : Int), ())) = true then R48_2 n ((i : Int) + 1) x0 ds else ds = [⟨.bool, false⟩]) → R48_2 (n + 1) (i : Int) x0 ds := by
  intro h
  have hu := inR_up hm hi
  rw [R48_2, if_pos (by simp; omega)]
  refine ⟨by omega, by omega, ?_⟩
  simp only [Int.toNat_natCast]
  unfold ok48 at h
  by_cases h1 : g62_0 (x0.getD i (ByteArray.empty, (0 : Int), (0 : Int), (0 : Int), ())) = true
  case neg =>
    have h1 := Bool.eq_false_iff.2 h1
    rw [h1] at h
    rw [if_pos (by rw [h1]; rfl)]
    simpa using h
  case pos =>
    rw [h1] at h
    rw [if_neg (by rw [h1]; simp)]
    by_cases h0 : (i : Int) > 0
    · rw [if_pos (by simpa using h0)]
      have hi0 : (i == 0) = false := by simp; omega
      have e : ((i : Int) - 1).toNat = i - 1 := by omega
      refine ⟨by rw [i64_iff]; have : maxLen ≤ 9223372036854775807 := by decide
                 omega, by omega, by omega, ?_⟩
      rw [e]
      by_cases h2 : (Op.bytesLess (ByteArray.toList (x0.getD i (ByteArray.empty, (0 : Int), (0 : Int), (0 : Int), ())).1) (ByteArray.toList (x0.getD (i - 1) (ByteArray.empty, (0 : Int), (0 : Int), (0 : Int), ())).1) || ByteArray.toList (x0.getD i (ByteArray.empty, (0 : Int), (0 : Int), (0 : Int), ())).1 == ByteArray.toList (x0.getD (i - 1) (ByteArray.empty, (0 : Int), (0 : Int), (0 : Int), ())).1) = true
      · rw [if_pos h2]
        rw [hi0, h2] at h
        simpa using h
      · rw [if_neg h2]
        rw [hi0, Bool.eq_false_iff.2 h2] at h
        exact ⟨hu, by simpa using h⟩
    · rw [if_neg (by simpa using h0)]
      have hi0 : (i == 0) = true := by simp; omega
      rw [hi0] at h
      exact ⟨hu, by simpa using h⟩

theorem top48 (x0 : List (ByteArray × Int × Int × Int × Unit)) (hw : x0.length ≤ maxLen) : R48 (x0.length + 1 + 1) x0 [⟨.bool, g48_0 x0⟩] := by
  rw [R48]
  have key := loop_testI x0 (ByteArray.empty, (0 : Int), (0 : Int), (0 : Int), ()) (ok48 x0) [(⟨.bool, false⟩ : Dyn)] [⟨.bool, decide (x0.length ≤ 8)⟩] (fun n i ds => R48_2 n i x0 ds) (fun n => ?_) (fun n i hi hok ds hr => ?_) (fun n i hi hok => ?_)
  · unfold g48_0
    cases h : allI (ok48 x0) 0 x0 with
    | true => rw [if_pos h] at key; simpa using key
    | false => rw [if_neg (by rw [h]; simp)] at key; simpa using key
  · rw [R48_2, if_neg (by simp)]
    have hc : decide ((x0.length : Int) ≤ 8) = decide (x0.length ≤ 8) := by
      congr 1; exact propext ⟨fun h => by omega, fun h => by omega⟩
    rw [hc]
  · exact step48 n i x0 hw hi ds (by rw [if_pos hok]; exact hr)
  · exact step48 n i x0 hw hi _ (by rw [if_neg (by rw [hok]; simp)])

def S48 : Am.Spec := { sig := sig48, pre := fun ⟨x0, _⟩ => P48 x0, res := fun ⟨x0, _⟩ => [⟨Ty.bool, g48_0 x0⟩] }
theorem con48 : Contract Tryz.prog 48 S48 := contract_of Tryz.func48 hb48 (Nat.le_of_ble_eq_true (by kernel_rfl)) (fun ⟨x0, _⟩ h hwf K q =>
  (snd48 _).1 x0 _ (top48 x0 hwf.1.1) K q)

end
end Go.Proofs.YtfpdnbojchnglaaGreatDoor

/- Function 51 (impl.fareOf$1): its runs between cut points. Written by a program of this repo (gen). -/
set_option linter.unusedVariables false
set_option linter.unusedSimpArgs false
set_option maxRecDepth 100000
namespace Go.Proofs.YtfpdnbojchnglaaGreatDoor
open Go Go.Am Go.Proofs
noncomputable section
def ext51 : Ext := []
theorem ext51Ok : ExtOk Tryz.prog ext51 := trivial

noncomputable def b51 : Code := bodyOf Tryz.f51
theorem hb51 : Tryz.f51.body = some b51 := by kernel_rfl
def sig51 : List AT := [AT.v (Ty.cons Ty.str (Ty.cons (Ty.int IntKind.i64) (Ty.cons (Ty.int IntKind.i64) (Ty.cons (Ty.int IntKind.i64) Ty.unit)))), AT.p .str]
def tys51 : List Ty := [Ty.bool]
def kds51 : List RK := []
def oks51 : List AT := owns sig51
def P51 (x0 : ByteArray × Int × Int × Int × Unit) (x1 : ByteArray) : Prop := True
def g51_0 (x0 : ByteArray × Int × Int × Int × Unit) (x1 : ByteArray) : Bool := ByteArray.toList (Prod.fst x0) == ByteArray.toList x1
theorem at51 (x0 : ByteArray × Int × Int × Int × Unit) (x1 : ByteArray) (h : P51 x0 x1) (K : Ctx) (q : Nat → Value) : AtV Tryz.prog 51 (PostR kds51 oks51 [⟨Ty.bool, g51_0 x0 x1⟩] [] [] q K) 8 K q [] [.code b51] (entE 0 0 sig51 (x0, x1, ())) (entL sig51 (x0, x1, ())) := by
  unfold P51 at h
  unfold g51_0
  exact AtV.ret Tryz.func51 tabOk ext51Ok mixed false [] tys51 [] trivial (by kernel_rfl)

def S51 : Am.Spec := { sig := sig51, pre := fun ⟨x0, x1, _⟩ => P51 x0 x1, res := fun ⟨x0, x1, _⟩ => [⟨Ty.bool, g51_0 x0 x1⟩], kds := kds51 }
theorem con51 : Contract Tryz.prog 51 S51 := contract_of Tryz.func51 hb51 (Nat.le_of_ble_eq_true (by kernel_rfl)) (fun ⟨x0, x1, _⟩ h _ K q => at51 x0 x1 h K q)


end
end Go.Proofs.YtfpdnbojchnglaaGreatDoor

/- Function 50 (slices.IndexFunc[[]impl.Fare,impl.Fare]): its runs between cut points. Written by a program of this repo (gen). -/
set_option linter.unusedVariables false
set_option linter.unusedSimpArgs false
set_option maxRecDepth 100000
namespace Go.Proofs.YtfpdnbojchnglaaGreatDoor
open Go Go.Am Go.Proofs
noncomputable section
def ext50c51 : Ext := [(51, S51)]
theorem call50c51_51 : Callable Tryz.prog 51 := ⟨Tryz.f51, Tryz.func51, by kernel_rfl, by kernel_rfl⟩
theorem ext50c51Ok : ExtOk Tryz.prog ext50c51 := ⟨⟨call50c51_51, con51⟩, trivial⟩

noncomputable def b50c51 : Code := bodyOf Tryz.f50
theorem hb50c51 : Tryz.f50.body = some b50c51 := by kernel_rfl
def sig50c51 : List AT := [AT.v (Ty.sl (Ty.cons Ty.str (Ty.cons (Ty.int IntKind.i64) (Ty.cons (Ty.int IntKind.i64) (Ty.cons (Ty.int IntKind.i64) Ty.unit))))), AT.fn 51 [(true, .str)]]
def tys50c51 : List Ty := [Ty.int IntKind.i64]
def kds50c51 : List RK := []
def oks50c51 : List AT := owns sig50c51
def E50c51_2 (v8 : Int) (x0 : List (ByteArray × Int × Int × Int × Unit)) (x1 : ByteArray) : Env := [(0, PV.a (Atom.sl (Ty.cons Ty.str (Ty.cons (Ty.int IntKind.i64) (Ty.cons (Ty.int IntKind.i64) (Ty.cons (Ty.int IntKind.i64) Ty.unit)))) x0)), (1, PV.fn 51 [Atom.ptr Ty.str x1]), (7, PV.a (Atom.val (Value.int IntKind.i64 (↑(List.length x0) : Int)))), (8, PV.a (Atom.val (Value.int IntKind.i64 v8)))]
def L50c51_2 (v8 : Int) (x0 : List (ByteArray × Int × Int × Int × Unit)) (x1 : ByteArray) : Heap := []
mutual
def R50c51 : Nat → List (ByteArray × Int × Int × Int × Unit) → ByteArray → List Dyn → Prop
  | 0, _, _, _ => False
  | n + 1, x0, x1, ds => (R50c51_2 n (0) (x0) (x1) ds)
def R50c51_2 : Nat → Int → List (ByteArray × Int × Int × Int × Unit) → ByteArray → List Dyn → Prop
  | 0, _, _, _, _ => False
  | n + 1, v8, x0, x1, ds => (if (Decidable.decide (v8 < (↑(List.length x0) : Int))) = true then ((0 ≤ v8) ∧ (v8 < (↑(List.length x0) : Int)) ∧ (if (g51_0 (List.getD x0 (Int.toNat v8) (ByteArray.empty, 0, 0, 0, ())) x1) = true then (ds = [Dyn.mk (Ty.int IntKind.i64) v8]) else ((InR IntKind.i64 (v8 + 1)) ∧ (R50c51_2 n (v8 + 1) (x0) (x1) ds)))) else (ds = [Dyn.mk (Ty.int IntKind.i64) (-1)]))
end
theorem snd50c51 : ∀ n, (∀ (x0 : List (ByteArray × Int × Int × Int × Unit)) (x1 : ByteArray) ds, R50c51 n x0 x1 ds → ∀ K q, AtV Tryz.prog 50 (PostR kds50c51 oks50c51 ds [] [] q K) 19 K q [] [.code b50c51] (entE 0 0 sig50c51 (x0, (x1, ()), ())) (entL sig50c51 (x0, (x1, ()), ()))) ∧ (∀ (v8 : Int) (x0 : List (ByteArray × Int × Int × Int × Unit)) (x1 : ByteArray) ds, R50c51_2 n v8 x0 x1 ds → ∀ K q, AtV Tryz.prog 50 (PostR kds50c51 oks50c51 ds [] [] q K) 19 K q [] (cutAt b50c51 2) (E50c51_2 v8 x0 x1) (L50c51_2 v8 x0 x1)) := by
  intro n
  induction n with
  | zero => exact ⟨fun _ _ _ h => by simp only [R50c51] at h, fun _ _ _ _ h => by simp only [R50c51_2] at h⟩
  | succ n ih =>
  obtain ⟨ih, ih2⟩ := ih
  refine ⟨?_, ?_⟩
  · intro x0 x1 ds h K q
    rw [R50c51] at h
    exact AtV.go tabOk ext50c51Ok mixed false [] [] [0, 1, 7, 8] [] [] trivial (ih2 _ _ _ _ h K q) (by kernel_rfl)

  · intro v8 x0 x1 ds h K q
    rw [R50c51_2] at h
    by_cases b0 : (Decidable.decide (v8 < (↑(List.length x0) : Int))) = true
    · rw [if_pos b0] at h
      obtain ⟨s0, s1, h⟩ := h
      by_cases b1 : (g51_0 (List.getD x0 (Int.toNat v8) (ByteArray.empty, 0, 0, 0, ())) x1) = true
      · rw [if_pos b1] at h
        subst h
        exact AtV.ret Tryz.func50 tabOk ext50c51Ok mixed false [] tys50c51 [true, true] (a1 b0 (a1 s0 (a1 s1 (a1 trivial (a1 b1 trivial))))) (by kernel_rfl)
      · rw [if_neg b1] at h
        replace b1 := Bool.eq_false_iff.2 b1
        obtain ⟨s2, h⟩ := h
        exact AtV.go tabOk ext50c51Ok mixed false [] [] [0, 1, 7, 8] [] [true, false] (a1 b0 (a1 s0 (a1 s1 (a1 trivial (a1 b1 (a1 s2 trivial)))))) (ih2 _ _ _ _ h K q) (by kernel_rfl)
    · rw [if_neg b0] at h
      replace b0 := Bool.eq_false_iff.2 b0
      subst h
      exact AtV.ret Tryz.func50 tabOk ext50c51Ok mixed false [] tys50c51 [false] (a1 b0 trivial) (by kernel_rfl)



def g50c51_0 (x0 : List (ByteArray × Int × Int × Int × Unit)) (y0 : ByteArray) : Int := idx (x0.findIdx? (fun x => g51_0 x y0))
def P50c51 (x0 : List (ByteArray × Int × Int × Int × Unit)) (y0 : ByteArray) : Prop := True

theorem top50c51 (x0 : List (ByteArray × Int × Int × Int × Unit)) (y0 : ByteArray) (hm : x0.length ≤ maxLen) : R50c51 (x0.length + 1 + 1) x0 y0 [⟨.int .i64, g50c51_0 x0 y0⟩] := by
  rw [R50c51]
  have key := loop_find x0 (ByteArray.empty, (0 : Int), (0 : Int), (0 : Int), ()) (fun x => g51_0 x y0) [(⟨.int .i64, -1⟩ : Dyn)] (fun k => [⟨.int .i64, k⟩]) (fun n i ds => R50c51_2 n i x0 y0 ds) (fun n => ?_) (fun n i hi hok ds hr => ?_) (fun n i hi hok => ?_)
  · unfold g50c51_0
    cases h : x0.findIdx? (fun x => g51_0 x y0) <;> rw [h] at key <;> exact key
  · rw [R50c51_2, if_neg (by simp)]
  · rw [R50c51_2, if_pos (by simp; omega)]
    simp only [Int.toNat_natCast]
    refine ⟨by omega, by omega, ?_⟩
    rw [if_neg (by rw [hok]; simp)]
    exact ⟨inR_up hm hi, hr⟩
  · rw [R50c51_2, if_pos (by simp; omega)]
    simp only [Int.toNat_natCast]
    refine ⟨by omega, by omega, ?_⟩
    rw [if_pos hok] <;> trivial

def S50c51 : Am.Spec := { sig := sig50c51, pre := fun ⟨x0, ⟨y0, _⟩, _⟩ => P50c51 x0 y0, res := fun ⟨x0, ⟨y0, _⟩, _⟩ => [⟨Ty.int .i64, g50c51_0 x0 y0⟩] }
theorem con50c51 : Contract Tryz.prog 50 S50c51 := contract_of Tryz.func50 hb50c51 (Nat.le_of_ble_eq_true (by kernel_rfl)) (fun ⟨x0, ⟨y0, _⟩, _⟩ h hwf K q =>
  (snd50c51 _).1 x0 y0 _ (top50c51 x0 y0 hwf.1.1) K q)

end
end Go.Proofs.YtfpdnbojchnglaaGreatDoor

/- Function 26 (impl.fareOf): its runs between cut points. Written by a program of this repo (gen). -/
set_option linter.unusedVariables false
set_option linter.unusedSimpArgs false
set_option maxRecDepth 100000
namespace Go.Proofs.YtfpdnbojchnglaaGreatDoor
open Go Go.Am Go.Proofs
noncomputable section
def ext26 : Ext := [(50, S50c51)]
theorem call26_50 : Callable Tryz.prog 50 := ⟨Tryz.f50, Tryz.func50, by kernel_rfl, by kernel_rfl⟩
theorem ext26Ok : ExtOk Tryz.prog ext26 := ⟨⟨call26_50, con50c51⟩, trivial⟩

noncomputable def b26 : Code := bodyOf Tryz.f26
theorem hb26 : Tryz.f26.body = some b26 := by kernel_rfl
def sig26 : List AT := [AT.v (Ty.sl (Ty.cons Ty.str (Ty.cons (Ty.int IntKind.i64) (Ty.cons (Ty.int IntKind.i64) (Ty.cons (Ty.int IntKind.i64) Ty.unit))))), AT.v (Ty.str)]
def tys26 : List Ty := [Ty.cons Ty.str (Ty.cons (Ty.int IntKind.i64) (Ty.cons (Ty.int IntKind.i64) (Ty.cons (Ty.int IntKind.i64) Ty.unit))), Ty.bool]
def kds26 : List RK := []
def oks26 : List AT := owns sig26
def P26 (x0 : List (ByteArray × Int × Int × Int × Unit)) (x1 : ByteArray) : Prop := (if (Decidable.decide (g50c51_0 x0 x1 < 0)) = true then True else ((0 ≤ g50c51_0 x0 x1) ∧ (g50c51_0 x0 x1 < (↑(List.length x0) : Int)) ∧ True))
def g26_0 (x0 : List (ByteArray × Int × Int × Int × Unit)) (x1 : ByteArray) : ByteArray × Int × Int × Int × Unit := (if (Decidable.decide (g50c51_0 x0 x1 < 0)) = true then (ByteArray.empty, 0, 0, 0, ()) else List.getD x0 (Int.toNat (g50c51_0 x0 x1)) (ByteArray.empty, 0, 0, 0, ()))
def g26_1 (x0 : List (ByteArray × Int × Int × Int × Unit)) (x1 : ByteArray) : Bool := (if (Decidable.decide (g50c51_0 x0 x1 < 0)) = true then Bool.false else Bool.true)
theorem at26 (x0 : List (ByteArray × Int × Int × Int × Unit)) (x1 : ByteArray) (h : P26 x0 x1) (K : Ctx) (q : Nat → Value) : AtV Tryz.prog 26 (PostR kds26 oks26 [⟨Ty.cons Ty.str (Ty.cons (Ty.int IntKind.i64) (Ty.cons (Ty.int IntKind.i64) (Ty.cons (Ty.int IntKind.i64) Ty.unit))), g26_0 x0 x1⟩, ⟨Ty.bool, g26_1 x0 x1⟩] [] [] q K) 17 K q [] [.code b26] (entE 0 0 sig26 (x0, x1, ())) (entL sig26 (x0, x1, ())) := by
  unfold P26 at h
  unfold g26_0 g26_1
  by_cases b0 : (Decidable.decide (g50c51_0 x0 x1 < 0)) = true
  · try simp only [if_pos b0] at h ⊢
    exact AtV.ret Tryz.func26 tabOk ext26Ok mixed false [] tys26 [true] (a1 trivial (a1 b0 trivial)) (by kernel_rfl)
  · try simp only [if_neg b0] at h ⊢
    replace b0 := Bool.eq_false_iff.2 b0
    obtain ⟨s0, s1, h⟩ := h
    exact AtV.ret Tryz.func26 tabOk ext26Ok mixed false [] tys26 [false] (a1 trivial (a1 b0 (a1 s0 (a1 s1 trivial)))) (by kernel_rfl)

def S26 : Am.Spec := { sig := sig26, pre := fun ⟨x0, x1, _⟩ => P26 x0 x1, res := fun ⟨x0, x1, _⟩ => [⟨Ty.cons Ty.str (Ty.cons (Ty.int IntKind.i64) (Ty.cons (Ty.int IntKind.i64) (Ty.cons (Ty.int IntKind.i64) Ty.unit))), g26_0 x0 x1⟩, ⟨Ty.bool, g26_1 x0 x1⟩], kds := kds26 }
theorem con26 : Contract Tryz.prog 26 S26 := contract_of Tryz.func26 hb26 (Nat.le_of_ble_eq_true (by kernel_rfl)) (fun ⟨x0, x1, _⟩ h _ K q => at26 x0 x1 h K q)


end
end Go.Proofs.YtfpdnbojchnglaaGreatDoor

/- Function 23 (impl.fared): its runs between cut points. Written by a program of this repo (gen). -/
set_option linter.unusedVariables false
set_option linter.unusedSimpArgs false
set_option maxRecDepth 100000
namespace Go.Proofs.YtfpdnbojchnglaaGreatDoor
open Go Go.Am Go.Proofs
noncomputable section
def ext23 : Ext := [(48, S48), (26, S26)]
theorem call23_48 : Callable Tryz.prog 48 := ⟨Tryz.f48, Tryz.func48, by kernel_rfl, by kernel_rfl⟩
theorem call23_26 : Callable Tryz.prog 26 := ⟨Tryz.f26, Tryz.func26, by kernel_rfl, by kernel_rfl⟩
theorem ext23Ok : ExtOk Tryz.prog ext23 := ⟨⟨call23_48, con48⟩, ⟨call23_26, con26⟩, trivial⟩

noncomputable def b23 : Code := bodyOf Tryz.f23
theorem hb23 : Tryz.f23.body = some b23 := by kernel_rfl
def sig23 : List AT := [AT.v (Ty.sl (Ty.cons Ty.str (Ty.cons (Ty.int IntKind.i64) (Ty.cons (Ty.int IntKind.i64) (Ty.cons (Ty.int IntKind.i64) Ty.unit))))), AT.v (Ty.bool), AT.v (Ty.sl Ty.str)]
def tys23 : List Ty := [Ty.int IntKind.i64]
def kds23 : List RK := []
def oks23 : List AT := owns sig23
def E23_6 (v20 : Int) (x0 : List (ByteArray × Int × Int × Int × Unit)) (x2 : List ByteArray) : Env := [(0, PV.a (Atom.sl (Ty.cons Ty.str (Ty.cons (Ty.int IntKind.i64) (Ty.cons (Ty.int IntKind.i64) (Ty.cons (Ty.int IntKind.i64) Ty.unit)))) x0)), (18, PV.a (Atom.sl Ty.str x2)), (19, PV.a (Atom.val (Value.int IntKind.i64 (↑(List.length x2) : Int)))), (20, PV.a (Atom.val (Value.int IntKind.i64 v20)))]
def L23_6 (v20 : Int) (x0 : List (ByteArray × Int × Int × Int × Unit)) (x2 : List ByteArray) : Heap := []
mutual
def R23 : Nat → List (ByteArray × Int × Int × Int × Unit) → Bool → List ByteArray → List Dyn → Prop
  | 0, _, _, _, _ => False
  | n + 1, x0, x1, x2, ds => (if (!g48_0 x0) = true then (ds = [Dyn.mk (Ty.int IntKind.i64) 1]) else (if (!x1) = true then (ds = [Dyn.mk (Ty.int IntKind.i64) 2]) else (R23_6 n (0) (x0) (x2) ds)))
def R23_6 : Nat → Int → List (ByteArray × Int × Int × Int × Unit) → List ByteArray → List Dyn → Prop
  | 0, _, _, _, _ => False
  | n + 1, v20, x0, x2, ds => (if (Decidable.decide (v20 < (↑(List.length x2) : Int))) = true then ((0 ≤ v20) ∧ (v20 < (↑(List.length x2) : Int)) ∧ ((P26 x0 (List.getD x2 (Int.toNat v20) ByteArray.empty)) ∧ (if (!g26_1 x0 (List.getD x2 (Int.toNat v20) ByteArray.empty)) = true then (ds = [Dyn.mk (Ty.int IntKind.i64) 3]) else ((InR IntKind.i64 (v20 + 1)) ∧ (R23_6 n (v20 + 1) (x0) (x2) ds))))) else (ds = [Dyn.mk (Ty.int IntKind.i64) 0]))
end
theorem snd23 : ∀ n, (∀ (x0 : List (ByteArray × Int × Int × Int × Unit)) (x1 : Bool) (x2 : List ByteArray) ds, R23 n x0 x1 x2 ds → ∀ K q, AtV Tryz.prog 23 (PostR kds23 oks23 ds [] [] q K) 33 K q [] [.code b23] (entE 0 0 sig23 (x0, x1, x2, ())) (entL sig23 (x0, x1, x2, ()))) ∧ (∀ (v20 : Int) (x0 : List (ByteArray × Int × Int × Int × Unit)) (x2 : List ByteArray) ds, R23_6 n v20 x0 x2 ds → ∀ K q, AtV Tryz.prog 23 (PostR kds23 oks23 ds [] [] q K) 33 K q [] (cutAt b23 6) (E23_6 v20 x0 x2) (L23_6 v20 x0 x2)) := by
  intro n
  induction n with
  | zero => exact ⟨fun _ _ _ _ h => by simp only [R23] at h, fun _ _ _ _ h => by simp only [R23_6] at h⟩
  | succ n ih =>
  obtain ⟨ih, ih6⟩ := ih
  refine ⟨?_, ?_⟩
  · intro x0 x1 x2 ds h K q
    rw [R23] at h
    by_cases b0 : (!g48_0 x0) = true
    · rw [if_pos b0] at h
      subst h
      exact AtV.ret Tryz.func23 tabOk ext23Ok mixed false [] tys23 [true] (a1 trivial (a1 b0 trivial)) (by kernel_rfl)
    · rw [if_neg b0] at h
      replace b0 := Bool.eq_false_iff.2 b0
      by_cases b1 : (!x1) = true
      · rw [if_pos b1] at h
        subst h
        exact AtV.ret Tryz.func23 tabOk ext23Ok mixed false [] tys23 [false, true] (a1 trivial (a1 b0 (a1 b1 trivial))) (by kernel_rfl)
      · rw [if_neg b1] at h
        replace b1 := Bool.eq_false_iff.2 b1
        exact AtV.go tabOk ext23Ok mixed false [] [] [0, 18, 19, 20] [] [false, false] (a1 trivial (a1 b0 (a1 b1 trivial))) (ih6 _ _ _ _ h K q) (by kernel_rfl)

  · intro v20 x0 x2 ds h K q
    rw [R23_6] at h
    by_cases b0 : (Decidable.decide (v20 < (↑(List.length x2) : Int))) = true
    · rw [if_pos b0] at h
      obtain ⟨s0, s1, h⟩ := h
      obtain ⟨s2, h⟩ := h
      by_cases b1 : (!g26_1 x0 (List.getD x2 (Int.toNat v20) ByteArray.empty)) = true
      · rw [if_pos b1] at h
        subst h
        exact AtV.ret Tryz.func23 tabOk ext23Ok mixed false [] tys23 [true, true] (a1 b0 (a1 s0 (a1 s1 (a1 s2 (a1 b1 trivial))))) (by kernel_rfl)
      · rw [if_neg b1] at h
        replace b1 := Bool.eq_false_iff.2 b1
        obtain ⟨s3, h⟩ := h
        exact AtV.go tabOk ext23Ok mixed false [] [] [0, 18, 19, 20] [] [true, false] (a1 b0 (a1 s0 (a1 s1 (a1 s2 (a1 b1 (a1 s3 trivial)))))) (ih6 _ _ _ _ h K q) (by kernel_rfl)
    · rw [if_neg b0] at h
      replace b0 := Bool.eq_false_iff.2 b0
      subst h
      exact AtV.ret Tryz.func23 tabOk ext23Ok mixed false [] tys23 [false] (a1 b0 trivial) (by kernel_rfl)



def g23_0 (x0 : List (ByteArray × Int × Int × Int × Unit)) (x1 : Bool) (x2 : List ByteArray) : Int := if (!g48_0 x0) = true then 1 else if (!x1) = true then 2 else if (x2.all fun y => g26_1 x0 y) = true then 0 else 3
def P23 (x0 : List (ByteArray × Int × Int × Int × Unit)) (x1 : Bool) (x2 : List ByteArray) : Prop := ∀ y ∈ x2, P26 x0 y

theorem top23 (x0 : List (ByteArray × Int × Int × Int × Unit)) (x1 : Bool) (x2 : List ByteArray) (h : P23 x0 x1 x2) (hm : x2.length ≤ maxLen) : R23 (x2.length + 1 + 1) x0 x1 x2 [⟨.int .i64, g23_0 x0 x1 x2⟩] := by
  rw [R23]
  unfold g23_0
  by_cases h1 : (!g48_0 x0) = true
  · rw [if_pos h1, if_pos h1]
  rw [if_neg h1, if_neg h1]
  by_cases h2 : (!x1) = true
  · rw [if_pos h2, if_pos h2]
  rw [if_neg h2, if_neg h2]
  have key := loop_test x2 ByteArray.empty (fun y => g26_1 x0 y) [(⟨.int .i64, 3⟩ : Dyn)] [⟨.int .i64, 0⟩] (fun n i ds => R23_6 n i x0 x2 ds) (fun n => ?_) (fun n i hi hok ds hr => ?_) (fun n i hi hok => ?_)
  · cases hh : x2.all (fun y => g26_1 x0 y) <;> rw [hh] at key <;> simpa using key
  · rw [R23_6, if_neg (by simp)]
  · rw [R23_6, if_pos (by simp; omega)]
    simp only [Int.toNat_natCast]
    refine ⟨by omega, by omega, h _ (mem_getD x2 i ByteArray.empty hi), ?_⟩
    rw [if_neg (by rw [hok]; simp)]
    exact ⟨inR_up hm hi, hr⟩
  · rw [R23_6, if_pos (by simp; omega)]
    simp only [Int.toNat_natCast]
    refine ⟨by omega, by omega, h _ (mem_getD x2 i ByteArray.empty hi), ?_⟩
    rw [if_pos (by rw [hok]; rfl)] <;> trivial

def S23 : Am.Spec := { sig := sig23, pre := fun ⟨x0, x1, x2, _⟩ => P23 x0 x1 x2, res := fun ⟨x0, x1, x2, _⟩ => [⟨.int .i64, g23_0 x0 x1 x2⟩] }
theorem con23 : Contract Tryz.prog 23 S23 := contract_of Tryz.func23 hb23 (Nat.le_of_ble_eq_true (by kernel_rfl)) (fun ⟨x0, x1, x2, _⟩ h hwf K q =>
  (snd23 _).1 x0 x1 x2 _ (top23 x0 x1 x2 h hwf.2.2.1.1) K q)

end
end Go.Proofs.YtfpdnbojchnglaaGreatDoor

/- Function 27 (impl.isGood): its runs between cut points. Written by a program of this repo (gen). -/
set_option linter.unusedVariables false
set_option linter.unusedSimpArgs false
set_option maxRecDepth 100000
namespace Go.Proofs.YtfpdnbojchnglaaGreatDoor
open Go Go.Am Go.Proofs
noncomputable section
def ext27 : Ext := []
theorem ext27Ok : ExtOk Tryz.prog ext27 := trivial

noncomputable def b27 : Code := bodyOf Tryz.f27
theorem hb27 : Tryz.f27.body = some b27 := by kernel_rfl
def sig27 : List AT := [AT.v (Ty.cons Ty.str (Ty.cons (Ty.int IntKind.i64) (Ty.cons (Ty.int IntKind.i64) (Ty.cons (Ty.int IntKind.i64) Ty.unit)))), AT.v (Ty.cons Ty.str (Ty.cons (Ty.int IntKind.i64) (Ty.cons (Ty.int IntKind.i64) Ty.unit))), AT.v (Ty.int IntKind.i64)]
def tys27 : List Ty := [Ty.bool]
def kds27 : List RK := []
def oks27 : List AT := owns sig27
def P27 (x0 : ByteArray × Int × Int × Int × Unit) (x1 : ByteArray × Int × Int × Unit) (x2 : Int) : Prop := (if (Decidable.decide (x2 ≥ Prod.fst (Prod.snd x1))) = true then ((InR IntKind.i64 (x2 - Prod.fst (Prod.snd x1))) ∧ True) else True)
def g27_0 (x0 : ByteArray × Int × Int × Int × Unit) (x1 : ByteArray × Int × Int × Unit) (x2 : Int) : Bool := (if (Decidable.decide (x2 ≥ Prod.fst (Prod.snd x1))) = true then (if (Decidable.decide (x2 - Prod.fst (Prod.snd x1) < Prod.fst (Prod.snd (Prod.snd (Prod.snd x0))))) = true then Decidable.decide (Prod.fst (Prod.snd (Prod.snd x1)) < Prod.fst (Prod.snd (Prod.snd x0))) else Bool.false) else Bool.false)
theorem at27 (x0 : ByteArray × Int × Int × Int × Unit) (x1 : ByteArray × Int × Int × Unit) (x2 : Int) (h : P27 x0 x1 x2) (K : Ctx) (q : Nat → Value) : AtV Tryz.prog 27 (PostR kds27 oks27 [⟨Ty.bool, g27_0 x0 x1 x2⟩] [] [] q K) 27 K q [] [.code b27] (entE 0 0 sig27 (x0, x1, x2, ())) (entL sig27 (x0, x1, x2, ())) := by
  unfold P27 at h
  unfold g27_0
  by_cases b0 : (Decidable.decide (x2 ≥ Prod.fst (Prod.snd x1))) = true
  · try simp only [if_pos b0] at h ⊢
    obtain ⟨s0, h⟩ := h
    by_cases b1 : (Decidable.decide (x2 - Prod.fst (Prod.snd x1) < Prod.fst (Prod.snd (Prod.snd (Prod.snd x0))))) = true
    · try simp only [if_pos b1] at h ⊢
      exact AtV.ret Tryz.func27 tabOk ext27Ok mixed false [] tys27 [true, true] (a1 b0 (a1 s0 (a1 b1 trivial))) (by kernel_rfl)
    · try simp only [if_neg b1] at h ⊢
      replace b1 := Bool.eq_false_iff.2 b1
      exact AtV.ret Tryz.func27 tabOk ext27Ok mixed false [] tys27 [true, false] (a1 b0 (a1 s0 (a1 b1 trivial))) (by kernel_rfl)
  · try simp only [if_neg b0] at h ⊢
    replace b0 := Bool.eq_false_iff.2 b0
    exact AtV.ret Tryz.func27 tabOk ext27Ok mixed false [] tys27 [false, false] (a1 b0 (a1 (rfl : Bool.false = Bool.false) trivial)) (by kernel_rfl)

def S27 : Am.Spec := { sig := sig27, pre := fun ⟨x0, x1, x2, _⟩ => P27 x0 x1 x2, res := fun ⟨x0, x1, x2, _⟩ => [⟨Ty.bool, g27_0 x0 x1 x2⟩], kds := kds27 }
theorem con27 : Contract Tryz.prog 27 S27 := contract_of Tryz.func27 hb27 (Nat.le_of_ble_eq_true (by kernel_rfl)) (fun ⟨x0, x1, x2, _⟩ h _ K q => at27 x0 x1 x2 h K q)


end
end Go.Proofs.YtfpdnbojchnglaaGreatDoor

/- Function 6 (impl.UseTicket): its runs between cut points. Written by a program of this repo (gen). -/
set_option linter.unusedVariables false
set_option linter.unusedSimpArgs false
set_option maxRecDepth 100000
namespace Go.Proofs.YtfpdnbojchnglaaGreatDoor
open Go Go.Am Go.Proofs
noncomputable section
def ext6 : Ext := [(24, S24), (25, S25), (23, S23), (26, S26), (27, S27)]
theorem call6_24 : Callable Tryz.prog 24 := ⟨Tryz.f24, Tryz.func24, by kernel_rfl, by kernel_rfl⟩
theorem call6_25 : Callable Tryz.prog 25 := ⟨Tryz.f25, Tryz.func25, by kernel_rfl, by kernel_rfl⟩
theorem call6_23 : Callable Tryz.prog 23 := ⟨Tryz.f23, Tryz.func23, by kernel_rfl, by kernel_rfl⟩
theorem call6_26 : Callable Tryz.prog 26 := ⟨Tryz.f26, Tryz.func26, by kernel_rfl, by kernel_rfl⟩
theorem call6_27 : Callable Tryz.prog 27 := ⟨Tryz.f27, Tryz.func27, by kernel_rfl, by kernel_rfl⟩
theorem ext6Ok : ExtOk Tryz.prog ext6 := ⟨⟨call6_24, con24⟩, ⟨call6_25, con25⟩, ⟨call6_23, con23⟩, ⟨call6_26, con26⟩, ⟨call6_27, con27⟩, trivial⟩

noncomputable def b6 : Code := bodyOf Tryz.f6
theorem hb6 : Tryz.f6.body = some b6 := by kernel_rfl
def sig6 : List AT := [AT.v (Ty.sl (Ty.cons Ty.str (Ty.cons (Ty.int IntKind.i64) (Ty.cons (Ty.int IntKind.i64) (Ty.cons (Ty.int IntKind.i64) Ty.unit))))), AT.v (Ty.cons Ty.str (Ty.cons (Ty.int IntKind.i64) (Ty.cons (Ty.int IntKind.i64) Ty.unit))), AT.v (Ty.int IntKind.i64)]
def tys6 : List Ty := [Ty.cons Ty.str (Ty.cons (Ty.int IntKind.i64) (Ty.cons (Ty.int IntKind.i64) Ty.unit)), Ty.int IntKind.i64]
def kds6 : List RK := []
def oks6 : List AT := owns sig6
def P6 (x0 : List (ByteArray × Int × Int × Int × Unit)) (x1 : ByteArray × Int × Int × Unit) (x2 : Int) : Prop := (if (g24_0 x1) = true then ((P23 x0 (g25_0 x2) [Prod.fst x1]) ∧ (if (g23_0 x0 (g25_0 x2) [Prod.fst x1] != 0) = true then True else ((P26 x0 (Prod.fst x1)) ∧ ((P27 (g26_0 x0 (Prod.fst x1)) x1 x2) ∧ (if (!g27_0 (g26_0 x0 (Prod.fst x1)) x1 x2) = true then True else ((InR IntKind.i64 (Prod.fst (Prod.snd (Prod.snd x1)) + 1)) ∧ True)))))) else ((P23 x0 Bool.false [Prod.fst x1]) ∧ (if (g23_0 x0 Bool.false [Prod.fst x1] != 0) = true then True else ((P26 x0 (Prod.fst x1)) ∧ ((P27 (g26_0 x0 (Prod.fst x1)) x1 x2) ∧ (if (!g27_0 (g26_0 x0 (Prod.fst x1)) x1 x2) = true then True else ((InR IntKind.i64 (Prod.fst (Prod.snd (Prod.snd x1)) + 1)) ∧ True)))))))
def g6_0 (x0 : List (ByteArray × Int × Int × Int × Unit)) (x1 : ByteArray × Int × Int × Unit) (x2 : Int) : ByteArray × Int × Int × Unit := (if (g24_0 x1) = true then (if (g23_0 x0 (g25_0 x2) [Prod.fst x1] != 0) = true then (ByteArray.empty, 0, 0, ()) else (if (!g27_0 (g26_0 x0 (Prod.fst x1)) x1 x2) = true then (ByteArray.empty, 0, 0, ()) else (Prod.fst x1, Prod.fst (Prod.snd x1), Prod.fst (Prod.snd (Prod.snd x1)) + 1, ()))) else (if (g23_0 x0 Bool.false [Prod.fst x1] != 0) = true then (ByteArray.empty, 0, 0, ()) else (if (!g27_0 (g26_0 x0 (Prod.fst x1)) x1 x2) = true then (ByteArray.empty, 0, 0, ()) else (Prod.fst x1, Prod.fst (Prod.snd x1), Prod.fst (Prod.snd (Prod.snd x1)) + 1, ()))))
def g6_1 (x0 : List (ByteArray × Int × Int × Int × Unit)) (x1 : ByteArray × Int × Int × Unit) (x2 : Int) : Int := (if (g24_0 x1) = true then (if (g23_0 x0 (g25_0 x2) [Prod.fst x1] != 0) = true then g23_0 x0 (g25_0 x2) [Prod.fst x1] else (if (!g27_0 (g26_0 x0 (Prod.fst x1)) x1 x2) = true then 6 else 0)) else (if (g23_0 x0 Bool.false [Prod.fst x1] != 0) = true then g23_0 x0 Bool.false [Prod.fst x1] else (if (!g27_0 (g26_0 x0 (Prod.fst x1)) x1 x2) = true then 6 else 0)))
theorem at6 (x0 : List (ByteArray × Int × Int × Int × Unit)) (x1 : ByteArray × Int × Int × Unit) (x2 : Int) (h : P6 x0 x1 x2) (K : Ctx) (q : Nat → Value) : AtV Tryz.prog 6 (PostR kds6 oks6 [⟨Ty.cons Ty.str (Ty.cons (Ty.int IntKind.i64) (Ty.cons (Ty.int IntKind.i64) Ty.unit)), g6_0 x0 x1 x2⟩, ⟨Ty.int IntKind.i64, g6_1 x0 x1 x2⟩] [] [] q K) 44 K q [] [.code b6] (entE 0 0 sig6 (x0, x1, x2, ())) (entL sig6 (x0, x1, x2, ())) := by
  unfold P6 at h
  unfold g6_0 g6_1
  by_cases b0 : (g24_0 x1) = true
  · try simp only [if_pos b0] at h ⊢
    obtain ⟨s0, h⟩ := h
    by_cases b1 : (g23_0 x0 (g25_0 x2) [Prod.fst x1] != 0) = true
    · try simp only [if_pos b1] at h ⊢
      exact AtV.ret Tryz.func6 tabOk ext6Ok mixed false [] tys6 [true, true] (a1 trivial (a1 b0 (a1 trivial (a1 s0 (a1 b1 trivial))))) (by kernel_rfl)
    · try simp only [if_neg b1] at h ⊢
      replace b1 := Bool.eq_false_iff.2 b1
      obtain ⟨s1, h⟩ := h
      obtain ⟨s2, h⟩ := h
      by_cases b2 : (!g27_0 (g26_0 x0 (Prod.fst x1)) x1 x2) = true
      · try simp only [if_pos b2] at h ⊢
        exact AtV.ret Tryz.func6 tabOk ext6Ok mixed false [] tys6 [true, false, true] (a1 trivial (a1 b0 (a1 trivial (a1 s0 (a1 b1 (a1 s1 (a1 s2 (a1 b2 trivial)))))))) (by kernel_rfl)
      · try simp only [if_neg b2] at h ⊢
        replace b2 := Bool.eq_false_iff.2 b2
        obtain ⟨s3, h⟩ := h
        exact AtV.ret Tryz.func6 tabOk ext6Ok mixed false [] tys6 [true, false, false] (a1 trivial (a1 b0 (a1 trivial (a1 s0 (a1 b1 (a1 s1 (a1 s2 (a1 b2 (a1 s3 trivial))))))))) (by kernel_rfl)
  · try simp only [if_neg b0] at h ⊢
    replace b0 := Bool.eq_false_iff.2 b0
    obtain ⟨s0, h⟩ := h
    by_cases b1 : (g23_0 x0 Bool.false [Prod.fst x1] != 0) = true
    · try simp only [if_pos b1] at h ⊢
      exact AtV.ret Tryz.func6 tabOk ext6Ok mixed false [] tys6 [false, true] (a1 trivial (a1 b0 (a1 s0 (a1 b1 trivial)))) (by kernel_rfl)
    · try simp only [if_neg b1] at h ⊢
      replace b1 := Bool.eq_false_iff.2 b1
      obtain ⟨s1, h⟩ := h
      obtain ⟨s2, h⟩ := h
      by_cases b2 : (!g27_0 (g26_0 x0 (Prod.fst x1)) x1 x2) = true
      · try simp only [if_pos b2] at h ⊢
        exact AtV.ret Tryz.func6 tabOk ext6Ok mixed false [] tys6 [false, false, true] (a1 trivial (a1 b0 (a1 s0 (a1 b1 (a1 s1 (a1 s2 (a1 b2 trivial))))))) (by kernel_rfl)
      · try simp only [if_neg b2] at h ⊢
        replace b2 := Bool.eq_false_iff.2 b2
        obtain ⟨s3, h⟩ := h
        exact AtV.ret Tryz.func6 tabOk ext6Ok mixed false [] tys6 [false, false, false] (a1 trivial (a1 b0 (a1 s0 (a1 b1 (a1 s1 (a1 s2 (a1 b2 (a1 s3 trivial)))))))) (by kernel_rfl)

def S6 : Am.Spec := { sig := sig6, pre := fun ⟨x0, x1, x2, _⟩ => P6 x0 x1 x2, res := fun ⟨x0, x1, x2, _⟩ => [⟨Ty.cons Ty.str (Ty.cons (Ty.int IntKind.i64) (Ty.cons (Ty.int IntKind.i64) Ty.unit)), g6_0 x0 x1 x2⟩, ⟨Ty.int IntKind.i64, g6_1 x0 x1 x2⟩], kds := kds6 }
theorem con6 : Contract Tryz.prog 6 S6 := contract_of Tryz.func6 hb6 (Nat.le_of_ble_eq_true (by kernel_rfl)) (fun ⟨x0, x1, x2, _⟩ h _ K q => at6 x0 x1 x2 h K q)


end
end Go.Proofs.YtfpdnbojchnglaaGreatDoor

/- Function 7 (impl.TicketLeft): its runs between cut points. Written by a program of this repo (gen). -/
set_option linter.unusedVariables false
set_option linter.unusedSimpArgs false
set_option maxRecDepth 100000
namespace Go.Proofs.YtfpdnbojchnglaaGreatDoor
open Go Go.Am Go.Proofs
noncomputable section
def ext7 : Ext := [(24, S24), (25, S25), (23, S23), (26, S26), (27, S27)]
theorem call7_24 : Callable Tryz.prog 24 := ⟨Tryz.f24, Tryz.func24, by kernel_rfl, by kernel_rfl⟩
theorem call7_25 : Callable Tryz.prog 25 := ⟨Tryz.f25, Tryz.func25, by kernel_rfl, by kernel_rfl⟩
theorem call7_23 : Callable Tryz.prog 23 := ⟨Tryz.f23, Tryz.func23, by kernel_rfl, by kernel_rfl⟩
theorem call7_26 : Callable Tryz.prog 26 := ⟨Tryz.f26, Tryz.func26, by kernel_rfl, by kernel_rfl⟩
theorem call7_27 : Callable Tryz.prog 27 := ⟨Tryz.f27, Tryz.func27, by kernel_rfl, by kernel_rfl⟩
theorem ext7Ok : ExtOk Tryz.prog ext7 := ⟨⟨call7_24, con24⟩, ⟨call7_25, con25⟩, ⟨call7_23, con23⟩, ⟨call7_26, con26⟩, ⟨call7_27, con27⟩, trivial⟩

noncomputable def b7 : Code := bodyOf Tryz.f7
theorem hb7 : Tryz.f7.body = some b7 := by kernel_rfl
def sig7 : List AT := [AT.v (Ty.sl (Ty.cons Ty.str (Ty.cons (Ty.int IntKind.i64) (Ty.cons (Ty.int IntKind.i64) (Ty.cons (Ty.int IntKind.i64) Ty.unit))))), AT.v (Ty.cons Ty.str (Ty.cons (Ty.int IntKind.i64) (Ty.cons (Ty.int IntKind.i64) Ty.unit))), AT.v (Ty.int IntKind.i64)]
def tys7 : List Ty := [Ty.int IntKind.i64, Ty.int IntKind.i64]
def kds7 : List RK := []
def oks7 : List AT := owns sig7
def P7 (x0 : List (ByteArray × Int × Int × Int × Unit)) (x1 : ByteArray × Int × Int × Unit) (x2 : Int) : Prop := (if (g24_0 x1) = true then ((P23 x0 (g25_0 x2) [Prod.fst x1]) ∧ (if (g23_0 x0 (g25_0 x2) [Prod.fst x1] != 0) = true then True else ((P26 x0 (Prod.fst x1)) ∧ ((P27 (g26_0 x0 (Prod.fst x1)) x1 x2) ∧ (if (!g27_0 (g26_0 x0 (Prod.fst x1)) x1 x2) = true then True else ((InR IntKind.i64 (Prod.fst (Prod.snd (Prod.snd (g26_0 x0 (Prod.fst x1)))) - Prod.fst (Prod.snd (Prod.snd x1)))) ∧ True)))))) else ((P23 x0 Bool.false [Prod.fst x1]) ∧ (if (g23_0 x0 Bool.false [Prod.fst x1] != 0) = true then True else ((P26 x0 (Prod.fst x1)) ∧ ((P27 (g26_0 x0 (Prod.fst x1)) x1 x2) ∧ (if (!g27_0 (g26_0 x0 (Prod.fst x1)) x1 x2) = true then True else ((InR IntKind.i64 (Prod.fst (Prod.snd (Prod.snd (g26_0 x0 (Prod.fst x1)))) - Prod.fst (Prod.snd (Prod.snd x1)))) ∧ True)))))))
def g7_0 (x0 : List (ByteArray × Int × Int × Int × Unit)) (x1 : ByteArray × Int × Int × Unit) (x2 : Int) : Int := (if (g24_0 x1) = true then (if (g23_0 x0 (g25_0 x2) [Prod.fst x1] != 0) = true then 0 else (if (!g27_0 (g26_0 x0 (Prod.fst x1)) x1 x2) = true then 0 else Prod.fst (Prod.snd (Prod.snd (g26_0 x0 (Prod.fst x1)))) - Prod.fst (Prod.snd (Prod.snd x1)))) else (if (g23_0 x0 Bool.false [Prod.fst x1] != 0) = true then 0 else (if (!g27_0 (g26_0 x0 (Prod.fst x1)) x1 x2) = true then 0 else Prod.fst (Prod.snd (Prod.snd (g26_0 x0 (Prod.fst x1)))) - Prod.fst (Prod.snd (Prod.snd x1)))))
def g7_1 (x0 : List (ByteArray × Int × Int × Int × Unit)) (x1 : ByteArray × Int × Int × Unit) (x2 : Int) : Int := (if (g24_0 x1) = true then (if (g23_0 x0 (g25_0 x2) [Prod.fst x1] != 0) = true then g23_0 x0 (g25_0 x2) [Prod.fst x1] else (if (!g27_0 (g26_0 x0 (Prod.fst x1)) x1 x2) = true then 0 else 0)) else (if (g23_0 x0 Bool.false [Prod.fst x1] != 0) = true then g23_0 x0 Bool.false [Prod.fst x1] else (if (!g27_0 (g26_0 x0 (Prod.fst x1)) x1 x2) = true then 0 else 0)))
theorem at7 (x0 : List (ByteArray × Int × Int × Int × Unit)) (x1 : ByteArray × Int × Int × Unit) (x2 : Int) (h : P7 x0 x1 x2) (K : Ctx) (q : Nat → Value) : AtV Tryz.prog 7 (PostR kds7 oks7 [⟨Ty.int IntKind.i64, g7_0 x0 x1 x2⟩, ⟨Ty.int IntKind.i64, g7_1 x0 x1 x2⟩] [] [] q K) 42 K q [] [.code b7] (entE 0 0 sig7 (x0, x1, x2, ())) (entL sig7 (x0, x1, x2, ())) := by
  unfold P7 at h
  unfold g7_0 g7_1
  by_cases b0 : (g24_0 x1) = true
  · try simp only [if_pos b0] at h ⊢
    obtain ⟨s0, h⟩ := h
    by_cases b1 : (g23_0 x0 (g25_0 x2) [Prod.fst x1] != 0) = true
    · try simp only [if_pos b1] at h ⊢
      exact AtV.ret Tryz.func7 tabOk ext7Ok mixed false [] tys7 [true, true] (a1 trivial (a1 b0 (a1 trivial (a1 s0 (a1 b1 trivial))))) (by kernel_rfl)
    · try simp only [if_neg b1] at h ⊢
      replace b1 := Bool.eq_false_iff.2 b1
      obtain ⟨s1, h⟩ := h
      obtain ⟨s2, h⟩ := h
      by_cases b2 : (!g27_0 (g26_0 x0 (Prod.fst x1)) x1 x2) = true
      · try simp only [if_pos b2] at h ⊢
        exact AtV.ret Tryz.func7 tabOk ext7Ok mixed false [] tys7 [true, false, true] (a1 trivial (a1 b0 (a1 trivial (a1 s0 (a1 b1 (a1 s1 (a1 s2 (a1 b2 trivial)))))))) (by kernel_rfl)
      · try simp only [if_neg b2] at h ⊢
        replace b2 := Bool.eq_false_iff.2 b2
        obtain ⟨s3, h⟩ := h
        exact AtV.ret Tryz.func7 tabOk ext7Ok mixed false [] tys7 [true, false, false] (a1 trivial (a1 b0 (a1 trivial (a1 s0 (a1 b1 (a1 s1 (a1 s2 (a1 b2 (a1 s3 trivial))))))))) (by kernel_rfl)
  · try simp only [if_neg b0] at h ⊢
    replace b0 := Bool.eq_false_iff.2 b0
    obtain ⟨s0, h⟩ := h
    by_cases b1 : (g23_0 x0 Bool.false [Prod.fst x1] != 0) = true
    · try simp only [if_pos b1] at h ⊢
      exact AtV.ret Tryz.func7 tabOk ext7Ok mixed false [] tys7 [false, true] (a1 trivial (a1 b0 (a1 s0 (a1 b1 trivial)))) (by kernel_rfl)
    · try simp only [if_neg b1] at h ⊢
      replace b1 := Bool.eq_false_iff.2 b1
      obtain ⟨s1, h⟩ := h
      obtain ⟨s2, h⟩ := h
      by_cases b2 : (!g27_0 (g26_0 x0 (Prod.fst x1)) x1 x2) = true
      · try simp only [if_pos b2] at h ⊢
        exact AtV.ret Tryz.func7 tabOk ext7Ok mixed false [] tys7 [false, false, true] (a1 trivial (a1 b0 (a1 s0 (a1 b1 (a1 s1 (a1 s2 (a1 b2 trivial))))))) (by kernel_rfl)
      · try simp only [if_neg b2] at h ⊢
        replace b2 := Bool.eq_false_iff.2 b2
        obtain ⟨s3, h⟩ := h
        exact AtV.ret Tryz.func7 tabOk ext7Ok mixed false [] tys7 [false, false, false] (a1 trivial (a1 b0 (a1 s0 (a1 b1 (a1 s1 (a1 s2 (a1 b2 (a1 s3 trivial)))))))) (by kernel_rfl)

def S7 : Am.Spec := { sig := sig7, pre := fun ⟨x0, x1, x2, _⟩ => P7 x0 x1 x2, res := fun ⟨x0, x1, x2, _⟩ => [⟨Ty.int IntKind.i64, g7_0 x0 x1 x2⟩, ⟨Ty.int IntKind.i64, g7_1 x0 x1 x2⟩], kds := kds7 }
theorem con7 : Contract Tryz.prog 7 S7 := contract_of Tryz.func7 hb7 (Nat.le_of_ble_eq_true (by kernel_rfl)) (fun ⟨x0, x1, x2, _⟩ h _ K q => at7 x0 x1 x2 h K q)


end
end Go.Proofs.YtfpdnbojchnglaaGreatDoor

/- Function 66 (impl.monthLength): its runs between cut points. Written by a program of this repo (gen). -/
set_option linter.unusedVariables false
set_option linter.unusedSimpArgs false
set_option maxRecDepth 100000
namespace Go.Proofs.YtfpdnbojchnglaaGreatDoor
open Go Go.Am Go.Proofs
noncomputable section
def ext66 : Ext := []
theorem ext66Ok : ExtOk Tryz.prog ext66 := trivial

noncomputable def b66 : Code := bodyOf Tryz.f66
theorem hb66 : Tryz.f66.body = some b66 := by kernel_rfl
def sig66 : List AT := [AT.v (Ty.int IntKind.i64), AT.v (Ty.int IntKind.i64)]
def tys66 : List Ty := [Ty.int IntKind.i64]
def kds66 : List RK := []
def oks66 : List AT := owns sig66
def P66 (x0 : Int) (x1 : Int) : Prop := (if (x1 == 2) = true then ((InR IntKind.i64 (Int.tmod x0 4)) ∧ True) else True)
def g66_0 (x0 : Int) (x1 : Int) : Int := (if (x1 == 2) = true then (if (Int.tmod x0 4 == 0) = true then 29 else 28) else (if (x1 == 4) = true then 30 else (if (x1 == 6) = true then 30 else (if (x1 == 9) = true then 30 else (if (x1 == 11) = true then 30 else 31)))))
theorem at66 (x0 : Int) (x1 : Int) (h : P66 x0 x1) (K : Ctx) (q : Nat → Value) : AtV Tryz.prog 66 (PostR kds66 oks66 [⟨Ty.int IntKind.i64, g66_0 x0 x1⟩] [] [] q K) 16 K q [] [.code b66] (entE 0 0 sig66 (x0, x1, ())) (entL sig66 (x0, x1, ())) := by
  unfold P66 at h
  unfold g66_0
  by_cases b0 : (x1 == 2) = true
  · try simp only [if_pos b0] at h ⊢
    obtain ⟨s0, h⟩ := h
    by_cases b1 : (Int.tmod x0 4 == 0) = true
    · try simp only [if_pos b1] at h ⊢
      exact AtV.ret Tryz.func66 tabOk ext66Ok mixed false [] tys66 [true, true] (a1 b0 (a1 ((by decide) : (4 : Int) ≠ (0 : Int)) (a1 s0 (a1 b1 trivial)))) (by kernel_rfl)
    · try simp only [if_neg b1] at h ⊢
      replace b1 := Bool.eq_false_iff.2 b1
      exact AtV.ret Tryz.func66 tabOk ext66Ok mixed false [] tys66 [true, false] (a1 b0 (a1 ((by decide) : (4 : Int) ≠ (0 : Int)) (a1 s0 (a1 b1 trivial)))) (by kernel_rfl)
  · try simp only [if_neg b0] at h ⊢
    replace b0 := Bool.eq_false_iff.2 b0
    by_cases b1 : (x1 == 4) = true
    · try simp only [if_pos b1] at h ⊢
      exact AtV.ret Tryz.func66 tabOk ext66Ok mixed false [] tys66 [false, true] (a1 b0 (a1 b1 trivial)) (by kernel_rfl)
    · try simp only [if_neg b1] at h ⊢
      replace b1 := Bool.eq_false_iff.2 b1
      by_cases b2 : (x1 == 6) = true
      · try simp only [if_pos b2] at h ⊢
        exact AtV.ret Tryz.func66 tabOk ext66Ok mixed false [] tys66 [false, false, true] (a1 b0 (a1 b1 (a1 b2 trivial))) (by kernel_rfl)
      · try simp only [if_neg b2] at h ⊢
        replace b2 := Bool.eq_false_iff.2 b2
        by_cases b3 : (x1 == 9) = true
        · try simp only [if_pos b3] at h ⊢
          exact AtV.ret Tryz.func66 tabOk ext66Ok mixed false [] tys66 [false, false, false, true] (a1 b0 (a1 b1 (a1 b2 (a1 b3 trivial)))) (by kernel_rfl)
        · try simp only [if_neg b3] at h ⊢
          replace b3 := Bool.eq_false_iff.2 b3
          by_cases b4 : (x1 == 11) = true
          · try simp only [if_pos b4] at h ⊢
            exact AtV.ret Tryz.func66 tabOk ext66Ok mixed false [] tys66 [false, false, false, false, true] (a1 b0 (a1 b1 (a1 b2 (a1 b3 (a1 b4 trivial))))) (by kernel_rfl)
          · try simp only [if_neg b4] at h ⊢
            replace b4 := Bool.eq_false_iff.2 b4
            exact AtV.ret Tryz.func66 tabOk ext66Ok mixed false [] tys66 [false, false, false, false, false] (a1 b0 (a1 b1 (a1 b2 (a1 b3 (a1 b4 trivial))))) (by kernel_rfl)

def S66 : Am.Spec := { sig := sig66, pre := fun ⟨x0, x1, _⟩ => P66 x0 x1, res := fun ⟨x0, x1, _⟩ => [⟨Ty.int IntKind.i64, g66_0 x0 x1⟩], kds := kds66 }
theorem con66 : Contract Tryz.prog 66 S66 := contract_of Tryz.func66 hb66 (Nat.le_of_ble_eq_true (by kernel_rfl)) (fun ⟨x0, x1, _⟩ h _ K q => at66 x0 x1 h K q)


end
end Go.Proofs.YtfpdnbojchnglaaGreatDoor

/- Function 67 (impl.dayOf): its runs between cut points. Written by a program of this repo (gen). -/
set_option linter.unusedVariables false
set_option linter.unusedSimpArgs false
set_option maxRecDepth 100000
namespace Go.Proofs.YtfpdnbojchnglaaGreatDoor
open Go Go.Am Go.Proofs
noncomputable section
def ext67 : Ext := [(66, S66)]
theorem call67_66 : Callable Tryz.prog 66 := ⟨Tryz.f66, Tryz.func66, by kernel_rfl, by kernel_rfl⟩
theorem ext67Ok : ExtOk Tryz.prog ext67 := ⟨⟨call67_66, con66⟩, trivial⟩

noncomputable def b67 : Code := bodyOf Tryz.f67
theorem hb67 : Tryz.f67.body = some b67 := by kernel_rfl
def sig67 : List AT := [AT.v (Ty.int IntKind.i64), AT.v (Ty.int IntKind.i64), AT.v (Ty.int IntKind.i64)]
def tys67 : List Ty := [Ty.int IntKind.i64]
def kds67 : List RK := []
def oks67 : List AT := owns sig67
def E67_3 (v7 : Int) (v8 : Int) (x0 : Int) (x1 : Int) : Env := [(0, PV.a (Atom.val (Value.int IntKind.i64 x0))), (1, PV.a (Atom.val (Value.int IntKind.i64 x1))), (7, PV.a (Atom.val (Value.int IntKind.i64 v7))), (8, PV.a (Atom.val (Value.int IntKind.i64 v8)))]
def L67_3 (v7 : Int) (v8 : Int) (x0 : Int) (x1 : Int) : Heap := []
mutual
def R67 : Nat → Int → Int → Int → List Dyn → Prop
  | 0, _, _, _, _ => False
  | n + 1, x0, x1, x2, ds => ((InR IntKind.i64 (x0 - 2000)) ∧ ((InR IntKind.i64 ((x0 - 2000) * 365)) ∧ ((InR IntKind.i64 (x0 - 1997)) ∧ ((InR IntKind.i64 (Int.tdiv (x0 - 1997) 4)) ∧ ((InR IntKind.i64 ((x0 - 2000) * 365 + Int.tdiv (x0 - 1997) 4)) ∧ ((InR IntKind.i64 ((x0 - 2000) * 365 + Int.tdiv (x0 - 1997) 4 + x2)) ∧ ((InR IntKind.i64 ((x0 - 2000) * 365 + Int.tdiv (x0 - 1997) 4 + x2 - 1)) ∧ (R67_3 n ((x0 - 2000) * 365 + Int.tdiv (x0 - 1997) 4 + x2 - 1) (1) (x0) (x1) ds))))))))
def R67_3 : Nat → Int → Int → Int → Int → List Dyn → Prop
  | 0, _, _, _, _, _ => False
  | n + 1, v7, v8, x0, x1, ds => (if (Decidable.decide (v8 < x1)) = true then ((P66 x0 v8) ∧ ((InR IntKind.i64 (v7 + g66_0 x0 v8)) ∧ ((InR IntKind.i64 (v8 + 1)) ∧ (R67_3 n (v7 + g66_0 x0 v8) (v8 + 1) (x0) (x1) ds)))) else (ds = [Dyn.mk (Ty.int IntKind.i64) v7]))
end
theorem snd67 : ∀ n, (∀ (x0 : Int) (x1 : Int) (x2 : Int) ds, R67 n x0 x1 x2 ds → ∀ K q, AtV Tryz.prog 67 (PostR kds67 oks67 ds [] [] q K) 30 K q [] [.code b67] (entE 0 0 sig67 (x0, x1, x2, ())) (entL sig67 (x0, x1, x2, ()))) ∧ (∀ (v7 : Int) (v8 : Int) (x0 : Int) (x1 : Int) ds, R67_3 n v7 v8 x0 x1 ds → ∀ K q, AtV Tryz.prog 67 (PostR kds67 oks67 ds [] [] q K) 30 K q [] (cutAt b67 3) (E67_3 v7 v8 x0 x1) (L67_3 v7 v8 x0 x1)) := by
  intro n
  induction n with
  | zero => exact ⟨fun _ _ _ _ h => by simp only [R67] at h, fun _ _ _ _ _ h => by simp only [R67_3] at h⟩
  | succ n ih =>
  obtain ⟨ih, ih3⟩ := ih
  refine ⟨?_, ?_⟩
  · intro x0 x1 x2 ds h K q
    rw [R67] at h
    obtain ⟨s0, h⟩ := h
    obtain ⟨s1, h⟩ := h
    obtain ⟨s2, h⟩ := h
    obtain ⟨s3, h⟩ := h
    obtain ⟨s4, h⟩ := h
    obtain ⟨s5, h⟩ := h
    obtain ⟨s6, h⟩ := h
    exact AtV.go tabOk ext67Ok mixed false [] [] [0, 1, 7, 8] [] [] (a1 s0 (a1 s1 (a1 s2 (a1 ((by decide) : (4 : Int) ≠ (0 : Int)) (a1 s3 (a1 s4 (a1 s5 (a1 s6 trivial)))))))) (ih3 _ _ _ _ _ h K q) (by kernel_rfl)

  · intro v7 v8 x0 x1 ds h K q
    rw [R67_3] at h
    by_cases b0 : (Decidable.decide (v8 < x1)) = true
    · rw [if_pos b0] at h
      obtain ⟨s0, h⟩ := h
      obtain ⟨s1, h⟩ := h
      obtain ⟨s2, h⟩ := h
      exact AtV.go tabOk ext67Ok mixed false [] [] [0, 1, 7, 8] [] [true] (a1 b0 (a1 s0 (a1 s1 (a1 s2 trivial)))) (ih3 _ _ _ _ _ h K q) (by kernel_rfl)
    · rw [if_neg b0] at h
      replace b0 := Bool.eq_false_iff.2 b0
      subst h
      exact AtV.ret Tryz.func67 tabOk ext67Ok mixed false [] tys67 [false] (a1 b0 trivial) (by kernel_rfl)



def ms67 (y : Int) : Nat → Int
  | 0 => 0
  | k + 1 => ms67 y k + g66_0 y ((k : Int) + 1)
def bs67 (y d : Int) : Int := (y - 2000) * 365 + Int.tdiv (y - 1997) 4 + d - 1
def g67_0 (x0 x1 x2 : Int) : Int := bs67 x0 x2 + ms67 x0 (x1 - 1).toNat
def P67 (x0 x1 x2 : Int) : Prop := (2000 ≤ x0 ∧ x0 ≤ 2099) ∧ (1 ≤ x1 ∧ x1 ≤ 12) ∧ (1 ≤ x2 ∧ x2 ≤ 31)

theorem len67 {y m : Int} (hy : 2000 ≤ y ∧ y ≤ 2099) : P66 y m ∧ 28 ≤ g66_0 y m ∧ g66_0 y m ≤ 31 := by
  have e : Int.tmod y 4 = y % 4 := Int.tmod_eq_emod_of_nonneg (by omega)
  unfold P66 g66_0
  rw [e]
  have hi : InR .i64 (y % 4) := by rw [i64_iff]; omega
  refine ⟨?_, ?_, ?_⟩
  · split
    · exact ⟨hi, trivial⟩
    · trivial
  · repeat' split
    all_goals omega
  · repeat' split
    all_goals omega

theorem msb67 {y : Int} (hy : 2000 ≤ y ∧ y ≤ 2099) : ∀ k, 0 ≤ ms67 y k ∧ ms67 y k ≤ 31 * k
  | 0 => by simp [ms67]
  | k + 1 => by
    have := msb67 hy k
    have := len67 hy (m := (k : Int) + 1)
    simp only [ms67]
    omega

theorem runM67 {y m : Int} (hy : 2000 ≤ y ∧ y ≤ 2099) (hm : 1 ≤ m ∧ m ≤ 12) (v : Int) (hv : 0 ≤ v ∧ v ≤ 1000000) : ∀ (k i : Nat), (i : Int) + k = m - 1 →
    R67_3 (k + 1) (v + ms67 y i) ((i : Int) + 1) y m [⟨.int .i64, v + ms67 y (m - 1).toNat⟩] := by
  intro k
  induction k with
  | zero =>
    intro i hi
    rw [R67_3, if_neg (by simp; omega), show (m - 1).toNat = i by omega]
  | succ k ih =>
    intro i hi
    obtain ⟨p, l1, l2⟩ := len67 hy (m := (i : Int) + 1)
    obtain ⟨b1, b2⟩ := msb67 hy i
    rw [R67_3, if_pos (by simp; omega)]
    have e1 : v + ms67 y i + g66_0 y ((i : Int) + 1) = v + ms67 y (i + 1) := by simp only [ms67]; omega
    have e2 : (i : Int) + 1 + 1 = ((i + 1 : Nat) : Int) + 1 := by omega
    refine ⟨p, by rw [i64_iff]; omega, by rw [i64_iff]; omega, ?_⟩
    rw [e1, e2]
    exact ih (i + 1) (by omega)

theorem top67 (x0 x1 x2 : Int) (h : P67 x0 x1 x2) : R67 ((x1 - 1).toNat + 1 + 1) x0 x1 x2 [⟨.int .i64, g67_0 x0 x1 x2⟩] := by
  obtain ⟨h0, h1, h2⟩ := h
  have e : Int.tdiv (x0 - 1997) 4 = (x0 - 1997) / 4 := Int.tdiv_eq_ediv_of_nonneg (by omega)
  rw [R67]
  have := runM67 h0 h1 (bs67 x0 x2) (by unfold bs67; rw [e]; omega) (x1 - 1).toNat 0 (by omega)
  refine ⟨by rw [i64_iff]; omega, by rw [i64_iff]; omega, by rw [i64_iff]; omega, by rw [i64_iff, e]; omega, by rw [i64_iff, e]; omega, by rw [i64_iff, e]; omega, by rw [i64_iff, e]; omega, ?_⟩
  simpa [ms67, g67_0, bs67] using this

def S67 : Am.Spec := { sig := sig67, pre := fun ⟨x0, x1, x2, _⟩ => P67 x0 x1 x2, res := fun ⟨x0, x1, x2, _⟩ => [⟨.int .i64, g67_0 x0 x1 x2⟩] }
theorem con67 : Contract Tryz.prog 67 S67 := contract_of Tryz.func67 hb67 (Nat.le_of_ble_eq_true (by kernel_rfl)) (fun ⟨x0, x1, x2, _⟩ h hwf K q =>
  (snd67 _).1 x0 x1 x2 _ (top67 x0 x1 x2 h) K q)

end
end Go.Proofs.YtfpdnbojchnglaaGreatDoor

/- Function 57 (impl.dateOf): its runs between cut points. Written by a program of this repo (gen). -/
set_option linter.unusedVariables false
set_option linter.unusedSimpArgs false
set_option maxRecDepth 100000
namespace Go.Proofs.YtfpdnbojchnglaaGreatDoor
open Go Go.Am Go.Proofs
noncomputable section
def ext57 : Ext := [(67, S67)]
theorem call57_67 : Callable Tryz.prog 67 := ⟨Tryz.f67, Tryz.func67, by kernel_rfl, by kernel_rfl⟩
theorem ext57Ok : ExtOk Tryz.prog ext57 := ⟨⟨call57_67, con67⟩, trivial⟩

noncomputable def b57 : Code := bodyOf Tryz.f57
theorem hb57 : Tryz.f57.body = some b57 := by kernel_rfl
def sig57 : List AT := [AT.v (Ty.int IntKind.i64)]
def tys57 : List Ty := [Ty.int IntKind.i64, Ty.int IntKind.i64, Ty.int IntKind.i64]
def kds57 : List RK := []
def oks57 : List AT := owns sig57
def E57_2 (v5 : Int) (x0 : Int) : Env := [(0, PV.a (Atom.val (Value.int IntKind.i64 x0))), (5, PV.a (Atom.val (Value.int IntKind.i64 v5))), (6, PV.a (Atom.val (Value.int IntKind.i64 1)))]
def L57_2 (v5 : Int) (x0 : Int) : Heap := []
def E57_4 (v6 : Int) (x0 : Int) (v5 : Int) : Env := [(0, PV.a (Atom.val (Value.int IntKind.i64 x0))), (5, PV.a (Atom.val (Value.int IntKind.i64 v5))), (6, PV.a (Atom.val (Value.int IntKind.i64 v6)))]
def L57_4 (v6 : Int) (x0 : Int) (v5 : Int) : Heap := []
mutual
def R57 : Nat → Int → List Dyn → Prop
  | 0, _, _ => False
  | n + 1, x0, ds => (R57_2 n (2000) (x0) ds)
def R57_2 : Nat → Int → Int → List Dyn → Prop
  | 0, _, _, _ => False
  | n + 1, v5, x0, ds => (if (Decidable.decide (v5 < 2099)) = true then ((InR IntKind.i64 (v5 + 1)) ∧ ((P67 (v5 + 1) 1 1) ∧ (if (Decidable.decide (g67_0 (v5 + 1) 1 1 ≤ x0)) = true then ((InR IntKind.i64 (v5 + 1)) ∧ (R57_2 n (v5 + 1) (x0) ds)) else (R57_4 n (1) (x0) (v5) ds)))) else (R57_4 n (1) (x0) (v5) ds))
def R57_4 : Nat → Int → Int → Int → List Dyn → Prop
  | 0, _, _, _, _ => False
  | n + 1, v6, x0, v5, ds => (if (Decidable.decide (v6 < 12)) = true then ((InR IntKind.i64 (v6 + 1)) ∧ ((P67 v5 (v6 + 1) 1) ∧ (if (Decidable.decide (g67_0 v5 (v6 + 1) 1 ≤ x0)) = true then ((InR IntKind.i64 (v6 + 1)) ∧ (R57_4 n (v6 + 1) (x0) (v5) ds)) else ((P67 v5 v6 1) ∧ ((InR IntKind.i64 (x0 - g67_0 v5 v6 1)) ∧ ((InR IntKind.i64 (x0 - g67_0 v5 v6 1 + 1)) ∧ (ds = [Dyn.mk (Ty.int IntKind.i64) v5, Dyn.mk (Ty.int IntKind.i64) v6, Dyn.mk (Ty.int IntKind.i64) (x0 - g67_0 v5 v6 1 + 1)]))))))) else ((P67 v5 v6 1) ∧ ((InR IntKind.i64 (x0 - g67_0 v5 v6 1)) ∧ ((InR IntKind.i64 (x0 - g67_0 v5 v6 1 + 1)) ∧ (ds = [Dyn.mk (Ty.int IntKind.i64) v5, Dyn.mk (Ty.int IntKind.i64) v6, Dyn.mk (Ty.int IntKind.i64) (x0 - g67_0 v5 v6 1 + 1)])))))
end
theorem snd57 : ∀ n, (∀ (x0 : Int) ds, R57 n x0 ds → ∀ K q, AtV Tryz.prog 57 (PostR kds57 oks57 ds [] [] q K) 38 K q [] [.code b57] (entE 0 0 sig57 (x0, ())) (entL sig57 (x0, ()))) ∧ (∀ (v5 : Int) (x0 : Int) ds, R57_2 n v5 x0 ds → ∀ K q, AtV Tryz.prog 57 (PostR kds57 oks57 ds [] [] q K) 38 K q [] (cutAt b57 2) (E57_2 v5 x0) (L57_2 v5 x0)) ∧ (∀ (v6 : Int) (x0 : Int) (v5 : Int) ds, R57_4 n v6 x0 v5 ds → ∀ K q, AtV Tryz.prog 57 (PostR kds57 oks57 ds [] [] q K) 38 K q [] (cutAt b57 4) (E57_4 v6 x0 v5) (L57_4 v6 x0 v5)) := by
  intro n
  induction n with
  | zero => exact ⟨fun _ _ h => by simp only [R57] at h, fun _ _ _ h => by simp only [R57_2] at h, fun _ _ _ _ h => by simp only [R57_4] at h⟩
  | succ n ih =>
  obtain ⟨ih, ih2, ih4⟩ := ih
  refine ⟨?_, ?_, ?_⟩
  · intro x0 ds h K q
    rw [R57] at h
    exact AtV.go tabOk ext57Ok mixed false [] [] [0, 5, 6] [] [] trivial (ih2 _ _ _ h K q) (by kernel_rfl)

  · intro v5 x0 ds h K q
    rw [R57_2] at h
    by_cases b0 : (Decidable.decide (v5 < 2099)) = true
    · rw [if_pos b0] at h
      obtain ⟨s0, h⟩ := h
      obtain ⟨s1, h⟩ := h
      by_cases b1 : (Decidable.decide (g67_0 (v5 + 1) 1 1 ≤ x0)) = true
      · rw [if_pos b1] at h
        obtain ⟨s2, h⟩ := h
        exact AtV.go tabOk ext57Ok mixed false [] [] [0, 5, 6] [] [true, true] (a1 b0 (a1 s0 (a1 s1 (a1 b1 (a1 s2 trivial))))) (ih2 _ _ _ h K q) (by kernel_rfl)
      · rw [if_neg b1] at h
        replace b1 := Bool.eq_false_iff.2 b1
        exact AtV.go tabOk ext57Ok mixed false [] [] [0, 5, 6] [] [true, false] (a1 b0 (a1 s0 (a1 s1 (a1 b1 trivial)))) (ih4 _ _ _ _ h K q) (by kernel_rfl)
    · rw [if_neg b0] at h
      replace b0 := Bool.eq_false_iff.2 b0
      exact AtV.go tabOk ext57Ok mixed false [] [] [0, 5, 6] [] [false, false] (a1 b0 (a1 (rfl : Bool.false = Bool.false) trivial)) (ih4 _ _ _ _ h K q) (by kernel_rfl)

  · intro v6 x0 v5 ds h K q
    rw [R57_4] at h
    by_cases b0 : (Decidable.decide (v6 < 12)) = true
    · rw [if_pos b0] at h
      obtain ⟨s0, h⟩ := h
      obtain ⟨s1, h⟩ := h
      by_cases b1 : (Decidable.decide (g67_0 v5 (v6 + 1) 1 ≤ x0)) = true
      · rw [if_pos b1] at h
        obtain ⟨s2, h⟩ := h
        exact AtV.go tabOk ext57Ok mixed false [] [] [0, 5, 6] [] [true, true] (a1 b0 (a1 s0 (a1 s1 (a1 b1 (a1 s2 trivial))))) (ih4 _ _ _ _ h K q) (by kernel_rfl)
      · rw [if_neg b1] at h
        replace b1 := Bool.eq_false_iff.2 b1
        obtain ⟨s2, h⟩ := h
        obtain ⟨s3, h⟩ := h
        obtain ⟨s4, h⟩ := h
        subst h
        exact AtV.ret Tryz.func57 tabOk ext57Ok mixed false [] tys57 [true, false] (a1 b0 (a1 s0 (a1 s1 (a1 b1 (a1 s2 (a1 s3 (a1 s4 trivial))))))) (by kernel_rfl)
    · rw [if_neg b0] at h
      replace b0 := Bool.eq_false_iff.2 b0
      obtain ⟨s0, h⟩ := h
      obtain ⟨s1, h⟩ := h
      obtain ⟨s2, h⟩ := h
      subst h
      exact AtV.ret Tryz.func57 tabOk ext57Ok mixed false [] tys57 [false, false] (a1 b0 (a1 (rfl : Bool.false = Bool.false) (a1 s0 (a1 s1 (a1 s2 trivial))))) (by kernel_rfl)



def yr57 (day : Int) : Nat → Int → Int
  | 0, y => y
  | k + 1, y => if g67_0 (y + 1) 1 1 ≤ day then yr57 day k (y + 1) else y
def mo57 (day y : Int) : Nat → Int → Int
  | 0, m => m
  | k + 1, m => if g67_0 y (m + 1) 1 ≤ day then mo57 day y k (m + 1) else m
def g57_0 (x0 : Int) : Int := yr57 x0 99 2000
def g57_1 (x0 : Int) : Int := mo57 x0 (g57_0 x0) 11 1
def g57_2 (x0 : Int) : Int := x0 - g67_0 (g57_0 x0) (g57_1 x0) 1 + 1
def P57 (x0 : Int) : Prop := 0 ≤ x0 ∧ x0 ≤ 1000000

theorem day57 {y m : Int} (hy : 2000 ≤ y ∧ y ≤ 2099) (hm : 1 ≤ m ∧ m ≤ 12) : P67 y m 1 ∧ 0 ≤ g67_0 y m 1 ∧ g67_0 y m 1 ≤ 1000000 := by
  have e : Int.tdiv (y - 1997) 4 = (y - 1997) / 4 := Int.tdiv_eq_ediv_of_nonneg (by omega)
  have := msb67 hy (m - 1).toNat
  refine ⟨⟨hy, hm, by omega⟩, ?_, ?_⟩ <;> unfold g67_0 bs67 <;> rw [e] <;> omega

theorem runM57 {y day : Int} (hy : 2000 ≤ y ∧ y ≤ 2099) (hd : 0 ≤ day ∧ day ≤ 1000000) (e : Nat) : ∀ (k : Nat) (m : Int), m + k = 12 → 1 ≤ m →
    R57_4 (k + 1 + e) m day y [⟨.int .i64, y⟩, ⟨.int .i64, mo57 day y k m⟩, ⟨.int .i64, day - g67_0 y (mo57 day y k m) 1 + 1⟩] := by
  intro k
  induction k with
  | zero =>
    intro m hm h1
    obtain ⟨p, b1, b2⟩ := day57 hy (m := m) (by omega)
    rw [show 0 + 1 + e = e + 1 by omega, R57_4, if_neg (by simp; omega)]
    exact ⟨p, by rw [i64_iff]; omega, by rw [i64_iff]; omega, rfl⟩
  | succ k ih =>
    intro m hm h1
    obtain ⟨p, b1, b2⟩ := day57 hy (m := m) (by omega)
    obtain ⟨q, c1, c2⟩ := day57 hy (m := m + 1) (by omega)
    rw [show k + 1 + 1 + e = (k + 1 + e) + 1 by omega, R57_4, if_pos (by simp; omega)]
    refine ⟨by rw [i64_iff]; omega, q, ?_⟩
    unfold mo57
    by_cases hc : g67_0 y (m + 1) 1 ≤ day
    · rw [if_pos (by simpa using hc), if_pos hc]
      exact ⟨by rw [i64_iff]; omega, ih (m + 1) (by omega) (by omega)⟩
    · rw [if_neg (by simpa using hc), if_neg hc]
      exact ⟨p, by rw [i64_iff]; omega, by rw [i64_iff]; omega, rfl⟩

theorem runY57 {day : Int} (hd : 0 ≤ day ∧ day ≤ 1000000) : ∀ (k : Nat) (y : Int), y + k = 2099 → 2000 ≤ y →
    R57_2 (k + 1 + 12) y day [⟨.int .i64, yr57 day k y⟩, ⟨.int .i64, mo57 day (yr57 day k y) 11 1⟩, ⟨.int .i64, day - g67_0 (yr57 day k y) (mo57 day (yr57 day k y) 11 1) 1 + 1⟩] := by
  intro k
  induction k with
  | zero =>
    intro y hy h1
    rw [show 0 + 1 + 12 = (11 + 1 + 0) + 1 by omega, R57_2, if_neg (by simp; omega)]
    exact runM57 (by omega) hd 0 11 1 (by omega) (by omega)
  | succ k ih =>
    intro y hy h1
    obtain ⟨q, c1, c2⟩ := day57 (y := y + 1) (m := 1) (by omega) (by omega)
    rw [show k + 1 + 1 + 12 = (k + 1 + 12) + 1 by omega, R57_2, if_pos (by simp; omega)]
    refine ⟨by rw [i64_iff]; omega, q, ?_⟩
    unfold yr57
    by_cases hc : g67_0 (y + 1) 1 1 ≤ day
    · rw [if_pos (by simpa using hc), if_pos hc]
      exact ⟨by rw [i64_iff]; omega, ih (y + 1) (by omega) (by omega)⟩
    · rw [if_neg (by simpa using hc), if_neg hc, show k + 1 + 12 = 11 + 1 + (k + 1) by omega]
      exact runM57 (by omega) hd (k + 1) 11 1 (by omega) (by omega)

theorem top57 (x0 : Int) (h : P57 x0) : R57 (99 + 1 + 12 + 1) x0 [⟨.int .i64, g57_0 x0⟩, ⟨.int .i64, g57_1 x0⟩, ⟨.int .i64, g57_2 x0⟩] := by
  rw [R57]
  exact runY57 h 99 2000 (by omega) (by omega)

def S57 : Am.Spec := { sig := sig57, pre := fun ⟨x0, _⟩ => P57 x0, res := fun ⟨x0, _⟩ => [⟨.int .i64, g57_0 x0⟩, ⟨.int .i64, g57_1 x0⟩, ⟨.int .i64, g57_2 x0⟩] }
theorem con57 : Contract Tryz.prog 57 S57 := contract_of Tryz.func57 hb57 (Nat.le_of_ble_eq_true (by kernel_rfl)) (fun ⟨x0, _⟩ h hwf K q =>
  (snd57 _).1 x0 _ (top57 x0 h) K q)

end
end Go.Proofs.YtfpdnbojchnglaaGreatDoor

/- The contracts of the library that this program uses, laid at this program. Written by a tool of the kit. -/
set_option linter.unusedVariables false
set_option maxRecDepth 100000
namespace Go.Proofs
open Go.Shelf
def Tryz.lays169_ren : Go.Shelf.Ren := ⟨fun | 169 => 88 | n => n, fun | 70 => 115 | 9 => 9 | 0 => 0 | 72 => 117 | 37 => 22 | 127 => 140 | 3 => 3 | 5 => 5 | n => n, fun | n => n⟩
theorem Tryz.lays169 : Go.Proofs.Lays.n169 Tryz.prog Tryz.lays169_ren := {
  mixed := by kernel_rfl
  f169 := Tryz.func88.trans (congrArg some (by kernel_rfl))
  t0 := Tryz.underlying0
  a0 := Tryz.isAgg0
  z0 := Tryz.sizeOf0
  v0 := Tryz.zeroValue0
  t3 := Tryz.underlying3
  a3 := Tryz.isAgg3
  z3 := Tryz.sizeOf3
  v3 := Tryz.zeroValue3
  t9 := Tryz.underlying9
  a9 := Tryz.isAgg9
  z9 := Tryz.sizeOf9
  v9 := Tryz.zeroValue9
  t37 := Tryz.underlying22
  a37 := Tryz.isAgg22
  z37 := Tryz.sizeOf22
  v37 := Tryz.zeroValue22
  t70 := Tryz.underlying115
  a70 := Tryz.isAgg115
  z70 := Tryz.sizeOf115
  v70 := Tryz.zeroValue115
  t72 := Tryz.underlying117
  a72 := Tryz.isAgg117
  z72 := Tryz.sizeOf117
  v72 := Tryz.zeroValue117
  t127 := Tryz.underlying140
  a127 := Tryz.isAgg140
  z127 := Tryz.sizeOf140
  v127 := Tryz.zeroValue140 }
theorem Tryz.Builder_Extra_169 : Builder.Extra Tryz.prog Tryz.lays169_ren := {
  sizeBuilder := by kernel_rfl
  liesBuilder := by kernel_rfl
  t5 := Tryz.underlying5
  a5 := Tryz.isAgg5
  z5 := Tryz.sizeOf5
  v5 := Tryz.zeroValue5
  infoByte := by kernel_rfl
  cellsByte := by kernel_rfl
  sizeByte := by kernel_rfl
  neB5 := by decide }
open Go.RowKit in theorem Tryz.Builder_String_any_k (B b : Nat) (l : List UInt8) (w : World) (h : Lib.IsBuilderF 117 5 B b (Lib.byteCells l) w) (hBw : B ≤ w.heap.size) :
    Calls Tryz.prog 88 #[.pointer (some ⟨b, 0, none⟩)] w fun e w' => e = .returned (.string ⟨l.toArray⟩) ∧ (Lib.IsBuilderF 117 5 B b (Lib.byteCells l) w' ∧ Below B w w' ∧ Lib.OthersKept 5 (some b) w w') := Any.Builder_String_any_k Tryz.lays169 Tryz.Builder_Extra_169 B b l w h hBw
def Tryz.laysM173_ren : Go.Shelf.Ren := ⟨fun | 173 => 59 | 246 => 72 | 283 => 89 | 284 => 90 | 285 => 91 | 286 => 92 | 129 => 108 | 317 => 107 | 318 => 109 | 319 => 110 | 320 => 111 | 337 => 117 | 338 => 118 | n => n, fun | 2 => 2 | 3 => 3 | 9 => 9 | 4 => 4 | 171 => 124 | 0 => 0 | 53 => 73 | 37 => 22 | 5 => 5 | 173 => 127 | 212 => 142 | 51 => 135 | 20 => 20 | 213 => 143 | 46 => 101 | 232 => 158 | 233 => 159 | n => n, fun | 17 => 3 | 18 => 6 | 19 => 7 | n => n⟩
theorem Tryz.laysM173 : Go.Proofs.LaysM.n173 Tryz.prog Tryz.laysM173_ren := {
  mixed := by kernel_rfl
  f129 := Tryz.func108.trans (congrArg some (by kernel_rfl))
  f173 := Tryz.func59.trans (congrArg some (by kernel_rfl))
  f246 := Tryz.func72.trans (congrArg some (by kernel_rfl))
  f283 := Tryz.func89.trans (congrArg some (by kernel_rfl))
  f284 := Tryz.func90.trans (congrArg some (by kernel_rfl))
  f285 := Tryz.func91.trans (congrArg some (by kernel_rfl))
  f286 := Tryz.func92.trans (congrArg some (by kernel_rfl))
  f317 := Tryz.func107.trans (congrArg some (by kernel_rfl))
  f318 := Tryz.func109.trans (congrArg some (by kernel_rfl))
  f319 := Tryz.func110.trans (congrArg some (by kernel_rfl))
  f320 := Tryz.func111.trans (congrArg some (by kernel_rfl))
  f337 := Tryz.func117.trans (congrArg some (by kernel_rfl))
  f338 := Tryz.func118.trans (congrArg some (by kernel_rfl))
  t0 := Tryz.underlying0
  a0 := Tryz.isAgg0
  z0 := Tryz.sizeOf0
  v0 := Tryz.zeroValue0
  t2 := Tryz.underlying2
  a2 := Tryz.isAgg2
  z2 := Tryz.sizeOf2
  v2 := Tryz.zeroValue2
  t3 := Tryz.underlying3
  a3 := Tryz.isAgg3
  z3 := Tryz.sizeOf3
  v3 := Tryz.zeroValue3
  t4 := Tryz.underlying4
  a4 := Tryz.isAgg4
  z4 := Tryz.sizeOf4
  v4 := Tryz.zeroValue4
  t5 := Tryz.underlying5
  a5 := Tryz.isAgg5
  z5 := Tryz.sizeOf5
  v5 := Tryz.zeroValue5
  t9 := Tryz.underlying9
  a9 := Tryz.isAgg9
  z9 := Tryz.sizeOf9
  v9 := Tryz.zeroValue9
  t20 := Tryz.underlying20
  a20 := Tryz.isAgg20
  z20 := Tryz.sizeOf20
  v20 := Tryz.zeroValue20
  t37 := Tryz.underlying22
  a37 := Tryz.isAgg22
  z37 := Tryz.sizeOf22
  v37 := Tryz.zeroValue22
  t46 := Tryz.underlying101
  a46 := Tryz.isAgg101
  z46 := Tryz.sizeOf101
  v46 := Tryz.zeroValue101
  t51 := Tryz.underlying135
  a51 := Tryz.isAgg135
  z51 := Tryz.sizeOf135
  v51 := Tryz.zeroValue135
  t53 := Tryz.underlying73
  a53 := Tryz.isAgg73
  z53 := Tryz.sizeOf73
  v53 := Tryz.zeroValue73
  t171 := Tryz.underlying124
  a171 := Tryz.isAgg124
  z171 := Tryz.sizeOf124
  v171 := Tryz.zeroValue124
  t173 := Tryz.underlying127
  a173 := Tryz.isAgg127
  z173 := Tryz.sizeOf127
  v173 := Tryz.zeroValue127
  t212 := Tryz.underlying142
  a212 := Tryz.isAgg142
  z212 := Tryz.sizeOf142
  v212 := Tryz.zeroValue142
  t213 := Tryz.underlying143
  a213 := Tryz.isAgg143
  z213 := Tryz.sizeOf143
  t232 := Tryz.underlying158
  a232 := Tryz.isAgg158
  z232 := Tryz.sizeOf158
  v232 := Tryz.zeroValue158
  t233 := Tryz.underlying159
  a233 := Tryz.isAgg159
  z233 := Tryz.sizeOf159
  v233 := Tryz.zeroValue159
  g17 := by kernel_rfl
  g18 := by kernel_rfl
  g19 := by kernel_rfl
  i0 := by kernel_rfl
  i2 := by kernel_rfl
  i3 := by kernel_rfl
  i4 := by kernel_rfl
  i5 := by kernel_rfl
  i9 := by kernel_rfl
  i20 := by kernel_rfl
  i37 := by kernel_rfl
  i46 := by kernel_rfl
  i51 := by kernel_rfl
  i53 := by kernel_rfl
  i171 := by kernel_rfl
  i173 := by kernel_rfl
  i212 := by kernel_rfl
  i232 := by kernel_rfl
  i233 := by kernel_rfl
  m17 := by kernel_rfl
  m18 := by kernel_rfl
  m19 := by kernel_rfl }
open Go.RowKit Go.Sort Go.Lib in theorem Tryz.strconv_FormatInt_10 (n : Int) (h0 : -9223372036854775808 ≤ n) (h1 : n ≤ 9223372036854775807) (w : World) (htab : Lib.TabIs Tryz.prog w "internal/strconv.uint64pow10" .u64 Lib.pow10Tab) :
    Calls Tryz.prog 59 #[.int .i64 n, .int .i64 10] w fun e w' => e = .returned (.string ⟨(Lib.itoa n).toArray⟩) ∧ ∃ k os, w' = grow (w.drewN k) os := Any.strconv_FormatInt_10 Tryz.laysM173 n h0 h1 w htab
def Tryz.laysC174_ren : Go.Shelf.Ren := ⟨fun | 174 => 56 | 247 => 69 | 245 => 70 | 287 => 78 | 279 => 79 | 280 => 80 | 281 => 81 | 282 => 82 | 321 => 98 | 322 => 99 | 316 => 100 | 171 => 102 | 205 => 101 | 243 => 114 | 246 => 72 | 283 => 89 | 284 => 90 | 285 => 91 | 286 => 92 | 129 => 108 | 317 => 107 | 318 => 109 | 319 => 110 | 320 => 111 | 337 => 117 | 338 => 118 | n => n, fun | 9 => 9 | 3 => 3 | 2 => 2 | 75 => 89 | 85 => 90 | 4 => 4 | 167 => 107 | 5 => 5 | 53 => 73 | 175 => 108 | 46 => 101 | 168 => 110 | 37 => 22 | 0 => 0 | 210 => 133 | 21 => 21 | 127 => 140 | 145 => 153 | 143 => 151 | 171 => 124 | 173 => 127 | 212 => 142 | 51 => 135 | 20 => 20 | 213 => 143 | 232 => 158 | 233 => 159 | 80 => 122 | n => n, fun | 15 => 1 | 16 => 2 | 17 => 3 | 18 => 6 | 19 => 7 | n => n⟩
theorem Tryz.laysC174 : Go.Proofs.LaysC.n174 Tryz.prog Tryz.laysC174_ren := {
  mixed := by kernel_rfl
  f129 := Tryz.func108.trans (congrArg some (by kernel_rfl))
  f171 := Tryz.func102.trans (congrArg some (by kernel_rfl))
  f174 := Tryz.func56.trans (congrArg some (by kernel_rfl))
  f205 := Tryz.func101.trans (congrArg some (by kernel_rfl))
  f243 := Tryz.func114.trans (congrArg some (by kernel_rfl))
  f245 := Tryz.func70.trans (congrArg some (by kernel_rfl))
  f246 := Tryz.func72.trans (congrArg some (by kernel_rfl))
  f247 := Tryz.func69.trans (congrArg some (by kernel_rfl))
  f279 := Tryz.func79.trans (congrArg some (by kernel_rfl))
  f280 := Tryz.func80.trans (congrArg some (by kernel_rfl))
  f281 := Tryz.func81.trans (congrArg some (by kernel_rfl))
  f282 := Tryz.func82.trans (congrArg some (by kernel_rfl))
  f283 := Tryz.func89.trans (congrArg some (by kernel_rfl))
  f284 := Tryz.func90.trans (congrArg some (by kernel_rfl))
  f285 := Tryz.func91.trans (congrArg some (by kernel_rfl))
  f286 := Tryz.func92.trans (congrArg some (by kernel_rfl))
  f287 := Tryz.func78.trans (congrArg some (by kernel_rfl))
  f316 := Tryz.func100.trans (congrArg some (by kernel_rfl))
  f317 := Tryz.func107.trans (congrArg some (by kernel_rfl))
  f318 := Tryz.func109.trans (congrArg some (by kernel_rfl))
  f319 := Tryz.func110.trans (congrArg some (by kernel_rfl))
  f320 := Tryz.func111.trans (congrArg some (by kernel_rfl))
  f321 := Tryz.func98.trans (congrArg some (by kernel_rfl))
  f322 := Tryz.func99.trans (congrArg some (by kernel_rfl))
  f337 := Tryz.func117.trans (congrArg some (by kernel_rfl))
  f338 := Tryz.func118.trans (congrArg some (by kernel_rfl))
  t0 := Tryz.underlying0
  a0 := Tryz.isAgg0
  z0 := Tryz.sizeOf0
  v0 := Tryz.zeroValue0
  t2 := Tryz.underlying2
  a2 := Tryz.isAgg2
  z2 := Tryz.sizeOf2
  v2 := Tryz.zeroValue2
  t3 := Tryz.underlying3
  a3 := Tryz.isAgg3
  z3 := Tryz.sizeOf3
  v3 := Tryz.zeroValue3
  t4 := Tryz.underlying4
  a4 := Tryz.isAgg4
  z4 := Tryz.sizeOf4
  v4 := Tryz.zeroValue4
  t5 := Tryz.underlying5
  a5 := Tryz.isAgg5
  z5 := Tryz.sizeOf5
  v5 := Tryz.zeroValue5
  t9 := Tryz.underlying9
  a9 := Tryz.isAgg9
  z9 := Tryz.sizeOf9
  v9 := Tryz.zeroValue9
  t20 := Tryz.underlying20
  a20 := Tryz.isAgg20
  z20 := Tryz.sizeOf20
  v20 := Tryz.zeroValue20
  t21 := Tryz.underlying21
  a21 := Tryz.isAgg21
  z21 := Tryz.sizeOf21
  v21 := Tryz.zeroValue21
  t37 := Tryz.underlying22
  a37 := Tryz.isAgg22
  z37 := Tryz.sizeOf22
  v37 := Tryz.zeroValue22
  t46 := Tryz.underlying101
  a46 := Tryz.isAgg101
  z46 := Tryz.sizeOf101
  v46 := Tryz.zeroValue101
  t51 := Tryz.underlying135
  a51 := Tryz.isAgg135
  z51 := Tryz.sizeOf135
  v51 := Tryz.zeroValue135
  t53 := Tryz.underlying73
  a53 := Tryz.isAgg73
  z53 := Tryz.sizeOf73
  v53 := Tryz.zeroValue73
  t75 := Tryz.underlying89
  a75 := Tryz.isAgg89
  z75 := Tryz.sizeOf89
  v75 := Tryz.zeroValue89
  t85 := Tryz.underlying90
  a85 := Tryz.isAgg90
  z85 := Tryz.sizeOf90
  v85 := Tryz.zeroValue90
  t127 := Tryz.underlying140
  a127 := Tryz.isAgg140
  z127 := Tryz.sizeOf140
  v127 := Tryz.zeroValue140
  t143 := Tryz.underlying151
  a143 := Tryz.isAgg151
  z143 := Tryz.sizeOf151
  v143 := Tryz.zeroValue151
  t145 := Tryz.underlying153
  a145 := Tryz.isAgg153
  z145 := Tryz.sizeOf153
  v145 := Tryz.zeroValue153
  t167 := Tryz.underlying107
  a167 := Tryz.isAgg107
  z167 := Tryz.sizeOf107
  v167 := Tryz.zeroValue107
  t168 := Tryz.underlying110
  a168 := Tryz.isAgg110
  z168 := Tryz.sizeOf110
  v168 := Tryz.zeroValue110
  t171 := Tryz.underlying124
  a171 := Tryz.isAgg124
  z171 := Tryz.sizeOf124
  v171 := Tryz.zeroValue124
  t173 := Tryz.underlying127
  a173 := Tryz.isAgg127
  z173 := Tryz.sizeOf127
  v173 := Tryz.zeroValue127
  t175 := Tryz.underlying108
  a175 := Tryz.isAgg108
  z175 := Tryz.sizeOf108
  v175 := Tryz.zeroValue108
  t210 := Tryz.underlying133
  a210 := Tryz.isAgg133
  z210 := Tryz.sizeOf133
  v210 := Tryz.zeroValue133
  t212 := Tryz.underlying142
  a212 := Tryz.isAgg142
  z212 := Tryz.sizeOf142
  v212 := Tryz.zeroValue142
  t213 := Tryz.underlying143
  a213 := Tryz.isAgg143
  z213 := Tryz.sizeOf143
  t232 := Tryz.underlying158
  a232 := Tryz.isAgg158
  z232 := Tryz.sizeOf158
  v232 := Tryz.zeroValue158
  t233 := Tryz.underlying159
  a233 := Tryz.isAgg159
  z233 := Tryz.sizeOf159
  v233 := Tryz.zeroValue159
  g15 := by kernel_rfl
  g16 := by kernel_rfl
  g17 := by kernel_rfl
  g18 := by kernel_rfl
  g19 := by kernel_rfl
  t80 := Tryz.underlying122
  a80 := Tryz.isAgg122
  z80 := Tryz.sizeOf122
  v80 := Tryz.zeroValue122
  i0 := by kernel_rfl
  i2 := by kernel_rfl
  i3 := by kernel_rfl
  i4 := by kernel_rfl
  i5 := by kernel_rfl
  i9 := by kernel_rfl
  i20 := by kernel_rfl
  i21 := by kernel_rfl
  i37 := by kernel_rfl
  i46 := by kernel_rfl
  i51 := by kernel_rfl
  i53 := by kernel_rfl
  i75 := by kernel_rfl
  i80 := by kernel_rfl
  i85 := by kernel_rfl
  i127 := by kernel_rfl
  i143 := by kernel_rfl
  i145 := by kernel_rfl
  i167 := by kernel_rfl
  i168 := by kernel_rfl
  i171 := by kernel_rfl
  i173 := by kernel_rfl
  i175 := by kernel_rfl
  i210 := by kernel_rfl
  i212 := by kernel_rfl
  i232 := by kernel_rfl
  i233 := by kernel_rfl
  m15 := by kernel_rfl
  m16 := by kernel_rfl
  m17 := by kernel_rfl
  m18 := by kernel_rfl
  m19 := by kernel_rfl
  c0 := by kernel_rfl
  c2 := by kernel_rfl
  c3 := by kernel_rfl
  c4 := by kernel_rfl
  c5 := by kernel_rfl
  c9 := by kernel_rfl
  c20 := by kernel_rfl
  c21 := by kernel_rfl
  c37 := by kernel_rfl
  c46 := by kernel_rfl
  c51 := by kernel_rfl
  c53 := by kernel_rfl
  c75 := by kernel_rfl
  c80 := by kernel_rfl
  c85 := by kernel_rfl
  c127 := by kernel_rfl
  c143 := by kernel_rfl
  c145 := by kernel_rfl
  c167 := by kernel_rfl
  c168 := by kernel_rfl
  c171 := by kernel_rfl
  c173 := by kernel_rfl
  c175 := by kernel_rfl
  c210 := by kernel_rfl
  c212 := by kernel_rfl
  c213 := by kernel_rfl
  c232 := by kernel_rfl
  c233 := by kernel_rfl }
open Go.RowKit in theorem Tryz.strconv_ParseInt_10_at64_ok (s : ByteArray) (hmax : s.size ≤ 9223372036854775806) (v : Int) (h : Lib.parseIntB 64 s.data.toList = .ok v) (w : World) :
    Calls Tryz.prog 56 #[.string s, .int .i64 10, .int .i64 64] w fun e w' => e = .returned (.tuple #[.int .i64 v, .nilIface]) ∧ (w' = w ∨ ∃ t, w' = Lib.bytesWorld w 5 t) := Any.strconv_ParseInt_10_at64_ok Tryz.laysC174 s hmax v h w
open Go.RowKit in theorem Tryz.strconv_ParseInt_10_at64_syntax (s : ByteArray) (hlim : s.size ≤ 281474976710656) (h : Lib.parseIntB 64 s.data.toList = .syntax) (ev : Value) (w : World) (hv : w.cell? ⟨1, 0, none⟩ = some ev) (hev : ev = .nilIface ∨ ∃ te pe, ev = .iface te pe) :
    Calls Tryz.prog 56 #[.string s, .int .i64 10, .int .i64 64] w fun e w' => ∃ N, e = .returned (.tuple #[.int .i64 (0), .iface 110 (.pointer (some ⟨N, 0, none⟩))]) ∧ w.heap.size ≤ N ∧ w'.heap[N]? = some (.cells #[.string ⟨#[80, 97, 114, 115, 101, 73, 110, 116]⟩, .string s, ev] 133 (0, 0)) ∧ Below w.heap.size w w' := Any.strconv_ParseInt_10_at64_syntax Tryz.laysC174 s hlim h ev w hv hev
open Go.RowKit in theorem Tryz.strconv_ParseInt_10_at64_range (s : ByteArray) (hlim : s.size ≤ 281474976710656) (h : Lib.parseIntB 64 s.data.toList = .range) (ev : Value) (w : World) (hv : w.cell? ⟨2, 0, none⟩ = some ev) (hev : ev = .nilIface ∨ ∃ te pe, ev = .iface te pe) :
    Calls Tryz.prog 56 #[.string s, .int .i64 10, .int .i64 64] w fun e w' => ∃ N, e = .returned (.tuple #[.int .i64 (Lib.intSat 64 s.data.toList), .iface 110 (.pointer (some ⟨N, 0, none⟩))]) ∧ w.heap.size ≤ N ∧ w'.heap[N]? = some (.cells #[.string ⟨#[80, 97, 114, 115, 101, 73, 110, 116]⟩, .string s, ev] 133 (0, 0)) ∧ Below w.heap.size w w' := Any.strconv_ParseInt_10_at64_range Tryz.laysC174 s hlim h ev w hv hev
def Tryz.lays99_ren : Go.Shelf.Ren := ⟨fun | 99 => 84 | 206 => 77 | n => n, fun | 9 => 9 | 4 => 4 | 3 => 3 | n => n, fun | n => n⟩
theorem Tryz.lays99 : Go.Proofs.Lays.n99 Tryz.prog Tryz.lays99_ren := {
  mixed := by kernel_rfl
  f99 := Tryz.func84.trans (congrArg some (by kernel_rfl))
  f206 := Tryz.func77.trans (congrArg some (by kernel_rfl))
  t3 := Tryz.underlying3
  a3 := Tryz.isAgg3
  z3 := Tryz.sizeOf3
  v3 := Tryz.zeroValue3
  t4 := Tryz.underlying4
  a4 := Tryz.isAgg4
  z4 := Tryz.sizeOf4
  v4 := Tryz.zeroValue4
  t9 := Tryz.underlying9
  a9 := Tryz.isAgg9
  z9 := Tryz.sizeOf9
  v9 := Tryz.zeroValue9 }
open Go.RowKit Go.Lib in theorem Tryz.strings_HasPrefix (s p : ByteArray) (w : World) :
    Calls Tryz.prog 84 #[.string s, .string p] w fun e w' => e = .returned (.bool (Lib.hasPrefix s.data.toList p.data.toList)) ∧ w' = w := Any.strings_HasPrefix Tryz.lays99 s p w
def Tryz.lays101_ren : Go.Shelf.Ren := ⟨fun | 101 => 55 | 208 => 68 | 206 => 77 | n => n, fun | 9 => 9 | 4 => 4 | 3 => 3 | n => n, fun | n => n⟩
theorem Tryz.lays101 : Go.Proofs.Lays.n101 Tryz.prog Tryz.lays101_ren := {
  mixed := by kernel_rfl
  f101 := Tryz.func55.trans (congrArg some (by kernel_rfl))
  f206 := Tryz.func77.trans (congrArg some (by kernel_rfl))
  f208 := Tryz.func68.trans (congrArg some (by kernel_rfl))
  t3 := Tryz.underlying3
  a3 := Tryz.isAgg3
  z3 := Tryz.sizeOf3
  v3 := Tryz.zeroValue3
  t4 := Tryz.underlying4
  a4 := Tryz.isAgg4
  z4 := Tryz.sizeOf4
  v4 := Tryz.zeroValue4
  t9 := Tryz.underlying9
  a9 := Tryz.isAgg9
  z9 := Tryz.sizeOf9
  v9 := Tryz.zeroValue9 }
open Go.RowKit Go.Lib in theorem Tryz.strings_TrimPrefix (s p : ByteArray) (w : World) :
    Calls Tryz.prog 55 #[.string s, .string p] w fun e w' => e = .returned (.string ⟨(Lib.trimPrefix s.data.toList p.data.toList).toArray⟩) ∧ w' = w := Any.strings_TrimPrefix Tryz.lays101 s p w
def Tryz.lays146_ren : Go.Shelf.Ren := ⟨fun | 146 => 28 | 221 => 52 | 268 => 63 | 138 => 64 | 143 => 65 | 195 => 73 | 197 => 74 | 218 => 75 | 219 => 76 | 260 => 93 | 217 => 94 | 225 => 95 | 224 => 96 | 267 => 97 | 266 => 112 | 314 => 113 | n => n, fun | 9 => 9 | 31 => 62 | 3 => 3 | 4 => 4 | 0 => 0 | 105 => 103 | 21 => 21 | 5 => 5 | 46 => 101 | 119 => 146 | 139 => 149 | 138 => 148 | 146 => 136 | 51 => 135 | n => n, fun | 1 => 0 | 3 => 4 | 4 => 5 | n => n⟩
theorem Tryz.lays146 : Go.Proofs.Lays.n146 Tryz.prog Tryz.lays146_ren := {
  mixed := by kernel_rfl
  f138 := Tryz.func64.trans (congrArg some (by kernel_rfl))
  f143 := Tryz.func65.trans (congrArg some (by kernel_rfl))
  f146 := Tryz.func28.trans (congrArg some (by kernel_rfl))
  f195 := Tryz.func73.trans (congrArg some (by kernel_rfl))
  f197 := Tryz.func74.trans (congrArg some (by kernel_rfl))
  f217 := Tryz.func94.trans (congrArg some (by kernel_rfl))
  f218 := Tryz.func75.trans (congrArg some (by kernel_rfl))
  f219 := Tryz.func76.trans (congrArg some (by kernel_rfl))
  f221 := Tryz.func52.trans (congrArg some (by kernel_rfl))
  f224 := Tryz.func96.trans (congrArg some (by kernel_rfl))
  f225 := Tryz.func95.trans (congrArg some (by kernel_rfl))
  f260 := Tryz.func93.trans (congrArg some (by kernel_rfl))
  f266 := Tryz.func112.trans (congrArg some (by kernel_rfl))
  f267 := Tryz.func97.trans (congrArg some (by kernel_rfl))
  f268 := Tryz.func63.trans (congrArg some (by kernel_rfl))
  f314 := Tryz.func113.trans (congrArg some (by kernel_rfl))
  t0 := Tryz.underlying0
  a0 := Tryz.isAgg0
  z0 := Tryz.sizeOf0
  v0 := Tryz.zeroValue0
  t3 := Tryz.underlying3
  a3 := Tryz.isAgg3
  z3 := Tryz.sizeOf3
  v3 := Tryz.zeroValue3
  t4 := Tryz.underlying4
  a4 := Tryz.isAgg4
  z4 := Tryz.sizeOf4
  v4 := Tryz.zeroValue4
  t5 := Tryz.underlying5
  a5 := Tryz.isAgg5
  z5 := Tryz.sizeOf5
  v5 := Tryz.zeroValue5
  t9 := Tryz.underlying9
  a9 := Tryz.isAgg9
  z9 := Tryz.sizeOf9
  v9 := Tryz.zeroValue9
  t21 := Tryz.underlying21
  a21 := Tryz.isAgg21
  z21 := Tryz.sizeOf21
  v21 := Tryz.zeroValue21
  t31 := Tryz.underlying62
  a31 := Tryz.isAgg62
  z31 := Tryz.sizeOf62
  v31 := Tryz.zeroValue62
  t46 := Tryz.underlying101
  a46 := Tryz.isAgg101
  z46 := Tryz.sizeOf101
  v46 := Tryz.zeroValue101
  t51 := Tryz.underlying135
  a51 := Tryz.isAgg135
  z51 := Tryz.sizeOf135
  v51 := Tryz.zeroValue135
  t105 := Tryz.underlying103
  a105 := Tryz.isAgg103
  z105 := Tryz.sizeOf103
  v105 := Tryz.zeroValue103
  t119 := Tryz.underlying146
  a119 := Tryz.isAgg146
  z119 := Tryz.sizeOf146
  t138 := Tryz.underlying148
  a138 := Tryz.isAgg148
  z138 := Tryz.sizeOf148
  v138 := Tryz.zeroValue148
  t139 := Tryz.underlying149
  a139 := Tryz.isAgg149
  z139 := Tryz.sizeOf149
  v139 := Tryz.zeroValue149
  t146 := Tryz.underlying136
  a146 := Tryz.isAgg136
  z146 := Tryz.sizeOf136
  v146 := Tryz.zeroValue136
  g1 := by kernel_rfl
  g3 := by kernel_rfl
  g4 := by kernel_rfl }
open Go.RowKit Go.Lib in theorem Tryz.strings_Split (s sep : ByteArray) (m : Int) (w : World) (hs : s.size < 4294967281) (hm : w.cell? ⟨0, 0, none⟩ = some (.int .i64 m)) (h1 : 1 ≤ sep.size) :
    Calls Tryz.prog 28 #[.string s, .string sep] w fun e w' =>
      e = .returned (.slice (some ⟨w.heap.size, 0, none⟩) (Lib.countB s sep + 1) (Lib.countB s sep + 1)) ∧ w' = w.alloc (.cells ((Lib.splitB sep 0 (Lib.countB s sep) s).map Value.string).toArray 9) := Any.strings_Split Tryz.lays146 (by kernel_rfl) s sep m w hs hm h1
def Tryz.lays105_ren : Go.Shelf.Ren := ⟨fun | 105 => 71 | 212 => 83 | 99 => 84 | 165 => 85 | 166 => 86 | 170 => 87 | 169 => 88 | 263 => 103 | 264 => 104 | 206 => 77 | 240 => 105 | 241 => 106 | 276 => 115 | 277 => 116 | n => n, fun | 9 => 9 | 3 => 3 | 4 => 4 | 20 => 20 | 0 => 0 | 46 => 101 | 109 => 113 | 5 => 5 | 72 => 117 | 76 => 119 | 51 => 135 | 146 => 136 | 53 => 73 | 148 => 138 | 70 => 115 | 37 => 22 | 75 => 89 | 127 => 140 | 164 => 154 | 80 => 122 | n => n, fun | n => n⟩
theorem Tryz.lays105 : Go.Proofs.Lays.n105 Tryz.prog Tryz.lays105_ren := {
  mixed := by kernel_rfl
  f99 := Tryz.func84.trans (congrArg some (by kernel_rfl))
  f105 := Tryz.func71.trans (congrArg some (by kernel_rfl))
  f165 := Tryz.func85.trans (congrArg some (by kernel_rfl))
  f166 := Tryz.func86.trans (congrArg some (by kernel_rfl))
  f169 := Tryz.func88.trans (congrArg some (by kernel_rfl))
  f170 := Tryz.func87.trans (congrArg some (by kernel_rfl))
  f206 := Tryz.func77.trans (congrArg some (by kernel_rfl))
  f212 := Tryz.func83.trans (congrArg some (by kernel_rfl))
  f240 := Tryz.func105.trans (congrArg some (by kernel_rfl))
  f241 := Tryz.func106.trans (congrArg some (by kernel_rfl))
  f263 := Tryz.func103.trans (congrArg some (by kernel_rfl))
  f264 := Tryz.func104.trans (congrArg some (by kernel_rfl))
  f276 := Tryz.func115.trans (congrArg some (by kernel_rfl))
  f277 := Tryz.func116.trans (congrArg some (by kernel_rfl))
  t0 := Tryz.underlying0
  a0 := Tryz.isAgg0
  z0 := Tryz.sizeOf0
  v0 := Tryz.zeroValue0
  t3 := Tryz.underlying3
  a3 := Tryz.isAgg3
  z3 := Tryz.sizeOf3
  v3 := Tryz.zeroValue3
  t4 := Tryz.underlying4
  a4 := Tryz.isAgg4
  z4 := Tryz.sizeOf4
  v4 := Tryz.zeroValue4
  t5 := Tryz.underlying5
  a5 := Tryz.isAgg5
  z5 := Tryz.sizeOf5
  v5 := Tryz.zeroValue5
  t9 := Tryz.underlying9
  a9 := Tryz.isAgg9
  z9 := Tryz.sizeOf9
  v9 := Tryz.zeroValue9
  t20 := Tryz.underlying20
  a20 := Tryz.isAgg20
  z20 := Tryz.sizeOf20
  v20 := Tryz.zeroValue20
  t37 := Tryz.underlying22
  a37 := Tryz.isAgg22
  z37 := Tryz.sizeOf22
  v37 := Tryz.zeroValue22
  t46 := Tryz.underlying101
  a46 := Tryz.isAgg101
  z46 := Tryz.sizeOf101
  v46 := Tryz.zeroValue101
  t51 := Tryz.underlying135
  a51 := Tryz.isAgg135
  z51 := Tryz.sizeOf135
  v51 := Tryz.zeroValue135
  t53 := Tryz.underlying73
  a53 := Tryz.isAgg73
  z53 := Tryz.sizeOf73
  v53 := Tryz.zeroValue73
  t70 := Tryz.underlying115
  a70 := Tryz.isAgg115
  z70 := Tryz.sizeOf115
  v70 := Tryz.zeroValue115
  t72 := Tryz.underlying117
  a72 := Tryz.isAgg117
  z72 := Tryz.sizeOf117
  v72 := Tryz.zeroValue117
  t75 := Tryz.underlying89
  a75 := Tryz.isAgg89
  z75 := Tryz.sizeOf89
  v75 := Tryz.zeroValue89
  t76 := Tryz.underlying119
  a76 := Tryz.isAgg119
  z76 := Tryz.sizeOf119
  v76 := Tryz.zeroValue119
  t109 := Tryz.underlying113
  a109 := Tryz.isAgg113
  z109 := Tryz.sizeOf113
  v109 := Tryz.zeroValue113
  t127 := Tryz.underlying140
  a127 := Tryz.isAgg140
  z127 := Tryz.sizeOf140
  v127 := Tryz.zeroValue140
  t146 := Tryz.underlying136
  a146 := Tryz.isAgg136
  z146 := Tryz.sizeOf136
  v146 := Tryz.zeroValue136
  t148 := Tryz.underlying138
  a148 := Tryz.isAgg138
  z148 := Tryz.sizeOf138
  v148 := Tryz.zeroValue138
  t164 := Tryz.underlying154
  a164 := Tryz.isAgg154
  z164 := Tryz.sizeOf154
  v164 := Tryz.zeroValue154 }
theorem Tryz.Builder_Extra_105 : Builder.Extra Tryz.prog Tryz.lays105_ren := {
  sizeBuilder := by kernel_rfl
  liesBuilder := by kernel_rfl
  t5 := Tryz.underlying5
  a5 := Tryz.isAgg5
  z5 := Tryz.sizeOf5
  v5 := Tryz.zeroValue5
  infoByte := by kernel_rfl
  cellsByte := by kernel_rfl
  sizeByte := by kernel_rfl
  neB5 := by decide }
open Go.RowKit Go.Lib in theorem Tryz.strings_Repeat (s : ByteArray) (c : Nat) (w : World) (hc : c ≤ 9223372036854775807) (hlen : s.size * c ≤ 140737488355328) :
    Calls Tryz.prog 71 #[.string s, .int .i64 c] w fun e w' => e = .returned (.string ⟨(Lib.repeatL s.data.toList c).toArray⟩) ∧ Below w.heap.size w w' := Any.strings_Repeat Tryz.lays105 Tryz.Builder_Extra_105 s c w hc hlen
end Go.Proofs

/- Function 59 (strconv.FormatInt): its contract, off what is known of the library. -/
set_option linter.unusedVariables false
set_option linter.unusedSimpArgs false
set_option maxRecDepth 100000
namespace Go.Proofs.YtfpdnbojchnglaaGreatDoor
open Go Go.Am Go.Proofs

def sig59 : List AT := [AT.v (Ty.int .i64), AT.v (Ty.int .i64)]
def g59_0 (x0 x1 : Int) : ByteArray := numB x0
def P59 (x0 x1 : Int) : Prop := x1 = 10
def S59 : Am.Spec := { sig := sig59, pre := fun ⟨x0, x1, _⟩ => P59 x0 x1, res := fun ⟨x0, x1, _⟩ => [⟨Ty.str, g59_0 x0 x1⟩] }
theorem con59 : Contract Tryz.prog 59 S59 := contract_flat rfl fun w ⟨x0, x1, _⟩ vs bss hg hp hw ha => by
  obtain ⟨v0, s0, _, _, rfl, _, ⟨_, rfl, hi⟩, v1, s1, _, _, rfl, _, ⟨_, rfl, _⟩, rfl, _⟩ := ha
  obtain rfl : x1 = 10 := hp
  have hi : InR .i64 x0 := hi
  rw [i64_iff] at hi
  refine ⟨fun d hd => ?_, ?_⟩
  · rw [List.mem_singleton.1 hd]
    refine ⟨rfl, ?_⟩
    show (numB x0).size ≤ maxLen
    have := numB_size x0 hi.1 hi.2
    unfold maxLen; omega
  · refine (Tryz.strconv_FormatInt_10 x0 hi.1 hi.2 w (pow10G hg)).mono ?_
    rintro e w' ⟨rfl, n, os, rfl⟩
    exact ⟨rfl, kept_grow _ _ _⟩

end Go.Proofs.YtfpdnbojchnglaaGreatDoor

/- Function 32 (impl.Decimal): its runs between cut points. Written by a program of this repo (gen). -/
set_option linter.unusedVariables false
set_option linter.unusedSimpArgs false
set_option maxRecDepth 100000
namespace Go.Proofs.YtfpdnbojchnglaaGreatDoor
open Go Go.Am Go.Proofs
noncomputable section
def ext32 : Ext := [(59, S59)]
theorem call32_59 : Callable Tryz.prog 59 := ⟨Tryz.f59, Tryz.func59, by kernel_rfl, by kernel_rfl⟩
theorem ext32Ok : ExtOk Tryz.prog ext32 := ⟨⟨call32_59, con59⟩, trivial⟩

noncomputable def b32 : Code := bodyOf Tryz.f32
theorem hb32 : Tryz.f32.body = some b32 := by kernel_rfl
def sig32 : List AT := [AT.v (Ty.int IntKind.i64)]
def tys32 : List Ty := [Ty.str]
def kds32 : List RK := []
def oks32 : List AT := owns sig32
def P32 (x0 : Int) : Prop := ((P59 x0 10) ∧ True)
def g32_0 (x0 : Int) : ByteArray := g59_0 x0 10
theorem at32 (x0 : Int) (h : P32 x0) (K : Ctx) (q : Nat → Value) : AtV Tryz.prog 32 (PostR kds32 oks32 [⟨Ty.str, g32_0 x0⟩] [] [] q K) 5 K q [] [.code b32] (entE 0 0 sig32 (x0, ())) (entL sig32 (x0, ())) := by
  unfold P32 at h
  unfold g32_0
  obtain ⟨s0, h⟩ := h
  exact AtV.ret Tryz.func32 tabOk ext32Ok mixed false [] tys32 [] (a1 s0 trivial) (by kernel_rfl)

def S32 : Am.Spec := { sig := sig32, pre := fun ⟨x0, _⟩ => P32 x0, res := fun ⟨x0, _⟩ => [⟨Ty.str, g32_0 x0⟩], kds := kds32 }
theorem con32 : Contract Tryz.prog 32 S32 := contract_of Tryz.func32 hb32 (Nat.le_of_ble_eq_true (by kernel_rfl)) (fun ⟨x0, _⟩ h _ K q => at32 x0 h K q)


end
end Go.Proofs.YtfpdnbojchnglaaGreatDoor

/- Function 71 (strings.Repeat): its contract, off what is known of the library. -/
set_option linter.unusedVariables false
set_option linter.unusedSimpArgs false
set_option maxRecDepth 100000
namespace Go.Proofs.YtfpdnbojchnglaaGreatDoor
open Go Go.Am Go.Proofs

def sig71 : List AT := [AT.v Ty.str, AT.v (Ty.int .i64)]
def g71_0 (x0 : ByteArray) (x1 : Int) : ByteArray := ⟨(Lib.repeatL x0.data.toList x1.toNat).toArray⟩
def P71 (x0 : ByteArray) (x1 : Int) : Prop := 0 ≤ x1 ∧ (x0.size : Int) * x1 ≤ 140737488355328
def S71 : Am.Spec := { sig := sig71, pre := fun ⟨x0, x1, _⟩ => P71 x0 x1, res := fun ⟨x0, x1, _⟩ => [⟨Ty.str, g71_0 x0 x1⟩] }
theorem con71 : Contract Tryz.prog 71 S71 := contract_flat rfl fun w ⟨x0, x1, _⟩ vs bss hg hp hw ha => by
  obtain ⟨v0, s0, _, _, rfl, _, ⟨_, rfl, _⟩, v1, s1, _, _, rfl, _, ⟨_, rfl, _⟩, rfl, _⟩ := ha
  obtain ⟨h0, h1⟩ := hp
  obtain ⟨c, rfl⟩ : ∃ c : Nat, x1 = (c : Int) := Int.eq_ofNat_of_zero_le h0
  have hi : InR .i64 (c : Int) := hw.2.1
  rw [i64_iff] at hi
  have hm : x0.size * c ≤ 140737488355328 := by
    have : ((x0.size * c : Nat) : Int) = (x0.size : Int) * (c : Int) := Int.natCast_mul _ _
    omega
  refine ⟨fun d hd => ?_, ?_⟩
  · rw [List.mem_singleton.1 hd]
    refine ⟨rfl, ?_⟩
    show (ByteArray.mk (Lib.repeatL x0.data.toList c).toArray).size ≤ maxLen
    have : (ByteArray.mk (Lib.repeatL x0.data.toList c).toArray).size = c * x0.data.toList.length := by
      show (Lib.repeatL x0.data.toList c).toArray.size = _
      rw [List.size_toArray, Lib.repeatL_length]
    rw [this, Nat.mul_comm]
    have e : x0.data.toList.length = x0.size := rfl
    rw [e]
    unfold maxLen
    omega
  · refine (Tryz.strings_Repeat x0 c w (by omega) hm).mono ?_
    rintro e w' ⟨rfl, hb⟩
    exact ⟨rfl, Kept.of_below hb⟩

end Go.Proofs.YtfpdnbojchnglaaGreatDoor

/- Function 58 (impl.padded): its runs between cut points. Written by a program of this repo (gen). -/
set_option linter.unusedVariables false
set_option linter.unusedSimpArgs false
set_option maxRecDepth 100000
namespace Go.Proofs.YtfpdnbojchnglaaGreatDoor
open Go Go.Am Go.Proofs
noncomputable section
def ext58 : Ext := [(32, S32), (71, S71)]
theorem call58_32 : Callable Tryz.prog 32 := ⟨Tryz.f32, Tryz.func32, by kernel_rfl, by kernel_rfl⟩
theorem call58_71 : Callable Tryz.prog 71 := ⟨Tryz.f71, Tryz.func71, by kernel_rfl, by kernel_rfl⟩
theorem ext58Ok : ExtOk Tryz.prog ext58 := ⟨⟨call58_32, con32⟩, ⟨call58_71, con71⟩, trivial⟩

noncomputable def b58 : Code := bodyOf Tryz.f58
theorem hb58 : Tryz.f58.body = some b58 := by kernel_rfl
def sig58 : List AT := [AT.v (Ty.int IntKind.i64), AT.v (Ty.int IntKind.i64)]
def tys58 : List Ty := [Ty.str]
def kds58 : List RK := []
def oks58 : List AT := owns sig58
def P58 (x0 : Int) (x1 : Int) : Prop := ((P32 x0) ∧ ((InR IntKind.i64 (x1 - (↑(ByteArray.size (g32_0 x0)) : Int))) ∧ ((P71 (ByteArray.mk #[48]) (if 0 < x1 - (↑(ByteArray.size (g32_0 x0)) : Int) then x1 - (↑(ByteArray.size (g32_0 x0)) : Int) else 0)) ∧ ((ByteArray.size (g71_0 (ByteArray.mk #[48]) (if 0 < x1 - (↑(ByteArray.size (g32_0 x0)) : Int) then x1 - (↑(ByteArray.size (g32_0 x0)) : Int) else 0)) + ByteArray.size (g32_0 x0) ≤ 9223372036854775807) ∧ True))))
def g58_0 (x0 : Int) (x1 : Int) : ByteArray := g71_0 (ByteArray.mk #[48]) (if 0 < x1 - (↑(ByteArray.size (g32_0 x0)) : Int) then x1 - (↑(ByteArray.size (g32_0 x0)) : Int) else 0) ++ g32_0 x0
theorem at58 (x0 : Int) (x1 : Int) (h : P58 x0 x1) (K : Ctx) (q : Nat → Value) : AtV Tryz.prog 58 (PostR kds58 oks58 [⟨Ty.str, g58_0 x0 x1⟩] [] [] q K) 16 K q [] [.code b58] (entE 0 0 sig58 (x0, x1, ())) (entL sig58 (x0, x1, ())) := by
  unfold P58 at h
  unfold g58_0
  obtain ⟨s0, h⟩ := h
  obtain ⟨s1, h⟩ := h
  obtain ⟨s2, h⟩ := h
  obtain ⟨s3, h⟩ := h
  exact AtV.ret Tryz.func58 tabOk ext58Ok mixed false [] tys58 [] (a1 s0 (a1 s1 (a1 s2 (a1 s3 trivial)))) (by kernel_rfl)

def S58 : Am.Spec := { sig := sig58, pre := fun ⟨x0, x1, _⟩ => P58 x0 x1, res := fun ⟨x0, x1, _⟩ => [⟨Ty.str, g58_0 x0 x1⟩], kds := kds58 }
theorem con58 : Contract Tryz.prog 58 S58 := contract_of Tryz.func58 hb58 (Nat.le_of_ble_eq_true (by kernel_rfl)) (fun ⟨x0, x1, _⟩ h _ K q => at58 x0 x1 h K q)


end
end Go.Proofs.YtfpdnbojchnglaaGreatDoor

/- Function 31 (impl.DateText): its runs between cut points. Written by a program of this repo (gen). -/
set_option linter.unusedVariables false
set_option linter.unusedSimpArgs false
set_option maxRecDepth 100000
namespace Go.Proofs.YtfpdnbojchnglaaGreatDoor
open Go Go.Am Go.Proofs
noncomputable section
def ext31 : Ext := [(25, S25), (57, S57), (32, S32), (58, S58)]
theorem call31_25 : Callable Tryz.prog 25 := ⟨Tryz.f25, Tryz.func25, by kernel_rfl, by kernel_rfl⟩
theorem call31_57 : Callable Tryz.prog 57 := ⟨Tryz.f57, Tryz.func57, by kernel_rfl, by kernel_rfl⟩
theorem call31_32 : Callable Tryz.prog 32 := ⟨Tryz.f32, Tryz.func32, by kernel_rfl, by kernel_rfl⟩
theorem call31_58 : Callable Tryz.prog 58 := ⟨Tryz.f58, Tryz.func58, by kernel_rfl, by kernel_rfl⟩
theorem ext31Ok : ExtOk Tryz.prog ext31 := ⟨⟨call31_25, con25⟩, ⟨call31_57, con57⟩, ⟨call31_32, con32⟩, ⟨call31_58, con58⟩, trivial⟩

noncomputable def b31 : Code := bodyOf Tryz.f31
theorem hb31 : Tryz.f31.body = some b31 := by kernel_rfl
def sig31 : List AT := [AT.v (Ty.int IntKind.i64)]
def tys31 : List Ty := [Ty.str]
def kds31 : List RK := []
def oks31 : List AT := owns sig31
def P31 (x0 : Int) : Prop := (if (!g25_0 x0) = true then True else ((P57 x0) ∧ ((P32 (g57_0 x0)) ∧ ((ByteArray.size (g32_0 (g57_0 x0)) + 1 ≤ 9223372036854775807) ∧ ((P58 (g57_1 x0) 2) ∧ ((ByteArray.size (g32_0 (g57_0 x0) ++ ByteArray.mk #[45]) + ByteArray.size (g58_0 (g57_1 x0) 2) ≤ 9223372036854775807) ∧ ((ByteArray.size (g32_0 (g57_0 x0) ++ ByteArray.mk #[45] ++ g58_0 (g57_1 x0) 2) + 1 ≤ 9223372036854775807) ∧ ((P58 (g57_2 x0) 2) ∧ ((ByteArray.size (g32_0 (g57_0 x0) ++ ByteArray.mk #[45] ++ g58_0 (g57_1 x0) 2 ++ ByteArray.mk #[45]) + ByteArray.size (g58_0 (g57_2 x0) 2) ≤ 9223372036854775807) ∧ True)))))))))
def g31_0 (x0 : Int) : ByteArray := (if (!g25_0 x0) = true then ByteArray.mk #[] else g32_0 (g57_0 x0) ++ ByteArray.mk #[45] ++ g58_0 (g57_1 x0) 2 ++ ByteArray.mk #[45] ++ g58_0 (g57_2 x0) 2)
theorem at31 (x0 : Int) (h : P31 x0) (K : Ctx) (q : Nat → Value) : AtV Tryz.prog 31 (PostR kds31 oks31 [⟨Ty.str, g31_0 x0⟩] [] [] q K) 25 K q [] [.code b31] (entE 0 0 sig31 (x0, ())) (entL sig31 (x0, ())) := by
  unfold P31 at h
  unfold g31_0
  by_cases b0 : (!g25_0 x0) = true
  · try simp only [if_pos b0] at h ⊢
    exact AtV.ret Tryz.func31 tabOk ext31Ok mixed false [] tys31 [true] (a1 trivial (a1 b0 trivial)) (by kernel_rfl)
  · try simp only [if_neg b0] at h ⊢
    replace b0 := Bool.eq_false_iff.2 b0
    obtain ⟨s0, h⟩ := h
    obtain ⟨s1, h⟩ := h
    obtain ⟨s2, h⟩ := h
    obtain ⟨s3, h⟩ := h
    obtain ⟨s4, h⟩ := h
    obtain ⟨s5, h⟩ := h
    obtain ⟨s6, h⟩ := h
    obtain ⟨s7, h⟩ := h
    exact AtV.ret Tryz.func31 tabOk ext31Ok mixed false [] tys31 [false] (a1 trivial (a1 b0 (a1 s0 (a1 s1 (a1 s2 (a1 s3 (a1 s4 (a1 s5 (a1 s6 (a1 s7 trivial)))))))))) (by kernel_rfl)

def S31 : Am.Spec := { sig := sig31, pre := fun ⟨x0, _⟩ => P31 x0, res := fun ⟨x0, _⟩ => [⟨Ty.str, g31_0 x0⟩], kds := kds31 }
theorem con31 : Contract Tryz.prog 31 S31 := contract_of Tryz.func31 hb31 (Nat.le_of_ble_eq_true (by kernel_rfl)) (fun ⟨x0, _⟩ h _ K q => at31 x0 h K q)


end
end Go.Proofs.YtfpdnbojchnglaaGreatDoor

/- Function 9 (impl.TicketText): its runs between cut points. Written by a program of this repo (gen). -/
set_option linter.unusedVariables false
set_option linter.unusedSimpArgs false
set_option maxRecDepth 100000
namespace Go.Proofs.YtfpdnbojchnglaaGreatDoor
open Go Go.Am Go.Proofs
noncomputable section
def ext9 : Ext := [(24, S24), (31, S31), (32, S32)]
theorem call9_24 : Callable Tryz.prog 24 := ⟨Tryz.f24, Tryz.func24, by kernel_rfl, by kernel_rfl⟩
theorem call9_31 : Callable Tryz.prog 31 := ⟨Tryz.f31, Tryz.func31, by kernel_rfl, by kernel_rfl⟩
theorem call9_32 : Callable Tryz.prog 32 := ⟨Tryz.f32, Tryz.func32, by kernel_rfl, by kernel_rfl⟩
theorem ext9Ok : ExtOk Tryz.prog ext9 := ⟨⟨call9_24, con24⟩, ⟨call9_31, con31⟩, ⟨call9_32, con32⟩, trivial⟩

noncomputable def b9 : Code := bodyOf Tryz.f9
theorem hb9 : Tryz.f9.body = some b9 := by kernel_rfl
def sig9 : List AT := [AT.v (Ty.cons Ty.str (Ty.cons (Ty.int IntKind.i64) (Ty.cons (Ty.int IntKind.i64) Ty.unit)))]
def tys9 : List Ty := [Ty.str]
def kds9 : List RK := []
def oks9 : List AT := owns sig9
def P9 (x0 : ByteArray × Int × Int × Unit) : Prop := (if (!g24_0 x0) = true then True else ((ByteArray.size (Prod.fst x0) + 1 ≤ 9223372036854775807) ∧ ((P31 (Prod.fst (Prod.snd x0))) ∧ ((ByteArray.size (Prod.fst x0 ++ ByteArray.mk #[32]) + ByteArray.size (g31_0 (Prod.fst (Prod.snd x0))) ≤ 9223372036854775807) ∧ ((ByteArray.size (Prod.fst x0 ++ ByteArray.mk #[32] ++ g31_0 (Prod.fst (Prod.snd x0))) + 1 ≤ 9223372036854775807) ∧ ((P32 (Prod.fst (Prod.snd (Prod.snd x0)))) ∧ ((ByteArray.size (Prod.fst x0 ++ ByteArray.mk #[32] ++ g31_0 (Prod.fst (Prod.snd x0)) ++ ByteArray.mk #[32]) + ByteArray.size (g32_0 (Prod.fst (Prod.snd (Prod.snd x0)))) ≤ 9223372036854775807) ∧ True)))))))
def g9_0 (x0 : ByteArray × Int × Int × Unit) : ByteArray := (if (!g24_0 x0) = true then ByteArray.mk #[] else Prod.fst x0 ++ ByteArray.mk #[32] ++ g31_0 (Prod.fst (Prod.snd x0)) ++ ByteArray.mk #[32] ++ g32_0 (Prod.fst (Prod.snd (Prod.snd x0))))
theorem at9 (x0 : ByteArray × Int × Int × Unit) (h : P9 x0) (K : Ctx) (q : Nat → Value) : AtV Tryz.prog 9 (PostR kds9 oks9 [⟨Ty.str, g9_0 x0⟩] [] [] q K) 18 K q [] [.code b9] (entE 0 0 sig9 (x0, ())) (entL sig9 (x0, ())) := by
  unfold P9 at h
  unfold g9_0
  by_cases b0 : (!g24_0 x0) = true
  · try simp only [if_pos b0] at h ⊢
    exact AtV.ret Tryz.func9 tabOk ext9Ok mixed false [] tys9 [true] (a1 trivial (a1 b0 trivial)) (by kernel_rfl)
  · try simp only [if_neg b0] at h ⊢
    replace b0 := Bool.eq_false_iff.2 b0
    obtain ⟨s0, h⟩ := h
    obtain ⟨s1, h⟩ := h
    obtain ⟨s2, h⟩ := h
    obtain ⟨s3, h⟩ := h
    obtain ⟨s4, h⟩ := h
    obtain ⟨s5, h⟩ := h
    exact AtV.ret Tryz.func9 tabOk ext9Ok mixed false [] tys9 [false] (a1 trivial (a1 b0 (a1 s0 (a1 s1 (a1 s2 (a1 s3 (a1 s4 (a1 s5 trivial)))))))) (by kernel_rfl)

def S9 : Am.Spec := { sig := sig9, pre := fun ⟨x0, _⟩ => P9 x0, res := fun ⟨x0, _⟩ => [⟨Ty.str, g9_0 x0⟩], kds := kds9 }
theorem con9 : Contract Tryz.prog 9 S9 := contract_of Tryz.func9 hb9 (Nat.le_of_ble_eq_true (by kernel_rfl)) (fun ⟨x0, _⟩ h _ K q => at9 x0 h K q)


end
end Go.Proofs.YtfpdnbojchnglaaGreatDoor

/- Function 28 (strings.Split): its contract, off what is known of the library. -/
set_option linter.unusedVariables false
set_option linter.unusedSimpArgs false
set_option maxRecDepth 100000
namespace Go.Proofs.YtfpdnbojchnglaaGreatDoor
open Go Go.Am Go.Proofs

def sig28 : List AT := [AT.v Ty.str, AT.v Ty.str]
def g28_0 (x0 x1 : ByteArray) : List ByteArray := Lib.splitB x1 0 (Lib.countB x0 x1) x0
def P28 (x0 x1 : ByteArray) : Prop := x0.size < 4294967281 ∧ 1 ≤ x1.size
def S28 : Am.Spec := { sig := sig28, pre := fun ⟨x0, x1, _⟩ => P28 x0 x1, res := fun ⟨x0, x1, _⟩ => [⟨Ty.sl Ty.str, g28_0 x0 x1⟩] }

theorem con28 : Contract Tryz.prog 28 S28 := by
  refine Contract0.up rfl rfl ?_
  rintro w ⟨x0, x1, u⟩ vs bss hgo hp ⟨v0, s0, b0, bs0, rfl, rfl, ⟨rfl, rfl, _⟩, v1, s1, b1, bs1, rfl, rfl, ⟨rfl, rfl, _⟩, rfl, rfl⟩ hn
  obtain ⟨hs, h1⟩ : x0.size < 4294967281 ∧ 1 ≤ x1.size := hp
  obtain ⟨m, hm⟩ := maxLenG hgo.inv
  refine (Tryz.strings_Split x0 x1 m w hs hm h1).mono ?_
  rintro e w' ⟨rfl, rfl⟩
  have hlen : (g28_0 x0 x1).length = Lib.countB x0 x1 + 1 := Lib.splitB_all x1 h1 0 _ _ rfl
  have hle := Lib.countB_le x1 h1 x0.size x0 (Nat.le_refl _)
  have hparts : ∀ y ∈ g28_0 x0 x1, y.size ≤ maxLen := fun y hy => by
    have := splitB_part x1 0 _ _ y hy
    unfold maxLen; omega
  have e1 : ∀ xs : List ByteArray, fcs .str xs = xs.map Value.string := by
    intro xs
    induction xs with
    | nil => rfl
    | cons a r ih => unfold fcs at ih ⊢; rw [List.map_cons, List.flatten_cons, ih]; rfl
  have ho : OwnC (w.alloc (.cells ((g28_0 x0 x1).map Value.string).toArray 9)) (.sl .str) (g28_0 x0 x1) [.slice (some ⟨w.heap.size, 0, none⟩) (Lib.countB x0 x1 + 1) (Lib.countB x0 x1 + 1)] [w.heap.size] :=
    own_flat_mk rfl hparts hlen.symm (Nat.le_of_eq hlen) (by unfold maxLen; omega) (by rw [List.size_toArray, List.length_map, hlen]; simp [Ty.size]) (heap_new w _) (freeS_zero _ _) (fun j u hj => by
      rw [e1] at hj
      rw [Nat.zero_add, ← Array.getElem?_toList]
      exact hj)
  refine ⟨[_], [], [[w.heap.size]], rfl, (Kept.refl _ _).alloc _, ⟨_, _, _, _, _, rfl, rfl, ho, rfl, rfl, rfl⟩, ⟨rfl, rfl⟩, by simp, fun b hb hg => ?_⟩
  simp at hb
  have := hg.1
  omega

end Go.Proofs.YtfpdnbojchnglaaGreatDoor

/- Function 54 (impl.number): its runs between cut points. Written by a program of this repo (gen). -/
set_option linter.unusedVariables false
set_option linter.unusedSimpArgs false
set_option maxRecDepth 100000
namespace Go.Proofs.YtfpdnbojchnglaaGreatDoor
open Go Go.Am Go.Proofs
noncomputable section
def ext54 : Ext := []
theorem ext54Ok : ExtOk Tryz.prog ext54 := trivial

noncomputable def b54 : Code := bodyOf Tryz.f54
theorem hb54 : Tryz.f54.body = some b54 := by kernel_rfl
def sig54 : List AT := [AT.v (Ty.str)]
def tys54 : List Ty := [Ty.int IntKind.i64]
def kds54 : List RK := []
def oks54 : List AT := owns sig54
def E54_5 (v3 : Int) (v17 : Int) (x0 : ByteArray) : Env := [(3, PV.a (Atom.val (Value.int IntKind.i64 v3))), (15, PV.a (Atom.osl 0 Option.none)), (16, PV.a (Atom.val (Value.int IntKind.i64 (↑(List.length (bytesOf x0)) : Int)))), (17, PV.a (Atom.val (Value.int IntKind.i64 v17)))]
def L54_5 (v3 : Int) (v17 : Int) (x0 : ByteArray) : Heap := [Option.some (Arr.mk (Ty.int IntKind.u8) (bytesOf x0) Bool.false Option.none Option.none)]
mutual
def R54 : Nat → ByteArray → List Dyn → Prop
  | 0, _, _ => False
  | n + 1, x0, ds => (if (Decidable.decide ((↑(ByteArray.size x0) : Int) < 1)) = true then (ds = [Dyn.mk (Ty.int IntKind.i64) (-1)]) else (if (Decidable.decide ((↑(ByteArray.size x0) : Int) > 12)) = true then (ds = [Dyn.mk (Ty.int IntKind.i64) (-1)]) else (R54_5 n (0) (0) (x0) ds)))
def R54_5 : Nat → Int → Int → ByteArray → List Dyn → Prop
  | 0, _, _, _, _ => False
  | n + 1, v3, v17, x0, ds => (if (Decidable.decide (v17 < (↑(List.length (bytesOf x0)) : Int))) = true then ((0 ≤ v17) ∧ (v17 < (↑(List.length (bytesOf x0)) : Int)) ∧ (if (Decidable.decide (List.getD (bytesOf x0) (Int.toNat v17) 0 < 48)) = true then (ds = [Dyn.mk (Ty.int IntKind.i64) (-1)]) else (if (Decidable.decide (List.getD (bytesOf x0) (Int.toNat v17) 0 > 57)) = true then (ds = [Dyn.mk (Ty.int IntKind.i64) (-1)]) else ((InR IntKind.i64 (10 * v3)) ∧ ((InR IntKind.u8 (List.getD (bytesOf x0) (Int.toNat v17) 0 - 48)) ∧ ((InR IntKind.i64 (List.getD (bytesOf x0) (Int.toNat v17) 0 - 48)) ∧ ((InR IntKind.i64 (10 * v3 + (List.getD (bytesOf x0) (Int.toNat v17) 0 - 48))) ∧ ((InR IntKind.i64 (v17 + 1)) ∧ (R54_5 n (10 * v3 + (List.getD (bytesOf x0) (Int.toNat v17) 0 - 48)) (v17 + 1) (x0) ds))))))))) else (ds = [Dyn.mk (Ty.int IntKind.i64) v3]))
end
theorem snd54 : ∀ n, (∀ (x0 : ByteArray) ds, R54 n x0 ds → ∀ K q, AtV Tryz.prog 54 (PostR kds54 oks54 ds [] [] q K) 35 K q [] [.code b54] (entE 0 0 sig54 (x0, ())) (entL sig54 (x0, ()))) ∧ (∀ (v3 : Int) (v17 : Int) (x0 : ByteArray) ds, R54_5 n v3 v17 x0 ds → ∀ K q, AtV Tryz.prog 54 (PostR kds54 oks54 ds [] [] q K) 35 K q [] (cutAt b54 5) (E54_5 v3 v17 x0) (L54_5 v3 v17 x0)) := by
  intro n
  induction n with
  | zero => exact ⟨fun _ _ h => by simp only [R54] at h, fun _ _ _ _ h => by simp only [R54_5] at h⟩
  | succ n ih =>
  obtain ⟨ih, ih5⟩ := ih
  refine ⟨?_, ?_⟩
  · intro x0 ds h K q
    rw [R54] at h
    by_cases b0 : (Decidable.decide ((↑(ByteArray.size x0) : Int) < 1)) = true
    · rw [if_pos b0] at h
      subst h
      exact AtV.ret Tryz.func54 tabOk ext54Ok mixed false [] tys54 [true, true] (a1 b0 (a1 (rfl : Bool.true = Bool.true) trivial)) (by kernel_rfl)
    · rw [if_neg b0] at h
      replace b0 := Bool.eq_false_iff.2 b0
      by_cases b1 : (Decidable.decide ((↑(ByteArray.size x0) : Int) > 12)) = true
      · rw [if_pos b1] at h
        subst h
        exact AtV.ret Tryz.func54 tabOk ext54Ok mixed false [] tys54 [false, true] (a1 b0 (a1 b1 trivial)) (by kernel_rfl)
      · rw [if_neg b1] at h
        replace b1 := Bool.eq_false_iff.2 b1
        exact AtV.go tabOk ext54Ok mixed false [] [] [3, 15, 16, 17] [0] [false, false] (a1 b0 (a1 b1 trivial)) (ih5 _ _ _ _ h K q) (by kernel_rfl)

  · intro v3 v17 x0 ds h K q
    rw [R54_5] at h
    by_cases b0 : (Decidable.decide (v17 < (↑(List.length (bytesOf x0)) : Int))) = true
    · rw [if_pos b0] at h
      obtain ⟨s0, s1, h⟩ := h
      by_cases b1 : (Decidable.decide (List.getD (bytesOf x0) (Int.toNat v17) 0 < 48)) = true
      · rw [if_pos b1] at h
        subst h
        exact AtV.ret Tryz.func54 tabOk ext54Ok mixed false [] tys54 [true, true, true] (a1 b0 (a1 s0 (a1 s1 (a1 b1 (a1 (rfl : Bool.true = Bool.true) trivial))))) (by kernel_rfl)
      · rw [if_neg b1] at h
        replace b1 := Bool.eq_false_iff.2 b1
        by_cases b2 : (Decidable.decide (List.getD (bytesOf x0) (Int.toNat v17) 0 > 57)) = true
        · rw [if_pos b2] at h
          subst h
          exact AtV.ret Tryz.func54 tabOk ext54Ok mixed false [] tys54 [true, false, true] (a1 b0 (a1 s0 (a1 s1 (a1 b1 (a1 b2 trivial))))) (by kernel_rfl)
        · rw [if_neg b2] at h
          replace b2 := Bool.eq_false_iff.2 b2
          obtain ⟨s2, h⟩ := h
          obtain ⟨s3, h⟩ := h
          obtain ⟨s4, h⟩ := h
          obtain ⟨s5, h⟩ := h
          obtain ⟨s6, h⟩ := h
          exact AtV.go tabOk ext54Ok mixed false [] [] [3, 15, 16, 17] [0] [true, false, false] (a1 b0 (a1 s0 (a1 s1 (a1 b1 (a1 b2 (a1 s2 (a1 s3 (a1 s4 (a1 s5 (a1 s6 trivial)))))))))) (ih5 _ _ _ _ h K q) (by kernel_rfl)
    · rw [if_neg b0] at h
      replace b0 := Bool.eq_false_iff.2 b0
      subst h
      exact AtV.ret Tryz.func54 tabOk ext54Ok mixed false [] tys54 [false] (a1 b0 trivial) (by kernel_rfl)



def num54 : List UInt8 → Int → Int
  | [], n => n
  | b :: r, n => if decide (48 ≤ b.toNat) && decide (b.toNat ≤ 57) then num54 r (10 * n + ((b.toNat : Int) - 48)) else -1
def g54_0 (x0 : ByteArray) : Int := if x0.size < 1 ∨ 12 < x0.size then -1 else num54 x0.data.toList 0
def P54 (x0 : ByteArray) : Prop := True

theorem run54 (x0 : ByteArray) (hs : x0.size ≤ 12) : ∀ (k i m : Nat), i + k = x0.size → m < 10 ^ i →
    R54_5 (k + 1) (m : Int) (i : Int) x0 [⟨.int .i64, num54 (x0.data.toList.drop i) (m : Int)⟩] := by
  intro k
  have hll : x0.data.toList.length = x0.size := rfl
  have hbl : (bytesOf x0).length = x0.size := by unfold bytesOf; rw [List.length_map]; rfl
  induction k with
  | zero =>
    intro i m hi hm
    rw [R54_5, if_neg (by rw [hbl]; simp; omega), List.drop_of_length_le (by omega)]
    rfl
  | succ k ih =>
    intro i m hi hm
    have hlt : i < x0.data.toList.length := by rw [hll]; omega
    have hcons : x0.data.toList.drop i = x0.data.toList.getD i 0 :: x0.data.toList.drop (i + 1) := drop_get _ i 0 hlt
    have hbyte : (bytesOf x0).getD i 0 = ((x0.data.toList.getD i 0).toNat : Int) := by
      unfold bytesOf
      rw [List.getD_eq_getElem?_getD, List.getD_eq_getElem?_getD, List.getElem?_map, List.getElem?_eq_getElem hlt]
      rfl
    rw [R54_5, if_pos (by rw [hbl]; simp; omega), hcons]
    simp only [Int.toNat_natCast, hbyte, hbl]
    generalize x0.data.toList.getD i 0 = b at *
    refine ⟨by omega, by omega, ?_⟩
    unfold num54
    by_cases h1 : b.toNat < 48
    · have h1' : (b.toNat : Int) < 48 := by omega
      have h1'' : ¬ 48 ≤ b.toNat := by omega
      simp [h1', h1'']
    · have h1' : ¬ (b.toNat : Int) < 48 := by omega
      have h1'' : 48 ≤ b.toNat := by omega
      by_cases h2 : b.toNat > 57
      · have h2' : (b.toNat : Int) > 57 := by omega
        have h2'' : ¬ b.toNat ≤ 57 := by omega
        simp [h1', h2', h2'']
      · have h2' : ¬ (b.toNat : Int) > 57 := by omega
        have h2'' : b.toNat ≤ 57 := by omega
        have hp : 10 ^ i ≤ 10 ^ 11 := Nat.pow_le_pow_right (by decide) (by omega)
        have hm2 : m < 100000000000 := Nat.lt_of_lt_of_le hm hp
        simp only [h1', h1'', h2', h2'', decide_true, decide_false, Bool.and_self, Bool.false_eq_true, if_false, if_true]
        refine ⟨by rw [i64_iff]; omega, by rw [u8_iff]; omega, by rw [i64_iff]; omega, by rw [i64_iff]; omega, by rw [i64_iff]; omega, ?_⟩
        have e1 : 10 * (m : Int) + ((b.toNat : Int) - 48) = ((10 * m + (b.toNat - 48) : Nat) : Int) := by omega
        have e2 : (i : Int) + 1 = ((i + 1 : Nat) : Int) := by omega
        rw [e1, e2]
        exact ih (i + 1) (10 * m + (b.toNat - 48)) (by omega) (by rw [Nat.pow_succ]; omega)

theorem top54 (x0 : ByteArray) : R54 (x0.size + 1 + 1) x0 [⟨.int .i64, g54_0 x0⟩] := by
  rw [R54]
  unfold g54_0
  by_cases h1 : x0.size < 1
  · rw [if_pos (by simp; omega), if_pos (.inl h1)]
  · rw [if_neg (by simp; omega)]
    by_cases h2 : 12 < x0.size
    · rw [if_pos (by simp; omega), if_pos (.inr h2)]
    · rw [if_neg (by simp; omega), if_neg (by omega)]
      exact run54 x0 (by omega) x0.size 0 0 (by omega) (by decide)

def S54 : Am.Spec := { sig := sig54, pre := fun ⟨x0, _⟩ => P54 x0, res := fun ⟨x0, _⟩ => [⟨.int .i64, g54_0 x0⟩] }
theorem con54 : Contract Tryz.prog 54 S54 := contract_of Tryz.func54 hb54 (Nat.le_of_ble_eq_true (by kernel_rfl)) (fun ⟨x0, _⟩ h hwf K q =>
  (snd54 _).1 x0 _ (top54 x0) K q)

end
end Go.Proofs.YtfpdnbojchnglaaGreatDoor

/- Function 53 (impl.DayNumber): its runs between cut points. Written by a program of this repo (gen). -/
set_option linter.unusedVariables false
set_option linter.unusedSimpArgs false
set_option maxRecDepth 100000
namespace Go.Proofs.YtfpdnbojchnglaaGreatDoor
open Go Go.Am Go.Proofs
noncomputable section
def ext53 : Ext := [(40, S40), (66, S66), (67, S67)]
theorem call53_40 : Callable Tryz.prog 40 := ⟨Tryz.f40, Tryz.func40, by kernel_rfl, by kernel_rfl⟩
theorem call53_66 : Callable Tryz.prog 66 := ⟨Tryz.f66, Tryz.func66, by kernel_rfl, by kernel_rfl⟩
theorem call53_67 : Callable Tryz.prog 67 := ⟨Tryz.f67, Tryz.func67, by kernel_rfl, by kernel_rfl⟩
theorem ext53Ok : ExtOk Tryz.prog ext53 := ⟨⟨call53_40, con40⟩, ⟨call53_66, con66⟩, ⟨call53_67, con67⟩, trivial⟩

noncomputable def b53 : Code := bodyOf Tryz.f53
theorem hb53 : Tryz.f53.body = some b53 := by kernel_rfl
def sig53 : List AT := [AT.v (Ty.int IntKind.i64), AT.v (Ty.int IntKind.i64), AT.v (Ty.int IntKind.i64)]
def tys53 : List Ty := [Ty.int IntKind.i64, Ty.int IntKind.i64]
def kds53 : List RK := []
def oks53 : List AT := owns sig53
def P53 (x0 : Int) (x1 : Int) (x2 : Int) : Prop := (if (!g40_0 x0 2000 2099) = true then True else (if (!g40_0 x1 1 12) = true then True else ((P66 x0 x1) ∧ (if (!g40_0 x2 1 (g66_0 x0 x1)) = true then True else ((P67 x0 x1 x2) ∧ True)))))
def g53_0 (x0 : Int) (x1 : Int) (x2 : Int) : Int := (if (!g40_0 x0 2000 2099) = true then 0 else (if (!g40_0 x1 1 12) = true then 0 else (if (!g40_0 x2 1 (g66_0 x0 x1)) = true then 0 else g67_0 x0 x1 x2)))
def g53_1 (x0 : Int) (x1 : Int) (x2 : Int) : Int := (if (!g40_0 x0 2000 2099) = true then 2 else (if (!g40_0 x1 1 12) = true then 2 else (if (!g40_0 x2 1 (g66_0 x0 x1)) = true then 2 else 0)))
theorem at53 (x0 : Int) (x1 : Int) (x2 : Int) (h : P53 x0 x1 x2) (K : Ctx) (q : Nat → Value) : AtV Tryz.prog 53 (PostR kds53 oks53 [⟨Ty.int IntKind.i64, g53_0 x0 x1 x2⟩, ⟨Ty.int IntKind.i64, g53_1 x0 x1 x2⟩] [] [] q K) 28 K q [] [.code b53] (entE 0 0 sig53 (x0, x1, x2, ())) (entL sig53 (x0, x1, x2, ())) := by
  unfold P53 at h
  unfold g53_0 g53_1
  by_cases b0 : (!g40_0 x0 2000 2099) = true
  · try simp only [if_pos b0] at h ⊢
    exact AtV.ret Tryz.func53 tabOk ext53Ok mixed false [] tys53 [true, true, true] (a1 trivial (a1 b0 (a1 (rfl : Bool.true = Bool.true) (a1 (rfl : Bool.true = Bool.true) trivial)))) (by kernel_rfl)
  · try simp only [if_neg b0] at h ⊢
    replace b0 := Bool.eq_false_iff.2 b0
    by_cases b1 : (!g40_0 x1 1 12) = true
    · try simp only [if_pos b1] at h ⊢
      exact AtV.ret Tryz.func53 tabOk ext53Ok mixed false [] tys53 [false, true, true] (a1 trivial (a1 b0 (a1 trivial (a1 b1 (a1 (rfl : Bool.true = Bool.true) trivial))))) (by kernel_rfl)
    · try simp only [if_neg b1] at h ⊢
      replace b1 := Bool.eq_false_iff.2 b1
      obtain ⟨s0, h⟩ := h
      by_cases b2 : (!g40_0 x2 1 (g66_0 x0 x1)) = true
      · try simp only [if_pos b2] at h ⊢
        exact AtV.ret Tryz.func53 tabOk ext53Ok mixed false [] tys53 [false, false, true] (a1 trivial (a1 b0 (a1 trivial (a1 b1 (a1 s0 (a1 trivial (a1 b2 trivial))))))) (by kernel_rfl)
      · try simp only [if_neg b2] at h ⊢
        replace b2 := Bool.eq_false_iff.2 b2
        obtain ⟨s1, h⟩ := h
        exact AtV.ret Tryz.func53 tabOk ext53Ok mixed false [] tys53 [false, false, false] (a1 trivial (a1 b0 (a1 trivial (a1 b1 (a1 s0 (a1 trivial (a1 b2 (a1 s1 trivial)))))))) (by kernel_rfl)

def S53 : Am.Spec := { sig := sig53, pre := fun ⟨x0, x1, x2, _⟩ => P53 x0 x1 x2, res := fun ⟨x0, x1, x2, _⟩ => [⟨Ty.int IntKind.i64, g53_0 x0 x1 x2⟩, ⟨Ty.int IntKind.i64, g53_1 x0 x1 x2⟩], kds := kds53 }
theorem con53 : Contract Tryz.prog 53 S53 := contract_of Tryz.func53 hb53 (Nat.le_of_ble_eq_true (by kernel_rfl)) (fun ⟨x0, x1, x2, _⟩ h _ K q => at53 x0 x1 x2 h K q)


end
end Go.Proofs.YtfpdnbojchnglaaGreatDoor

/- Function 29 (impl.ReadDate): its runs between cut points. Written by a program of this repo (gen). -/
set_option linter.unusedVariables false
set_option linter.unusedSimpArgs false
set_option maxRecDepth 100000
namespace Go.Proofs.YtfpdnbojchnglaaGreatDoor
open Go Go.Am Go.Proofs
noncomputable section
def ext29 : Ext := [(28, S28), (54, S54), (53, S53), (31, S31)]
theorem call29_28 : Callable Tryz.prog 28 := ⟨Tryz.f28, Tryz.func28, by kernel_rfl, by kernel_rfl⟩
theorem call29_54 : Callable Tryz.prog 54 := ⟨Tryz.f54, Tryz.func54, by kernel_rfl, by kernel_rfl⟩
theorem call29_53 : Callable Tryz.prog 53 := ⟨Tryz.f53, Tryz.func53, by kernel_rfl, by kernel_rfl⟩
theorem call29_31 : Callable Tryz.prog 31 := ⟨Tryz.f31, Tryz.func31, by kernel_rfl, by kernel_rfl⟩
theorem ext29Ok : ExtOk Tryz.prog ext29 := ⟨⟨call29_28, con28⟩, ⟨call29_54, con54⟩, ⟨call29_53, con53⟩, ⟨call29_31, con31⟩, trivial⟩

noncomputable def b29 : Code := bodyOf Tryz.f29
theorem hb29 : Tryz.f29.body = some b29 := by kernel_rfl
def sig29 : List AT := [AT.v (Ty.str)]
def tys29 : List Ty := [Ty.int IntKind.i64, Ty.bool]
def kds29 : List RK := []
def oks29 : List AT := owns sig29
def P29 (x0 : ByteArray) : Prop := ((P28 x0 (ByteArray.mk #[45])) ∧ (if ((↑(List.length (g28_0 x0 (ByteArray.mk #[45]))) : Int) != 3) = true then True else ((0 < (↑(List.length (g28_0 x0 (ByteArray.mk #[45]))) : Int)) ∧ ((1 < (↑(List.length (g28_0 x0 (ByteArray.mk #[45]))) : Int)) ∧ ((2 < (↑(List.length (g28_0 x0 (ByteArray.mk #[45]))) : Int)) ∧ ((P53 (g54_0 (List.getD (g28_0 x0 (ByteArray.mk #[45])) 0 ByteArray.empty)) (g54_0 (List.getD (g28_0 x0 (ByteArray.mk #[45])) 1 ByteArray.empty)) (g54_0 (List.getD (g28_0 x0 (ByteArray.mk #[45])) 2 ByteArray.empty))) ∧ (if (g53_1 (g54_0 (List.getD (g28_0 x0 (ByteArray.mk #[45])) 0 ByteArray.empty)) (g54_0 (List.getD (g28_0 x0 (ByteArray.mk #[45])) 1 ByteArray.empty)) (g54_0 (List.getD (g28_0 x0 (ByteArray.mk #[45])) 2 ByteArray.empty)) != 0) = true then True else ((P31 (g53_0 (g54_0 (List.getD (g28_0 x0 (ByteArray.mk #[45])) 0 ByteArray.empty)) (g54_0 (List.getD (g28_0 x0 (ByteArray.mk #[45])) 1 ByteArray.empty)) (g54_0 (List.getD (g28_0 x0 (ByteArray.mk #[45])) 2 ByteArray.empty)))) ∧ True))))))))
def g29_0 (x0 : ByteArray) : Int := (if ((↑(List.length (g28_0 x0 (ByteArray.mk #[45]))) : Int) != 3) = true then 0 else (if (g53_1 (g54_0 (List.getD (g28_0 x0 (ByteArray.mk #[45])) 0 ByteArray.empty)) (g54_0 (List.getD (g28_0 x0 (ByteArray.mk #[45])) 1 ByteArray.empty)) (g54_0 (List.getD (g28_0 x0 (ByteArray.mk #[45])) 2 ByteArray.empty)) != 0) = true then 0 else (if (!ByteArray.toList (g31_0 (g53_0 (g54_0 (List.getD (g28_0 x0 (ByteArray.mk #[45])) 0 ByteArray.empty)) (g54_0 (List.getD (g28_0 x0 (ByteArray.mk #[45])) 1 ByteArray.empty)) (g54_0 (List.getD (g28_0 x0 (ByteArray.mk #[45])) 2 ByteArray.empty)))) == ByteArray.toList x0) = true then 0 else g53_0 (g54_0 (List.getD (g28_0 x0 (ByteArray.mk #[45])) 0 ByteArray.empty)) (g54_0 (List.getD (g28_0 x0 (ByteArray.mk #[45])) 1 ByteArray.empty)) (g54_0 (List.getD (g28_0 x0 (ByteArray.mk #[45])) 2 ByteArray.empty)))))
def g29_1 (x0 : ByteArray) : Bool := (if ((↑(List.length (g28_0 x0 (ByteArray.mk #[45]))) : Int) != 3) = true then Bool.false else (if (g53_1 (g54_0 (List.getD (g28_0 x0 (ByteArray.mk #[45])) 0 ByteArray.empty)) (g54_0 (List.getD (g28_0 x0 (ByteArray.mk #[45])) 1 ByteArray.empty)) (g54_0 (List.getD (g28_0 x0 (ByteArray.mk #[45])) 2 ByteArray.empty)) != 0) = true then Bool.false else (if (!ByteArray.toList (g31_0 (g53_0 (g54_0 (List.getD (g28_0 x0 (ByteArray.mk #[45])) 0 ByteArray.empty)) (g54_0 (List.getD (g28_0 x0 (ByteArray.mk #[45])) 1 ByteArray.empty)) (g54_0 (List.getD (g28_0 x0 (ByteArray.mk #[45])) 2 ByteArray.empty)))) == ByteArray.toList x0) = true then Bool.false else Bool.true)))
theorem at29 (x0 : ByteArray) (h : P29 x0) (K : Ctx) (q : Nat → Value) : AtV Tryz.prog 29 (PostR kds29 oks29 [⟨Ty.int IntKind.i64, g29_0 x0⟩, ⟨Ty.bool, g29_1 x0⟩] [] [] q K) 37 K q [] [.code b29] (entE 0 0 sig29 (x0, ())) (entL sig29 (x0, ())) := by
  unfold P29 at h
  unfold g29_0 g29_1
  obtain ⟨s0, h⟩ := h
  by_cases b0 : ((↑(List.length (g28_0 x0 (ByteArray.mk #[45]))) : Int) != 3) = true
  · try simp only [if_pos b0] at h ⊢
    exact AtV.ret Tryz.func29 tabOk ext29Ok mixed false [] tys29 [true] (a1 s0 (a1 b0 trivial)) (by kernel_rfl)
  · try simp only [if_neg b0] at h ⊢
    replace b0 := Bool.eq_false_iff.2 b0
    obtain ⟨s1, h⟩ := h
    obtain ⟨s2, h⟩ := h
    obtain ⟨s3, h⟩ := h
    obtain ⟨s4, h⟩ := h
    by_cases b1 : (g53_1 (g54_0 (List.getD (g28_0 x0 (ByteArray.mk #[45])) 0 ByteArray.empty)) (g54_0 (List.getD (g28_0 x0 (ByteArray.mk #[45])) 1 ByteArray.empty)) (g54_0 (List.getD (g28_0 x0 (ByteArray.mk #[45])) 2 ByteArray.empty)) != 0) = true
    · try simp only [if_pos b1] at h ⊢
      exact AtV.ret Tryz.func29 tabOk ext29Ok mixed false [] tys29 [false, true, true] (a1 s0 (a1 b0 (a1 ((by decide) : (0 : Int) ≤ (0 : Int)) (a1 s1 (a1 trivial (a1 ((by decide) : (0 : Int) ≤ (1 : Int)) (a1 s2 (a1 trivial (a1 ((by decide) : (0 : Int) ≤ (2 : Int)) (a1 s3 (a1 trivial (a1 s4 (a1 b1 (a1 (rfl : Bool.true = Bool.true) trivial)))))))))))))) (by kernel_rfl)
    · try simp only [if_neg b1] at h ⊢
      replace b1 := Bool.eq_false_iff.2 b1
      obtain ⟨s5, h⟩ := h
      by_cases b2 : (!ByteArray.toList (g31_0 (g53_0 (g54_0 (List.getD (g28_0 x0 (ByteArray.mk #[45])) 0 ByteArray.empty)) (g54_0 (List.getD (g28_0 x0 (ByteArray.mk #[45])) 1 ByteArray.empty)) (g54_0 (List.getD (g28_0 x0 (ByteArray.mk #[45])) 2 ByteArray.empty)))) == ByteArray.toList x0) = true
      · try simp only [if_pos b2] at h ⊢
        exact AtV.ret Tryz.func29 tabOk ext29Ok mixed false [] tys29 [false, false, true] (a1 s0 (a1 b0 (a1 ((by decide) : (0 : Int) ≤ (0 : Int)) (a1 s1 (a1 trivial (a1 ((by decide) : (0 : Int) ≤ (1 : Int)) (a1 s2 (a1 trivial (a1 ((by decide) : (0 : Int) ≤ (2 : Int)) (a1 s3 (a1 trivial (a1 s4 (a1 b1 (a1 s5 (a1 b2 trivial))))))))))))))) (by kernel_rfl)
      · try simp only [if_neg b2] at h ⊢
        replace b2 := Bool.eq_false_iff.2 b2
        exact AtV.ret Tryz.func29 tabOk ext29Ok mixed false [] tys29 [false, false, false] (a1 s0 (a1 b0 (a1 ((by decide) : (0 : Int) ≤ (0 : Int)) (a1 s1 (a1 trivial (a1 ((by decide) : (0 : Int) ≤ (1 : Int)) (a1 s2 (a1 trivial (a1 ((by decide) : (0 : Int) ≤ (2 : Int)) (a1 s3 (a1 trivial (a1 s4 (a1 b1 (a1 s5 (a1 b2 trivial))))))))))))))) (by kernel_rfl)

def S29 : Am.Spec := { sig := sig29, pre := fun ⟨x0, _⟩ => P29 x0, res := fun ⟨x0, _⟩ => [⟨Ty.int IntKind.i64, g29_0 x0⟩, ⟨Ty.bool, g29_1 x0⟩], kds := kds29 }
theorem con29 : Contract Tryz.prog 29 S29 := contract_of Tryz.func29 hb29 (Nat.le_of_ble_eq_true (by kernel_rfl)) (fun ⟨x0, _⟩ h _ K q => at29 x0 h K q)


end
end Go.Proofs.YtfpdnbojchnglaaGreatDoor

/- Function 56 (strconv.ParseInt): its contract, off what is known of the library. -/
set_option linter.unusedVariables false
set_option linter.unusedSimpArgs false
set_option maxRecDepth 100000
namespace Go.Proofs.YtfpdnbojchnglaaGreatDoor
open Go Go.Am Go.Proofs

theorem parseOk56 (s : ByteArray) (hs : s.size ≤ 281474976710656) (v : Int) (h : Lib.parseIntB 64 s.data.toList = .ok v) (W : World) :
    Calls Tryz.prog 56 #[.string s, .int .i64 10, .int .i64 64] W fun e w' => e = .returned (.tuple #[.int .i64 v, .nilIface]) ∧ Go.RowKit.Below W.heap.size W w' := by
  refine (Tryz.strconv_ParseInt_10_at64_ok s (by omega) v h W).mono ?_
  rintro e w' ⟨rfl, hw⟩
  refine ⟨rfl, ?_⟩
  rcases hw with rfl | ⟨t, rfl⟩
  · exact Go.RowKit.Below.refl _ _
  · exact Lib.bytesWorld_below _ _ _

theorem parseNo56 (s : ByteArray) (hs : s.size ≤ 281474976710656) (h : ∀ v, Lib.parseIntB 64 s.data.toList ≠ .ok v) (W : World) (hg : GInv W) :
    Calls Tryz.prog 56 #[.string s, .int .i64 10, .int .i64 64] W fun e w' => ∃ n t N, e = .returned (.tuple #[.int .i64 n, .iface t (.pointer (some ⟨N, 0, none⟩))]) ∧ Go.RowKit.Below W.heap.size W w' := by
  obtain ⟨es, hes, hes2⟩ := errSyntaxG hg
  obtain ⟨er, her, her2⟩ := errRangeG hg
  rcases hp : Lib.parseIntB 64 s.data.toList with v | _ | _
  · exact absurd hp (h v)
  · refine (Tryz.strconv_ParseInt_10_at64_syntax s hs hp es W hes hes2).mono ?_
    rintro e w' ⟨N, rfl, _, _, hb⟩
    exact ⟨_, _, _, rfl, hb⟩
  · refine (Tryz.strconv_ParseInt_10_at64_range s hs hp er W her her2).mono ?_
    rintro e w' ⟨N, rfl, _, _, hb⟩
    exact ⟨_, _, _, rfl, hb⟩

end Go.Proofs.YtfpdnbojchnglaaGreatDoor

/- Function 55 (strings.TrimPrefix): its contract, off what is known of the library. -/
set_option linter.unusedVariables false
set_option linter.unusedSimpArgs false
set_option maxRecDepth 100000
namespace Go.Proofs.YtfpdnbojchnglaaGreatDoor
open Go Go.Am Go.Proofs
def g55_0 (x0 x1 : ByteArray) : ByteArray := ⟨(Lib.trimPrefix x0.data.toList x1.data.toList).toArray⟩
end Go.Proofs.YtfpdnbojchnglaaGreatDoor

/- Function 30 (impl.ReadDecimal): its contract; by the kit's walk, the callees by their contracts. -/
set_option linter.unusedVariables false
set_option linter.unusedSimpArgs false
set_option maxRecDepth 100000
namespace Go.Proofs.YtfpdnbojchnglaaGreatDoor
open Go Go.Am Go.Proofs Go.RowKit

theorem dec30 (W : World) (n : Int) (hi : InR .i64 n) (hgo : GOk W []) :
    Calls Tryz.prog 32 #[.int .i64 n] W fun e w' => e = .returned (.string (numB n)) ∧ Below W.heap.size W w' := by
  have h := con32.down rfl W (n, ()) [.int .i64 n] [[]] hgo ⟨rfl, trivial⟩ ⟨_, [], [], [], rfl, rfl, ⟨rfl, rfl, hi⟩, rfl, rfl⟩ (by simp)
  refine h.mono ?_
  rintro e w' ⟨rs, ubs, rbs, rfl, hk, ⟨u, s, b1, bs1, cs, rfl, rfl, ho, hv, rfl, rfl⟩, _⟩
  obtain ⟨ho, _⟩ := ho
  have hv : cs = [u] := hv
  rw [ho] at hv
  cases hv
  exact ⟨rfl, hk.below⟩

theorem trim30 (W : World) (s d : ByteArray) (h : g55_0 s ⟨#[45]⟩ = d) : Calls Tryz.prog 55 #[.string s, .string ⟨#[45]⟩] W fun e w' => e = .returned (.string d) ∧ w' = W := by
  rw [← h]
  exact Tryz.strings_TrimPrefix s ⟨#[45]⟩ W

theorem gok30 {w W : World} (h : GOk w []) (hb : Below w.heap.size w W) : GOk W [] where
  inv := h.inv.keep fun b _ hs => hb.5 b hs
  size := Nat.le_trans h.size hb.4
  out := h.out

theorem range30 {l : List UInt8} {v : Int} (h : Lib.parseIntB 64 l = .ok v) : InR .i64 v := by
  unfold Lib.parseIntB at h
  split at h
  · cases h
  · simp only at h
    split at h
    · cases h
    · cases h
    · split at h
      · cases h
      · split at h
        · cases h
        · rename_i u _ h1 h2
          have e1 : (2 : Nat) ^ (64 - 1) = 9223372036854775808 := by decide
          rw [e1] at h1 h2
          rw [i64_iff]
          split at h
          · cases h; rename_i hn; have : ¬ 9223372036854775808 < u := fun hh => h2 ⟨hn, hh⟩; omega
          · cases h; rename_i hn; have : ¬ 9223372036854775808 ≤ u := fun hh => h1 ⟨hn, hh⟩; omega

def long30 (s : ByteArray) : Bool := decide ((g55_0 s ⟨#[45]⟩).size < 1) || decide (18 < (g55_0 s ⟨#[45]⟩).size)
def rd30 (s : ByteArray) : Option Int := if long30 s = true then none else match Lib.parseIntB 64 s.data.toList with
  | .ok v => if numB v = s then some v else none
  | _ => none

set_option maxHeartbeats 4000000 in
theorem walkShort30 (w : World) (s d : ByteArray) (HD : Aside (g55_0 s ⟨#[45]⟩ = d)) (h1 : (d.size : Int) < 1) :
    Calls Tryz.prog 30 #[.string s] w fun e w' => e = .returned (.tuple #[.int .i64 0, .bool false]) ∧ Below w.heap.size w w' := by
  have mixed := mixed
  go_enter Tryz.func30, Tryz.ntmps30
  go_wp2_with (go_at_call 55; refine (trim30 _ s d HD.out).mono ?_; rintro e w1 ⟨rfl, rfl⟩)
  go_ret2
  exact ⟨rfl, Below.refl _ _⟩

set_option maxHeartbeats 4000000 in
theorem walkLong30 (w : World) (s d : ByteArray) (HD : Aside (g55_0 s ⟨#[45]⟩ = d)) (h1 : ¬ (d.size : Int) < 1) (h2 : (d.size : Int) > 18) :
    Calls Tryz.prog 30 #[.string s] w fun e w' => e = .returned (.tuple #[.int .i64 0, .bool false]) ∧ Below w.heap.size w w' := by
  have mixed := mixed
  go_enter Tryz.func30, Tryz.ntmps30
  go_wp2_with (go_at_call 55; refine (trim30 _ s d HD.out).mono ?_; rintro e w1 ⟨rfl, rfl⟩)
  go_ret2
  exact ⟨rfl, Below.refl _ _⟩

set_option maxHeartbeats 4000000 in
theorem walkEq30 (w : World) (s d : ByteArray) (hs : s.size ≤ 281474976710656) (hgo : GOk w []) (HD : Aside (g55_0 s ⟨#[45]⟩ = d)) (h1 : ¬ (d.size : Int) < 1) (h2 : ¬ (d.size : Int) > 18) (v : Int) (HP : Aside (Lib.parseIntB 64 s.data.toList = .ok v)) (HE : Aside (numB v = s)) :
    Calls Tryz.prog 30 #[.string s] w fun e w' => e = .returned (.tuple #[.int .i64 v, .bool true]) ∧ Below w.heap.size w w' := by
  have mixed := mixed
  go_enter Tryz.func30, Tryz.ntmps30
  go_wp2_with (go_at_call 55; refine (trim30 _ s d HD.out).mono ?_; rintro e w1 ⟨rfl, rfl⟩)
  have HR : Aside (InR .i64 v) := range30 HP.out
  go_wp2_with (go_at_call 56; refine (parseOk56 s hs v HP.out _).mono ?_)
  rintro e w2 ⟨rfl, b2⟩
  go_wp2_with (go_at_call 32; refine (dec30 _ v HR.out (gok30 hgo b2)).mono ?_)
  rintro e w3 ⟨rfl, b3⟩
  rw [HE.out]
  go_wp2
  go_ret2
  exact ⟨rfl, b2.trans (b3.mono b2.size)⟩

set_option maxHeartbeats 4000000 in
theorem walkNe30 (w : World) (s d : ByteArray) (hs : s.size ≤ 281474976710656) (hgo : GOk w []) (HD : Aside (g55_0 s ⟨#[45]⟩ = d)) (h1 : ¬ (d.size : Int) < 1) (h2 : ¬ (d.size : Int) > 18) (v : Int) (HP : Aside (Lib.parseIntB 64 s.data.toList = .ok v)) (HE : Aside (¬ numB v = s)) :
    Calls Tryz.prog 30 #[.string s] w fun e w' => e = .returned (.tuple #[.int .i64 0, .bool false]) ∧ Below w.heap.size w w' := by
  have mixed := mixed
  go_enter Tryz.func30, Tryz.ntmps30
  go_wp2_with (go_at_call 55; refine (trim30 _ s d HD.out).mono ?_; rintro e w1 ⟨rfl, rfl⟩)
  have HR : Aside (InR .i64 v) := range30 HP.out
  go_wp2_with (go_at_call 56; refine (parseOk56 s hs v HP.out _).mono ?_)
  rintro e w2 ⟨rfl, b2⟩
  go_wp2_with (go_at_call 32; refine (dec30 _ v HR.out (gok30 hgo b2)).mono ?_)
  rintro e w3 ⟨rfl, b3⟩
  have he' : ((numB v).toList == s.toList) = false := by
    rw [Bool.eq_false_iff]; exact fun hh => HE.out ((bytes_eq _ _).1 hh)
  go_wp2
  go_ret2
  exact ⟨rfl, b2.trans (b3.mono b2.size)⟩

set_option maxHeartbeats 4000000 in
theorem walkNo30 (w : World) (s d : ByteArray) (hs : s.size ≤ 281474976710656) (hgo : GOk w []) (HD : Aside (g55_0 s ⟨#[45]⟩ = d)) (h1 : ¬ (d.size : Int) < 1) (h2 : ¬ (d.size : Int) > 18) (HP : Aside (∀ v, Lib.parseIntB 64 s.data.toList ≠ .ok v)) :
    Calls Tryz.prog 30 #[.string s] w fun e w' => e = .returned (.tuple #[.int .i64 0, .bool false]) ∧ Below w.heap.size w w' := by
  have mixed := mixed
  go_enter Tryz.func30, Tryz.ntmps30
  go_wp2_with (go_at_call 55; refine (trim30 _ s d HD.out).mono ?_; rintro e w1 ⟨rfl, rfl⟩)
  go_wp2_with (go_at_call 56; refine (parseNo56 s hs HP.out _ hgo.inv).mono ?_)
  rintro e w2 ⟨n, t, N, rfl, b2⟩
  go_wp2
  go_ret2
  exact ⟨rfl, b2⟩

def sig30 : List AT := [AT.v .str]
def g30_0 (x0 : ByteArray) : Int := (rd30 x0).getD 0
def g30_1 (x0 : ByteArray) : Bool := (rd30 x0).isSome
def P30 (x0 : ByteArray) : Prop := x0.size ≤ 281474976710656
def S30 : Am.Spec := { sig := sig30, pre := fun ⟨x0, _⟩ => P30 x0, res := fun ⟨x0, _⟩ => [⟨.int .i64, g30_0 x0⟩, ⟨.bool, g30_1 x0⟩] }

theorem con30 : Contract Tryz.prog 30 S30 := contract_flat rfl fun w ⟨x0, _⟩ vs bss hg hp hw ha => by
  obtain ⟨v0, s0, _, _, rfl, _, ⟨_, rfl, _⟩, rfl, _⟩ := ha
  have hs : x0.size ≤ 281474976710656 := hp
  have hgo : GOk w [] := ⟨hg, hg.size, fun b hb => by cases hb⟩
  refine ⟨fun d hd => ?_, ?_⟩
  · simp only [List.mem_cons, List.mem_nil_iff, or_false] at hd
    rcases hd with rfl | rfl
    · refine ⟨rfl, ?_⟩
      show InR .i64 ((rd30 x0).getD 0)
      have z : InR .i64 0 := by rw [i64_iff]; omega
      unfold rd30
      split
      · exact z
      · split
        · rename_i v h
          split
          · exact range30 h
          · exact z
        · exact z
    · exact ⟨rfl, trivial⟩
  · show Calls Tryz.prog 30 #[.string x0] w fun e w' => e = .returned (.tuple #[.int .i64 ((rd30 x0).getD 0), .bool (rd30 x0).isSome]) ∧ Kept [] w w'
    have hd : Aside (g55_0 x0 ⟨#[45]⟩ = g55_0 x0 ⟨#[45]⟩) := rfl
    unfold rd30 long30
    by_cases h1 : (g55_0 x0 ⟨#[45]⟩).size < 1
    · rw [if_pos (by simp [h1])]
      refine (walkShort30 w x0 _ hd (by omega)).mono ?_
      rintro e w' ⟨rfl, hb⟩
      exact ⟨rfl, Kept.of_below hb⟩
    · by_cases h2 : 18 < (g55_0 x0 ⟨#[45]⟩).size
      · rw [if_pos (by simp [h2])]
        refine (walkLong30 w x0 _ hd (by omega) (by omega)).mono ?_
        rintro e w' ⟨rfl, hb⟩
        exact ⟨rfl, Kept.of_below hb⟩
      · rw [if_neg (by simp [h1, h2])]
        by_cases hok : ∃ v, Lib.parseIntB 64 x0.data.toList = .ok v
        · obtain ⟨v, hv⟩ := hok
          rw [hv]
          by_cases he : numB v = x0
          · simp only [if_pos he]
            refine (walkEq30 w x0 _ hs hgo hd (by omega) (by omega) v hv he).mono ?_
            rintro e w' ⟨rfl, hb⟩
            exact ⟨rfl, Kept.of_below hb⟩
          · simp only [if_neg he]
            refine (walkNe30 w x0 _ hs hgo hd (by omega) (by omega) v hv he).mono ?_
            rintro e w' ⟨rfl, hb⟩
            exact ⟨rfl, Kept.of_below hb⟩
        · have hno : ∀ v, Lib.parseIntB 64 x0.data.toList ≠ .ok v := fun v hv => hok ⟨v, hv⟩
          have e : (match Lib.parseIntB 64 x0.data.toList with
            | .ok v => if numB v = x0 then some v else none
            | _ => none : Option Int) = none := by
            split
            · rename_i v hv; exact absurd hv (hno v)
            · rfl
          rw [e]
          refine (walkNo30 w x0 _ hs hgo hd (by omega) (by omega) hno).mono ?_
          rintro e w' ⟨rfl, hb⟩
          exact ⟨rfl, Kept.of_below hb⟩
end Go.Proofs.YtfpdnbojchnglaaGreatDoor

/- Function 8 (impl.ReadTicket): its runs between cut points. Written by a program of this repo (gen). -/
set_option linter.unusedVariables false
set_option linter.unusedSimpArgs false
set_option maxRecDepth 100000
namespace Go.Proofs.YtfpdnbojchnglaaGreatDoor
open Go Go.Am Go.Proofs
noncomputable section
def ext8 : Ext := [(28, S28), (29, S29), (30, S30), (9, S9)]
theorem call8_28 : Callable Tryz.prog 28 := ⟨Tryz.f28, Tryz.func28, by kernel_rfl, by kernel_rfl⟩
theorem call8_29 : Callable Tryz.prog 29 := ⟨Tryz.f29, Tryz.func29, by kernel_rfl, by kernel_rfl⟩
theorem call8_30 : Callable Tryz.prog 30 := ⟨Tryz.f30, Tryz.func30, by kernel_rfl, by kernel_rfl⟩
theorem call8_9 : Callable Tryz.prog 9 := ⟨Tryz.f9, Tryz.func9, by kernel_rfl, by kernel_rfl⟩
theorem ext8Ok : ExtOk Tryz.prog ext8 := ⟨⟨call8_28, con28⟩, ⟨call8_29, con29⟩, ⟨call8_30, con30⟩, ⟨call8_9, con9⟩, trivial⟩

noncomputable def b8 : Code := bodyOf Tryz.f8
theorem hb8 : Tryz.f8.body = some b8 := by kernel_rfl
def sig8 : List AT := [AT.v (Ty.str)]
def tys8 : List Ty := [Ty.cons Ty.str (Ty.cons (Ty.int IntKind.i64) (Ty.cons (Ty.int IntKind.i64) Ty.unit)), Ty.bool]
def kds8 : List RK := []
def oks8 : List AT := owns sig8
def P8 (x0 : ByteArray) : Prop := ((P28 x0 (ByteArray.mk #[32])) ∧ (if ((↑(List.length (g28_0 x0 (ByteArray.mk #[32]))) : Int) != 3) = true then True else ((0 < (↑(List.length (g28_0 x0 (ByteArray.mk #[32]))) : Int)) ∧ ((1 < (↑(List.length (g28_0 x0 (ByteArray.mk #[32]))) : Int)) ∧ ((P29 (List.getD (g28_0 x0 (ByteArray.mk #[32])) 1 ByteArray.empty)) ∧ ((2 < (↑(List.length (g28_0 x0 (ByteArray.mk #[32]))) : Int)) ∧ ((P30 (List.getD (g28_0 x0 (ByteArray.mk #[32])) 2 ByteArray.empty)) ∧ ((P9 (List.getD (g28_0 x0 (ByteArray.mk #[32])) 0 ByteArray.empty, g29_0 (List.getD (g28_0 x0 (ByteArray.mk #[32])) 1 ByteArray.empty), g30_0 (List.getD (g28_0 x0 (ByteArray.mk #[32])) 2 ByteArray.empty), ())) ∧ True))))))))
def g8_0 (x0 : ByteArray) : ByteArray × Int × Int × Unit := (if ((↑(List.length (g28_0 x0 (ByteArray.mk #[32]))) : Int) != 3) = true then (ByteArray.empty, 0, 0, ()) else (if (!ByteArray.toList (g9_0 (List.getD (g28_0 x0 (ByteArray.mk #[32])) 0 ByteArray.empty, g29_0 (List.getD (g28_0 x0 (ByteArray.mk #[32])) 1 ByteArray.empty), g30_0 (List.getD (g28_0 x0 (ByteArray.mk #[32])) 2 ByteArray.empty), ())) == ByteArray.toList x0) = true then (ByteArray.empty, 0, 0, ()) else (List.getD (g28_0 x0 (ByteArray.mk #[32])) 0 ByteArray.empty, g29_0 (List.getD (g28_0 x0 (ByteArray.mk #[32])) 1 ByteArray.empty), g30_0 (List.getD (g28_0 x0 (ByteArray.mk #[32])) 2 ByteArray.empty), ())))
def g8_1 (x0 : ByteArray) : Bool := (if ((↑(List.length (g28_0 x0 (ByteArray.mk #[32]))) : Int) != 3) = true then Bool.false else (if (!ByteArray.toList (g9_0 (List.getD (g28_0 x0 (ByteArray.mk #[32])) 0 ByteArray.empty, g29_0 (List.getD (g28_0 x0 (ByteArray.mk #[32])) 1 ByteArray.empty), g30_0 (List.getD (g28_0 x0 (ByteArray.mk #[32])) 2 ByteArray.empty), ())) == ByteArray.toList x0) = true then Bool.false else Bool.true))
theorem at8 (x0 : ByteArray) (h : P8 x0) (K : Ctx) (q : Nat → Value) : AtV Tryz.prog 8 (PostR kds8 oks8 [⟨Ty.cons Ty.str (Ty.cons (Ty.int IntKind.i64) (Ty.cons (Ty.int IntKind.i64) Ty.unit)), g8_0 x0⟩, ⟨Ty.bool, g8_1 x0⟩] [] [] q K) 38 K q [] [.code b8] (entE 0 0 sig8 (x0, ())) (entL sig8 (x0, ())) := by
  unfold P8 at h
  unfold g8_0 g8_1
  obtain ⟨s0, h⟩ := h
  by_cases b0 : ((↑(List.length (g28_0 x0 (ByteArray.mk #[32]))) : Int) != 3) = true
  · try simp only [if_pos b0] at h ⊢
    exact AtV.ret Tryz.func8 tabOk ext8Ok mixed false [] tys8 [true] (a1 s0 (a1 b0 trivial)) (by kernel_rfl)
  · try simp only [if_neg b0] at h ⊢
    replace b0 := Bool.eq_false_iff.2 b0
    obtain ⟨s1, h⟩ := h
    obtain ⟨s2, h⟩ := h
    obtain ⟨s3, h⟩ := h
    obtain ⟨s4, h⟩ := h
    obtain ⟨s5, h⟩ := h
    obtain ⟨s6, h⟩ := h
    by_cases b1 : (!ByteArray.toList (g9_0 (List.getD (g28_0 x0 (ByteArray.mk #[32])) 0 ByteArray.empty, g29_0 (List.getD (g28_0 x0 (ByteArray.mk #[32])) 1 ByteArray.empty), g30_0 (List.getD (g28_0 x0 (ByteArray.mk #[32])) 2 ByteArray.empty), ())) == ByteArray.toList x0) = true
    · try simp only [if_pos b1] at h ⊢
      exact AtV.ret Tryz.func8 tabOk ext8Ok mixed false [] tys8 [false, true] (a1 s0 (a1 b0 (a1 ((by decide) : (0 : Int) ≤ (0 : Int)) (a1 s1 (a1 ((by decide) : (0 : Int) ≤ (1 : Int)) (a1 s2 (a1 s3 (a1 ((by decide) : (0 : Int) ≤ (2 : Int)) (a1 s4 (a1 s5 (a1 s6 (a1 b1 trivial)))))))))))) (by kernel_rfl)
    · try simp only [if_neg b1] at h ⊢
      replace b1 := Bool.eq_false_iff.2 b1
      exact AtV.ret Tryz.func8 tabOk ext8Ok mixed false [] tys8 [false, false] (a1 s0 (a1 b0 (a1 ((by decide) : (0 : Int) ≤ (0 : Int)) (a1 s1 (a1 ((by decide) : (0 : Int) ≤ (1 : Int)) (a1 s2 (a1 s3 (a1 ((by decide) : (0 : Int) ≤ (2 : Int)) (a1 s4 (a1 s5 (a1 s6 (a1 b1 trivial)))))))))))) (by kernel_rfl)

def S8 : Am.Spec := { sig := sig8, pre := fun ⟨x0, _⟩ => P8 x0, res := fun ⟨x0, _⟩ => [⟨Ty.cons Ty.str (Ty.cons (Ty.int IntKind.i64) (Ty.cons (Ty.int IntKind.i64) Ty.unit)), g8_0 x0⟩, ⟨Ty.bool, g8_1 x0⟩], kds := kds8 }
theorem con8 : Contract Tryz.prog 8 S8 := contract_of Tryz.func8 hb8 (Nat.le_of_ble_eq_true (by kernel_rfl)) (fun ⟨x0, _⟩ h _ K q => at8 x0 h K q)


end
end Go.Proofs.YtfpdnbojchnglaaGreatDoor

/- Function 34 (spec.l18DrawPeople): its runs between cut points. Written by a program of this repo (gen). -/
set_option linter.unusedVariables false
set_option linter.unusedSimpArgs false
set_option maxRecDepth 100000
namespace Go.Proofs.YtfpdnbojchnglaaGreatDoor
open Go Go.Am Go.Proofs
noncomputable section
def ext34 : Ext := [(35, S35)]
theorem call34_35 : Callable Tryz.prog 35 := ⟨Tryz.f35, Tryz.func35, by kernel_rfl, by kernel_rfl⟩
theorem ext34Ok : ExtOk Tryz.prog ext34 := ⟨⟨call34_35, con35⟩, trivial⟩

noncomputable def b34 : Code := bodyOf Tryz.f34
theorem hb34 : Tryz.f34.body = some b34 := by kernel_rfl
def sig34 : List AT := [AT.pb (Ty.cons (Ty.sl (Ty.int IntKind.u8)) (Ty.cons (Ty.int IntKind.i64) (Ty.cons (Ty.int IntKind.u64) Ty.unit)))]
def tys34 : List Ty := [Ty.int IntKind.i64]
def kds34 : List RK := []
def oks34 : List AT := owns sig34
def P34 (x0 : List Int × Int × Int × Unit) : Prop := ((P35 x0 [0, 1, 2, 5, 11, 40, 100, 101, -1]) ∧ True)
def g34_0 (x0 : List Int × Int × Int × Unit) : Int := g35_0 x0 [0, 1, 2, 5, 11, 40, 100, 101, -1]
def u34_0 (x0 : List Int × Int × Int × Unit) : List Int × Int × Int × Unit := u35_0 x0 [0, 1, 2, 5, 11, 40, 100, 101, -1]
theorem at34 (x0 : List Int × Int × Int × Unit) (h : P34 x0) (K : Ctx) (q : Nat → Value) : AtV Tryz.prog 34 (PostR kds34 oks34 [⟨Ty.int IntKind.i64, g34_0 x0⟩] [some ⟨Ty.cons (Ty.sl (Ty.int IntKind.u8)) (Ty.cons (Ty.int IntKind.i64) (Ty.cons (Ty.int IntKind.u64) Ty.unit)), [u34_0 x0]⟩] [0] q K) 6 K q [0] [.code b34] (entE 0 0 sig34 (x0, ())) (entL sig34 (x0, ())) := by
  unfold P34 at h
  unfold g34_0 u34_0
  obtain ⟨s0, h⟩ := h
  exact AtV.weak (AtV.ret (us := [Option.some (Lst.mk (Ty.cons (Ty.sl (Ty.int IntKind.u8)) (Ty.cons (Ty.int IntKind.i64) (Ty.cons (Ty.int IntKind.u64) Ty.unit))) [u35_0 x0 [0, 1, 2, 5, 11, 40, 100, 101, -1]])]) Tryz.func34 tabOk ext34Ok mixed false [] tys34 [] (a1 s0 trivial) (by kernel_rfl)) ⟨.inl rfl, trivial⟩

def S34 : Am.Spec := { sig := sig34, pre := fun ⟨x0, _⟩ => P34 x0, upd := fun ⟨x0, _⟩ => [some ⟨Ty.cons (Ty.sl (Ty.int IntKind.u8)) (Ty.cons (Ty.int IntKind.i64) (Ty.cons (Ty.int IntKind.u64) Ty.unit)), [u34_0 x0]⟩], res := fun ⟨x0, _⟩ => [⟨Ty.int IntKind.i64, g34_0 x0⟩], kds := kds34 }
theorem con34 : Contract Tryz.prog 34 S34 := contract_of Tryz.func34 hb34 (Nat.le_of_ble_eq_true (by kernel_rfl)) (fun ⟨x0, _⟩ h _ K q => at34 x0 h K q)


end
end Go.Proofs.YtfpdnbojchnglaaGreatDoor

/- Function 10 (spec.DrawGroupCents): its runs between cut points. Written by a program of this repo (gen). -/
set_option linter.unusedVariables false
set_option linter.unusedSimpArgs false
set_option maxRecDepth 100000
namespace Go.Proofs.YtfpdnbojchnglaaGreatDoor
open Go Go.Am Go.Proofs
noncomputable section
def ext10 : Ext := [(18, S18), (19, S19), (33, S33), (34, S34), (35, S35)]
theorem call10_18 : Callable Tryz.prog 18 := ⟨Tryz.f18, Tryz.func18, by kernel_rfl, by kernel_rfl⟩
theorem call10_19 : Callable Tryz.prog 19 := ⟨Tryz.f19, Tryz.func19, by kernel_rfl, by kernel_rfl⟩
theorem call10_33 : Callable Tryz.prog 33 := ⟨Tryz.f33, Tryz.func33, by kernel_rfl, by kernel_rfl⟩
theorem call10_34 : Callable Tryz.prog 34 := ⟨Tryz.f34, Tryz.func34, by kernel_rfl, by kernel_rfl⟩
theorem call10_35 : Callable Tryz.prog 35 := ⟨Tryz.f35, Tryz.func35, by kernel_rfl, by kernel_rfl⟩
theorem ext10Ok : ExtOk Tryz.prog ext10 := ⟨⟨call10_18, con18⟩, ⟨call10_19, con19⟩, ⟨call10_33, con33⟩, ⟨call10_34, con34⟩, ⟨call10_35, con35⟩, trivial⟩

noncomputable def b10 : Code := bodyOf Tryz.f10
theorem hb10 : Tryz.f10.body = some b10 := by kernel_rfl
def sig10 : List AT := [AT.v (Ty.sl (Ty.int IntKind.u8))]
def tys10 : List Ty := [Ty.sl (Ty.cons Ty.str (Ty.cons (Ty.int IntKind.i64) (Ty.cons (Ty.int IntKind.i64) (Ty.cons (Ty.int IntKind.i64) Ty.unit)))), Ty.str, Ty.int IntKind.i64, Ty.int IntKind.i64, Ty.int IntKind.i64]
def kds10 : List RK := []
def oks10 : List AT := owns sig10
def P10 (x0 : List Int) : Prop := ((P19 (g18_0 x0)) ∧ ((P33 (u19_0 (g18_0 x0))) ∧ ((P34 (u33_0 (u19_0 (g18_0 x0)))) ∧ ((P34 (u34_0 (u33_0 (u19_0 (g18_0 x0))))) ∧ ((P35 (u34_0 (u34_0 (u33_0 (u19_0 (g18_0 x0))))) [0, 333, 500, 1000, 1001, -1]) ∧ True)))))
def g10_0 (x0 : List Int) : List (ByteArray × Int × Int × Int × Unit) := g19_0 (g18_0 x0)
def g10_1 (x0 : List Int) : ByteArray := g33_0 (u19_0 (g18_0 x0))
def g10_2 (x0 : List Int) : Int := g34_0 (u33_0 (u19_0 (g18_0 x0)))
def g10_3 (x0 : List Int) : Int := g34_0 (u34_0 (u33_0 (u19_0 (g18_0 x0))))
def g10_4 (x0 : List Int) : Int := g35_0 (u34_0 (u34_0 (u33_0 (u19_0 (g18_0 x0))))) [0, 333, 500, 1000, 1001, -1]
theorem at10 (x0 : List Int) (h : P10 x0) (K : Ctx) (q : Nat → Value) : AtV Tryz.prog 10 (PostR kds10 oks10 [⟨Ty.sl (Ty.cons Ty.str (Ty.cons (Ty.int IntKind.i64) (Ty.cons (Ty.int IntKind.i64) (Ty.cons (Ty.int IntKind.i64) Ty.unit)))), g10_0 x0⟩, ⟨Ty.str, g10_1 x0⟩, ⟨Ty.int IntKind.i64, g10_2 x0⟩, ⟨Ty.int IntKind.i64, g10_3 x0⟩, ⟨Ty.int IntKind.i64, g10_4 x0⟩] [] [] q K) 29 K q [] [.code b10] (entE 0 0 sig10 (x0, ())) (entL sig10 (x0, ())) := by
  unfold P10 at h
  unfold g10_0 g10_1 g10_2 g10_3 g10_4
  obtain ⟨s0, h⟩ := h
  obtain ⟨s1, h⟩ := h
  obtain ⟨s2, h⟩ := h
  obtain ⟨s3, h⟩ := h
  obtain ⟨s4, h⟩ := h
  exact AtV.ret Tryz.func10 tabOk ext10Ok mixed false [] tys10 [] (a1 trivial (a1 s0 (a1 s1 (a1 s2 (a1 s3 (a1 s4 trivial)))))) (by kernel_rfl)

def S10 : Am.Spec := { sig := sig10, pre := fun ⟨x0, _⟩ => P10 x0, res := fun ⟨x0, _⟩ => [⟨Ty.sl (Ty.cons Ty.str (Ty.cons (Ty.int IntKind.i64) (Ty.cons (Ty.int IntKind.i64) (Ty.cons (Ty.int IntKind.i64) Ty.unit)))), g10_0 x0⟩, ⟨Ty.str, g10_1 x0⟩, ⟨Ty.int IntKind.i64, g10_2 x0⟩, ⟨Ty.int IntKind.i64, g10_3 x0⟩, ⟨Ty.int IntKind.i64, g10_4 x0⟩], kds := kds10 }
theorem con10 : Contract Tryz.prog 10 S10 := contract_of Tryz.func10 hb10 (Nat.le_of_ble_eq_true (by kernel_rfl)) (fun ⟨x0, _⟩ h _ K q => at10 x0 h K q)


end
end Go.Proofs.YtfpdnbojchnglaaGreatDoor

/- Function 36 (impl.isRiders): its runs between cut points. Written by a program of this repo (gen). -/
set_option linter.unusedVariables false
set_option linter.unusedSimpArgs false
set_option maxRecDepth 100000
namespace Go.Proofs.YtfpdnbojchnglaaGreatDoor
open Go Go.Am Go.Proofs
noncomputable section
def ext36 : Ext := [(40, S40)]
theorem call36_40 : Callable Tryz.prog 40 := ⟨Tryz.f40, Tryz.func40, by kernel_rfl, by kernel_rfl⟩
theorem ext36Ok : ExtOk Tryz.prog ext36 := ⟨⟨call36_40, con40⟩, trivial⟩

noncomputable def b36 : Code := bodyOf Tryz.f36
theorem hb36 : Tryz.f36.body = some b36 := by kernel_rfl
def sig36 : List AT := [AT.v (Ty.int IntKind.i64)]
def tys36 : List Ty := [Ty.bool]
def kds36 : List RK := []
def oks36 : List AT := owns sig36
def P36 (x0 : Int) : Prop := True
def g36_0 (x0 : Int) : Bool := g40_0 x0 0 100
theorem at36 (x0 : Int) (h : P36 x0) (K : Ctx) (q : Nat → Value) : AtV Tryz.prog 36 (PostR kds36 oks36 [⟨Ty.bool, g36_0 x0⟩] [] [] q K) 5 K q [] [.code b36] (entE 0 0 sig36 (x0, ())) (entL sig36 (x0, ())) := by
  unfold P36 at h
  unfold g36_0
  exact AtV.ret Tryz.func36 tabOk ext36Ok mixed false [] tys36 [] (a1 trivial trivial) (by kernel_rfl)

def S36 : Am.Spec := { sig := sig36, pre := fun ⟨x0, _⟩ => P36 x0, res := fun ⟨x0, _⟩ => [⟨Ty.bool, g36_0 x0⟩], kds := kds36 }
theorem con36 : Contract Tryz.prog 36 S36 := contract_of Tryz.func36 hb36 (Nat.le_of_ble_eq_true (by kernel_rfl)) (fun ⟨x0, _⟩ h _ K q => at36 x0 h K q)


end
end Go.Proofs.YtfpdnbojchnglaaGreatDoor

/- Function 37 (impl.isShare): its runs between cut points. Written by a program of this repo (gen). -/
set_option linter.unusedVariables false
set_option linter.unusedSimpArgs false
set_option maxRecDepth 100000
namespace Go.Proofs.YtfpdnbojchnglaaGreatDoor
open Go Go.Am Go.Proofs
noncomputable section
def ext37 : Ext := [(40, S40)]
theorem call37_40 : Callable Tryz.prog 40 := ⟨Tryz.f40, Tryz.func40, by kernel_rfl, by kernel_rfl⟩
theorem ext37Ok : ExtOk Tryz.prog ext37 := ⟨⟨call37_40, con40⟩, trivial⟩

noncomputable def b37 : Code := bodyOf Tryz.f37
theorem hb37 : Tryz.f37.body = some b37 := by kernel_rfl
def sig37 : List AT := [AT.v (Ty.int IntKind.i64)]
def tys37 : List Ty := [Ty.bool]
def kds37 : List RK := []
def oks37 : List AT := owns sig37
def P37 (x0 : Int) : Prop := True
def g37_0 (x0 : Int) : Bool := g40_0 x0 0 1000
theorem at37 (x0 : Int) (h : P37 x0) (K : Ctx) (q : Nat → Value) : AtV Tryz.prog 37 (PostR kds37 oks37 [⟨Ty.bool, g37_0 x0⟩] [] [] q K) 5 K q [] [.code b37] (entE 0 0 sig37 (x0, ())) (entL sig37 (x0, ())) := by
  unfold P37 at h
  unfold g37_0
  exact AtV.ret Tryz.func37 tabOk ext37Ok mixed false [] tys37 [] (a1 trivial trivial) (by kernel_rfl)

def S37 : Am.Spec := { sig := sig37, pre := fun ⟨x0, _⟩ => P37 x0, res := fun ⟨x0, _⟩ => [⟨Ty.bool, g37_0 x0⟩], kds := kds37 }
theorem con37 : Contract Tryz.prog 37 S37 := contract_of Tryz.func37 hb37 (Nat.le_of_ble_eq_true (by kernel_rfl)) (fun ⟨x0, _⟩ h _ K q => at37 x0 h K q)


end
end Go.Proofs.YtfpdnbojchnglaaGreatDoor

/- Function 60 (impl.abs): its runs between cut points. Written by a program of this repo (gen). -/
set_option linter.unusedVariables false
set_option linter.unusedSimpArgs false
set_option maxRecDepth 100000
namespace Go.Proofs.YtfpdnbojchnglaaGreatDoor
open Go Go.Am Go.Proofs
noncomputable section
def ext60 : Ext := []
theorem ext60Ok : ExtOk Tryz.prog ext60 := trivial

noncomputable def b60 : Code := bodyOf Tryz.f60
theorem hb60 : Tryz.f60.body = some b60 := by kernel_rfl
def sig60 : List AT := [AT.v (Ty.int IntKind.i64)]
def tys60 : List Ty := [Ty.int IntKind.i64]
def kds60 : List RK := []
def oks60 : List AT := owns sig60
def P60 (x0 : Int) : Prop := (if (Decidable.decide (x0 < 0)) = true then ((InR IntKind.i64 (0 - x0)) ∧ True) else True)
def g60_0 (x0 : Int) : Int := (if (Decidable.decide (x0 < 0)) = true then 0 - x0 else x0)
theorem at60 (x0 : Int) (h : P60 x0) (K : Ctx) (q : Nat → Value) : AtV Tryz.prog 60 (PostR kds60 oks60 [⟨Ty.int IntKind.i64, g60_0 x0⟩] [] [] q K) 8 K q [] [.code b60] (entE 0 0 sig60 (x0, ())) (entL sig60 (x0, ())) := by
  unfold P60 at h
  unfold g60_0
  by_cases b0 : (Decidable.decide (x0 < 0)) = true
  · try simp only [if_pos b0] at h ⊢
    obtain ⟨s0, h⟩ := h
    exact AtV.ret Tryz.func60 tabOk ext60Ok mixed false [] tys60 [true] (a1 b0 (a1 s0 trivial)) (by kernel_rfl)
  · try simp only [if_neg b0] at h ⊢
    replace b0 := Bool.eq_false_iff.2 b0
    exact AtV.ret Tryz.func60 tabOk ext60Ok mixed false [] tys60 [false] (a1 b0 trivial) (by kernel_rfl)

def S60 : Am.Spec := { sig := sig60, pre := fun ⟨x0, _⟩ => P60 x0, res := fun ⟨x0, _⟩ => [⟨Ty.int IntKind.i64, g60_0 x0⟩], kds := kds60 }
theorem con60 : Contract Tryz.prog 60 S60 := contract_of Tryz.func60 hb60 (Nat.le_of_ble_eq_true (by kernel_rfl)) (fun ⟨x0, _⟩ h _ K q => at60 x0 h K q)


end
end Go.Proofs.YtfpdnbojchnglaaGreatDoor

/- Function 38 (impl.nearest): its runs between cut points. Written by a program of this repo (gen). -/
set_option linter.unusedVariables false
set_option linter.unusedSimpArgs false
set_option maxRecDepth 100000
namespace Go.Proofs.YtfpdnbojchnglaaGreatDoor
open Go Go.Am Go.Proofs
noncomputable section
def ext38 : Ext := [(60, S60)]
theorem call38_60 : Callable Tryz.prog 60 := ⟨Tryz.f60, Tryz.func60, by kernel_rfl, by kernel_rfl⟩
theorem ext38Ok : ExtOk Tryz.prog ext38 := ⟨⟨call38_60, con60⟩, trivial⟩

noncomputable def b38 : Code := bodyOf Tryz.f38
theorem hb38 : Tryz.f38.body = some b38 := by kernel_rfl
def sig38 : List AT := [AT.v (Ty.int IntKind.i64), AT.v (Ty.int IntKind.i64)]
def tys38 : List Ty := [Ty.int IntKind.i64]
def kds38 : List RK := []
def oks38 : List AT := owns sig38
def P38 (x0 : Int) (x1 : Int) : Prop := ((x1 ≠ 0) ∧ (InR IntKind.i64 (Int.tdiv x0 x1)) ∧ ((x1 ≠ 0) ∧ (InR IntKind.i64 (Int.tmod x0 x1)) ∧ ((P60 (Int.tmod x0 x1)) ∧ ((P60 x1) ∧ ((InR IntKind.i64 (g60_0 x1 - g60_0 (Int.tmod x0 x1))) ∧ (if (Decidable.decide (g60_0 (Int.tmod x0 x1) ≥ g60_0 x1 - g60_0 (Int.tmod x0 x1))) = true then (if (!Decidable.decide (x0 < 0) == Decidable.decide (x1 < 0)) = true then ((InR IntKind.i64 (Int.tdiv x0 x1 - 1)) ∧ True) else ((InR IntKind.i64 (Int.tdiv x0 x1 + 1)) ∧ True)) else True))))))
def g38_0 (x0 : Int) (x1 : Int) : Int := (if (Decidable.decide (g60_0 (Int.tmod x0 x1) ≥ g60_0 x1 - g60_0 (Int.tmod x0 x1))) = true then (if (!Decidable.decide (x0 < 0) == Decidable.decide (x1 < 0)) = true then Int.tdiv x0 x1 - 1 else Int.tdiv x0 x1 + 1) else Int.tdiv x0 x1)
theorem at38 (x0 : Int) (x1 : Int) (h : P38 x0 x1) (K : Ctx) (q : Nat → Value) : AtV Tryz.prog 38 (PostR kds38 oks38 [⟨Ty.int IntKind.i64, g38_0 x0 x1⟩] [] [] q K) 30 K q [] [.code b38] (entE 0 0 sig38 (x0, x1, ())) (entL sig38 (x0, x1, ())) := by
  unfold P38 at h
  unfold g38_0
  obtain ⟨s0, s1, h⟩ := h
  obtain ⟨s2, s3, h⟩ := h
  obtain ⟨s4, h⟩ := h
  obtain ⟨s5, h⟩ := h
  obtain ⟨s6, h⟩ := h
  by_cases b0 : (Decidable.decide (g60_0 (Int.tmod x0 x1) ≥ g60_0 x1 - g60_0 (Int.tmod x0 x1))) = true
  · try simp only [if_pos b0] at h ⊢
    by_cases b1 : (!Decidable.decide (x0 < 0) == Decidable.decide (x1 < 0)) = true
    · try simp only [if_pos b1] at h ⊢
      obtain ⟨s7, h⟩ := h
      exact AtV.ret Tryz.func38 tabOk ext38Ok mixed false [] tys38 [true, true] (a1 s0 (a1 s1 (a1 s2 (a1 s3 (a1 s4 (a1 s5 (a1 s6 (a1 b0 (a1 b1 (a1 s7 trivial)))))))))) (by kernel_rfl)
    · try simp only [if_neg b1] at h ⊢
      replace b1 := Bool.eq_false_iff.2 b1
      obtain ⟨s7, h⟩ := h
      exact AtV.ret Tryz.func38 tabOk ext38Ok mixed false [] tys38 [true, false] (a1 s0 (a1 s1 (a1 s2 (a1 s3 (a1 s4 (a1 s5 (a1 s6 (a1 b0 (a1 b1 (a1 s7 trivial)))))))))) (by kernel_rfl)
  · try simp only [if_neg b0] at h ⊢
    replace b0 := Bool.eq_false_iff.2 b0
    exact AtV.ret Tryz.func38 tabOk ext38Ok mixed false [] tys38 [false] (a1 s0 (a1 s1 (a1 s2 (a1 s3 (a1 s4 (a1 s5 (a1 s6 (a1 b0 trivial)))))))) (by kernel_rfl)

def S38 : Am.Spec := { sig := sig38, pre := fun ⟨x0, x1, _⟩ => P38 x0 x1, res := fun ⟨x0, x1, _⟩ => [⟨Ty.int IntKind.i64, g38_0 x0 x1⟩], kds := kds38 }
theorem con38 : Contract Tryz.prog 38 S38 := contract_of Tryz.func38 hb38 (Nat.le_of_ble_eq_true (by kernel_rfl)) (fun ⟨x0, x1, _⟩ h _ K q => at38 x0 x1 h K q)


end
end Go.Proofs.YtfpdnbojchnglaaGreatDoor

/- Function 11 (impl.GroupCents): its runs between cut points. Written by a program of this repo (gen). -/
set_option linter.unusedVariables false
set_option linter.unusedSimpArgs false
set_option maxRecDepth 100000
namespace Go.Proofs.YtfpdnbojchnglaaGreatDoor
open Go Go.Am Go.Proofs
noncomputable section
def ext11 : Ext := [(36, S36), (37, S37), (23, S23), (26, S26), (38, S38)]
theorem call11_36 : Callable Tryz.prog 36 := ⟨Tryz.f36, Tryz.func36, by kernel_rfl, by kernel_rfl⟩
theorem call11_37 : Callable Tryz.prog 37 := ⟨Tryz.f37, Tryz.func37, by kernel_rfl, by kernel_rfl⟩
theorem call11_23 : Callable Tryz.prog 23 := ⟨Tryz.f23, Tryz.func23, by kernel_rfl, by kernel_rfl⟩
theorem call11_26 : Callable Tryz.prog 26 := ⟨Tryz.f26, Tryz.func26, by kernel_rfl, by kernel_rfl⟩
theorem call11_38 : Callable Tryz.prog 38 := ⟨Tryz.f38, Tryz.func38, by kernel_rfl, by kernel_rfl⟩
theorem ext11Ok : ExtOk Tryz.prog ext11 := ⟨⟨call11_36, con36⟩, ⟨call11_37, con37⟩, ⟨call11_23, con23⟩, ⟨call11_26, con26⟩, ⟨call11_38, con38⟩, trivial⟩

noncomputable def b11 : Code := bodyOf Tryz.f11
theorem hb11 : Tryz.f11.body = some b11 := by kernel_rfl
def sig11 : List AT := [AT.v (Ty.sl (Ty.cons Ty.str (Ty.cons (Ty.int IntKind.i64) (Ty.cons (Ty.int IntKind.i64) (Ty.cons (Ty.int IntKind.i64) Ty.unit))))), AT.v (Ty.str), AT.v (Ty.int IntKind.i64), AT.v (Ty.int IntKind.i64), AT.v (Ty.int IntKind.i64)]
def tys11 : List Ty := [Ty.int IntKind.i64, Ty.int IntKind.i64]
def kds11 : List RK := []
def oks11 : List AT := owns sig11
def P11 (x0 : List (ByteArray × Int × Int × Int × Unit)) (x1 : ByteArray) (x2 : Int) (x3 : Int) (x4 : Int) : Prop := (if (g36_0 x2) = true then (if (g36_0 x3) = true then ((P23 x0 (g37_0 x4) [x1]) ∧ (if (g23_0 x0 (g37_0 x4) [x1] != 0) = true then True else ((P26 x0 x1) ∧ ((InR IntKind.i64 (x2 * Prod.fst (Prod.snd (g26_0 x0 x1)))) ∧ ((InR IntKind.i64 (Prod.fst (Prod.snd (g26_0 x0 x1)) * x4)) ∧ ((P38 (Prod.fst (Prod.snd (g26_0 x0 x1)) * x4) 1000) ∧ ((InR IntKind.i64 (x3 * g38_0 (Prod.fst (Prod.snd (g26_0 x0 x1)) * x4) 1000)) ∧ ((InR IntKind.i64 (x2 * Prod.fst (Prod.snd (g26_0 x0 x1)) + x3 * g38_0 (Prod.fst (Prod.snd (g26_0 x0 x1)) * x4) 1000)) ∧ True)))))))) else ((P23 x0 Bool.false [x1]) ∧ (if (g23_0 x0 Bool.false [x1] != 0) = true then True else ((P26 x0 x1) ∧ ((InR IntKind.i64 (x2 * Prod.fst (Prod.snd (g26_0 x0 x1)))) ∧ ((InR IntKind.i64 (Prod.fst (Prod.snd (g26_0 x0 x1)) * x4)) ∧ ((P38 (Prod.fst (Prod.snd (g26_0 x0 x1)) * x4) 1000) ∧ ((InR IntKind.i64 (x3 * g38_0 (Prod.fst (Prod.snd (g26_0 x0 x1)) * x4) 1000)) ∧ ((InR IntKind.i64 (x2 * Prod.fst (Prod.snd (g26_0 x0 x1)) + x3 * g38_0 (Prod.fst (Prod.snd (g26_0 x0 x1)) * x4) 1000)) ∧ True))))))))) else ((P23 x0 Bool.false [x1]) ∧ (if (g23_0 x0 Bool.false [x1] != 0) = true then True else ((P26 x0 x1) ∧ ((InR IntKind.i64 (x2 * Prod.fst (Prod.snd (g26_0 x0 x1)))) ∧ ((InR IntKind.i64 (Prod.fst (Prod.snd (g26_0 x0 x1)) * x4)) ∧ ((P38 (Prod.fst (Prod.snd (g26_0 x0 x1)) * x4) 1000) ∧ ((InR IntKind.i64 (x3 * g38_0 (Prod.fst (Prod.snd (g26_0 x0 x1)) * x4) 1000)) ∧ ((InR IntKind.i64 (x2 * Prod.fst (Prod.snd (g26_0 x0 x1)) + x3 * g38_0 (Prod.fst (Prod.snd (g26_0 x0 x1)) * x4) 1000)) ∧ True)))))))))
def g11_0 (x0 : List (ByteArray × Int × Int × Int × Unit)) (x1 : ByteArray) (x2 : Int) (x3 : Int) (x4 : Int) : Int := (if (g36_0 x2) = true then (if (g36_0 x3) = true then (if (g23_0 x0 (g37_0 x4) [x1] != 0) = true then 0 else x2 * Prod.fst (Prod.snd (g26_0 x0 x1)) + x3 * g38_0 (Prod.fst (Prod.snd (g26_0 x0 x1)) * x4) 1000) else (if (g23_0 x0 Bool.false [x1] != 0) = true then 0 else x2 * Prod.fst (Prod.snd (g26_0 x0 x1)) + x3 * g38_0 (Prod.fst (Prod.snd (g26_0 x0 x1)) * x4) 1000)) else (if (g23_0 x0 Bool.false [x1] != 0) = true then 0 else x2 * Prod.fst (Prod.snd (g26_0 x0 x1)) + x3 * g38_0 (Prod.fst (Prod.snd (g26_0 x0 x1)) * x4) 1000))
def g11_1 (x0 : List (ByteArray × Int × Int × Int × Unit)) (x1 : ByteArray) (x2 : Int) (x3 : Int) (x4 : Int) : Int := (if (g36_0 x2) = true then (if (g36_0 x3) = true then (if (g23_0 x0 (g37_0 x4) [x1] != 0) = true then g23_0 x0 (g37_0 x4) [x1] else 0) else (if (g23_0 x0 Bool.false [x1] != 0) = true then g23_0 x0 Bool.false [x1] else 0)) else (if (g23_0 x0 Bool.false [x1] != 0) = true then g23_0 x0 Bool.false [x1] else 0))
theorem at11 (x0 : List (ByteArray × Int × Int × Int × Unit)) (x1 : ByteArray) (x2 : Int) (x3 : Int) (x4 : Int) (h : P11 x0 x1 x2 x3 x4) (K : Ctx) (q : Nat → Value) : AtV Tryz.prog 11 (PostR kds11 oks11 [⟨Ty.int IntKind.i64, g11_0 x0 x1 x2 x3 x4⟩, ⟨Ty.int IntKind.i64, g11_1 x0 x1 x2 x3 x4⟩] [] [] q K) 50 K q [] [.code b11] (entE 0 0 sig11 (x0, x1, x2, x3, x4, ())) (entL sig11 (x0, x1, x2, x3, x4, ())) := by
  unfold P11 at h
  unfold g11_0 g11_1
  by_cases b0 : (g36_0 x2) = true
  · try simp only [if_pos b0] at h ⊢
    by_cases b1 : (g36_0 x3) = true
    · try simp only [if_pos b1] at h ⊢
      obtain ⟨s0, h⟩ := h
      by_cases b2 : (g23_0 x0 (g37_0 x4) [x1] != 0) = true
      · try simp only [if_pos b2] at h ⊢
        exact AtV.ret Tryz.func11 tabOk ext11Ok mixed false [] tys11 [true, true, true] (a1 trivial (a1 b0 (a1 trivial (a1 b1 (a1 trivial (a1 s0 (a1 b2 trivial))))))) (by kernel_rfl)
      · try simp only [if_neg b2] at h ⊢
        replace b2 := Bool.eq_false_iff.2 b2
        obtain ⟨s1, h⟩ := h
        obtain ⟨s2, h⟩ := h
        obtain ⟨s3, h⟩ := h
        obtain ⟨s4, h⟩ := h
        obtain ⟨s5, h⟩ := h
        obtain ⟨s6, h⟩ := h
        exact AtV.ret Tryz.func11 tabOk ext11Ok mixed false [] tys11 [true, true, false] (a1 trivial (a1 b0 (a1 trivial (a1 b1 (a1 trivial (a1 s0 (a1 b2 (a1 s1 (a1 s2 (a1 s3 (a1 s4 (a1 s5 (a1 s6 trivial))))))))))))) (by kernel_rfl)
    · try simp only [if_neg b1] at h ⊢
      replace b1 := Bool.eq_false_iff.2 b1
      obtain ⟨s0, h⟩ := h
      by_cases b2 : (g23_0 x0 Bool.false [x1] != 0) = true
      · try simp only [if_pos b2] at h ⊢
        exact AtV.ret Tryz.func11 tabOk ext11Ok mixed false [] tys11 [true, false, true] (a1 trivial (a1 b0 (a1 trivial (a1 b1 (a1 s0 (a1 b2 trivial)))))) (by kernel_rfl)
      · try simp only [if_neg b2] at h ⊢
        replace b2 := Bool.eq_false_iff.2 b2
        obtain ⟨s1, h⟩ := h
        obtain ⟨s2, h⟩ := h
        obtain ⟨s3, h⟩ := h
        obtain ⟨s4, h⟩ := h
        obtain ⟨s5, h⟩ := h
        obtain ⟨s6, h⟩ := h
        exact AtV.ret Tryz.func11 tabOk ext11Ok mixed false [] tys11 [true, false, false] (a1 trivial (a1 b0 (a1 trivial (a1 b1 (a1 s0 (a1 b2 (a1 s1 (a1 s2 (a1 s3 (a1 s4 (a1 s5 (a1 s6 trivial)))))))))))) (by kernel_rfl)
  · try simp only [if_neg b0] at h ⊢
    replace b0 := Bool.eq_false_iff.2 b0
    obtain ⟨s0, h⟩ := h
    by_cases b1 : (g23_0 x0 Bool.false [x1] != 0) = true
    · try simp only [if_pos b1] at h ⊢
      exact AtV.ret Tryz.func11 tabOk ext11Ok mixed false [] tys11 [false, false, true] (a1 trivial (a1 b0 (a1 (rfl : Bool.false = Bool.false) (a1 s0 (a1 b1 trivial))))) (by kernel_rfl)
    · try simp only [if_neg b1] at h ⊢
      replace b1 := Bool.eq_false_iff.2 b1
      obtain ⟨s1, h⟩ := h
      obtain ⟨s2, h⟩ := h
      obtain ⟨s3, h⟩ := h
      obtain ⟨s4, h⟩ := h
      obtain ⟨s5, h⟩ := h
      obtain ⟨s6, h⟩ := h
      exact AtV.ret Tryz.func11 tabOk ext11Ok mixed false [] tys11 [false, false, false] (a1 trivial (a1 b0 (a1 (rfl : Bool.false = Bool.false) (a1 s0 (a1 b1 (a1 s1 (a1 s2 (a1 s3 (a1 s4 (a1 s5 (a1 s6 trivial))))))))))) (by kernel_rfl)

def S11 : Am.Spec := { sig := sig11, pre := fun ⟨x0, x1, x2, x3, x4, _⟩ => P11 x0 x1 x2 x3 x4, res := fun ⟨x0, x1, x2, x3, x4, _⟩ => [⟨Ty.int IntKind.i64, g11_0 x0 x1 x2 x3 x4⟩, ⟨Ty.int IntKind.i64, g11_1 x0 x1 x2 x3 x4⟩], kds := kds11 }
theorem con11 : Contract Tryz.prog 11 S11 := contract_of Tryz.func11 hb11 (Nat.le_of_ble_eq_true (by kernel_rfl)) (fun ⟨x0, x1, x2, x3, x4, _⟩ h _ K q => at11 x0 x1 x2 x3 x4 h K q)


end
end Go.Proofs.YtfpdnbojchnglaaGreatDoor

/- Function 39 (impl.ceilDiv): its runs between cut points. Written by a program of this repo (gen). -/
set_option linter.unusedVariables false
set_option linter.unusedSimpArgs false
set_option maxRecDepth 100000
namespace Go.Proofs.YtfpdnbojchnglaaGreatDoor
open Go Go.Am Go.Proofs
noncomputable section
def ext39 : Ext := []
theorem ext39Ok : ExtOk Tryz.prog ext39 := trivial

noncomputable def b39 : Code := bodyOf Tryz.f39
theorem hb39 : Tryz.f39.body = some b39 := by kernel_rfl
def sig39 : List AT := [AT.v (Ty.int IntKind.i64), AT.v (Ty.int IntKind.i64)]
def tys39 : List Ty := [Ty.int IntKind.i64]
def kds39 : List RK := []
def oks39 : List AT := owns sig39
def P39 (x0 : Int) (x1 : Int) : Prop := ((InR IntKind.i64 (x0 + x1)) ∧ ((InR IntKind.i64 (x0 + x1 - 1)) ∧ ((x1 ≠ 0) ∧ (InR IntKind.i64 (Int.tdiv (x0 + x1 - 1) x1)) ∧ True)))
def g39_0 (x0 : Int) (x1 : Int) : Int := Int.tdiv (x0 + x1 - 1) x1
theorem at39 (x0 : Int) (x1 : Int) (h : P39 x0 x1) (K : Ctx) (q : Nat → Value) : AtV Tryz.prog 39 (PostR kds39 oks39 [⟨Ty.int IntKind.i64, g39_0 x0 x1⟩] [] [] q K) 11 K q [] [.code b39] (entE 0 0 sig39 (x0, x1, ())) (entL sig39 (x0, x1, ())) := by
  unfold P39 at h
  unfold g39_0
  obtain ⟨s0, h⟩ := h
  obtain ⟨s1, h⟩ := h
  obtain ⟨s2, s3, h⟩ := h
  exact AtV.ret Tryz.func39 tabOk ext39Ok mixed false [] tys39 [] (a1 s0 (a1 s1 (a1 s2 (a1 s3 trivial)))) (by kernel_rfl)

def S39 : Am.Spec := { sig := sig39, pre := fun ⟨x0, x1, _⟩ => P39 x0 x1, res := fun ⟨x0, x1, _⟩ => [⟨Ty.int IntKind.i64, g39_0 x0 x1⟩], kds := kds39 }
theorem con39 : Contract Tryz.prog 39 S39 := contract_of Tryz.func39 hb39 (Nat.le_of_ble_eq_true (by kernel_rfl)) (fun ⟨x0, x1, _⟩ h _ K q => at39 x0 x1 h K q)


end
end Go.Proofs.YtfpdnbojchnglaaGreatDoor

/- Function 12 (impl.CostOfEach): its runs between cut points. Written by a program of this repo (gen). -/
set_option linter.unusedVariables false
set_option linter.unusedSimpArgs false
set_option maxRecDepth 100000
namespace Go.Proofs.YtfpdnbojchnglaaGreatDoor
open Go Go.Am Go.Proofs
noncomputable section
def ext12 : Ext := [(23, S23), (26, S26), (39, S39)]
theorem call12_23 : Callable Tryz.prog 23 := ⟨Tryz.f23, Tryz.func23, by kernel_rfl, by kernel_rfl⟩
theorem call12_26 : Callable Tryz.prog 26 := ⟨Tryz.f26, Tryz.func26, by kernel_rfl, by kernel_rfl⟩
theorem call12_39 : Callable Tryz.prog 39 := ⟨Tryz.f39, Tryz.func39, by kernel_rfl, by kernel_rfl⟩
theorem ext12Ok : ExtOk Tryz.prog ext12 := ⟨⟨call12_23, con23⟩, ⟨call12_26, con26⟩, ⟨call12_39, con39⟩, trivial⟩

noncomputable def b12 : Code := bodyOf Tryz.f12
theorem hb12 : Tryz.f12.body = some b12 := by kernel_rfl
def sig12 : List AT := [AT.v (Ty.sl (Ty.cons Ty.str (Ty.cons (Ty.int IntKind.i64) (Ty.cons (Ty.int IntKind.i64) (Ty.cons (Ty.int IntKind.i64) Ty.unit))))), AT.v (Ty.str)]
def tys12 : List Ty := [Ty.int IntKind.i64, Ty.int IntKind.i64]
def kds12 : List RK := []
def oks12 : List AT := owns sig12
def P12 (x0 : List (ByteArray × Int × Int × Int × Unit)) (x1 : ByteArray) : Prop := ((P23 x0 Bool.true [x1]) ∧ (if (g23_0 x0 Bool.true [x1] != 0) = true then True else ((P26 x0 x1) ∧ ((P39 (Prod.fst (Prod.snd (g26_0 x0 x1))) (Prod.fst (Prod.snd (Prod.snd (g26_0 x0 x1))))) ∧ True))))
def g12_0 (x0 : List (ByteArray × Int × Int × Int × Unit)) (x1 : ByteArray) : Int := (if (g23_0 x0 Bool.true [x1] != 0) = true then 0 else g39_0 (Prod.fst (Prod.snd (g26_0 x0 x1))) (Prod.fst (Prod.snd (Prod.snd (g26_0 x0 x1)))))
def g12_1 (x0 : List (ByteArray × Int × Int × Int × Unit)) (x1 : ByteArray) : Int := (if (g23_0 x0 Bool.true [x1] != 0) = true then g23_0 x0 Bool.true [x1] else 0)
theorem at12 (x0 : List (ByteArray × Int × Int × Int × Unit)) (x1 : ByteArray) (h : P12 x0 x1) (K : Ctx) (q : Nat → Value) : AtV Tryz.prog 12 (PostR kds12 oks12 [⟨Ty.int IntKind.i64, g12_0 x0 x1⟩, ⟨Ty.int IntKind.i64, g12_1 x0 x1⟩] [] [] q K) 27 K q [] [.code b12] (entE 0 0 sig12 (x0, x1, ())) (entL sig12 (x0, x1, ())) := by
  unfold P12 at h
  unfold g12_0 g12_1
  obtain ⟨s0, h⟩ := h
  by_cases b0 : (g23_0 x0 Bool.true [x1] != 0) = true
  · try simp only [if_pos b0] at h ⊢
    exact AtV.ret Tryz.func12 tabOk ext12Ok mixed false [] tys12 [true] (a1 s0 (a1 b0 trivial)) (by kernel_rfl)
  · try simp only [if_neg b0] at h ⊢
    replace b0 := Bool.eq_false_iff.2 b0
    obtain ⟨s1, h⟩ := h
    obtain ⟨s2, h⟩ := h
    exact AtV.ret Tryz.func12 tabOk ext12Ok mixed false [] tys12 [false] (a1 s0 (a1 b0 (a1 s1 (a1 s2 trivial)))) (by kernel_rfl)

def S12 : Am.Spec := { sig := sig12, pre := fun ⟨x0, x1, _⟩ => P12 x0 x1, res := fun ⟨x0, x1, _⟩ => [⟨Ty.int IntKind.i64, g12_0 x0 x1⟩, ⟨Ty.int IntKind.i64, g12_1 x0 x1⟩], kds := kds12 }
theorem con12 : Contract Tryz.prog 12 S12 := contract_of Tryz.func12 hb12 (Nat.le_of_ble_eq_true (by kernel_rfl)) (fun ⟨x0, x1, _⟩ h _ K q => at12 x0 x1 h K q)


end
end Go.Proofs.YtfpdnbojchnglaaGreatDoor

/- Function 13 (impl.PayGroups): its runs between cut points. Written by a program of this repo (gen). -/
set_option linter.unusedVariables false
set_option linter.unusedSimpArgs false
set_option maxRecDepth 100000
namespace Go.Proofs.YtfpdnbojchnglaaGreatDoor
open Go Go.Am Go.Proofs
noncomputable section
def ext13 : Ext := [(36, S36), (40, S40), (23, S23), (26, S26)]
theorem call13_36 : Callable Tryz.prog 36 := ⟨Tryz.f36, Tryz.func36, by kernel_rfl, by kernel_rfl⟩
theorem call13_40 : Callable Tryz.prog 40 := ⟨Tryz.f40, Tryz.func40, by kernel_rfl, by kernel_rfl⟩
theorem call13_23 : Callable Tryz.prog 23 := ⟨Tryz.f23, Tryz.func23, by kernel_rfl, by kernel_rfl⟩
theorem call13_26 : Callable Tryz.prog 26 := ⟨Tryz.f26, Tryz.func26, by kernel_rfl, by kernel_rfl⟩
theorem ext13Ok : ExtOk Tryz.prog ext13 := ⟨⟨call13_36, con36⟩, ⟨call13_40, con40⟩, ⟨call13_23, con23⟩, ⟨call13_26, con26⟩, trivial⟩

noncomputable def b13 : Code := bodyOf Tryz.f13
theorem hb13 : Tryz.f13.body = some b13 := by kernel_rfl
def sig13 : List AT := [AT.v (Ty.sl (Ty.cons Ty.str (Ty.cons (Ty.int IntKind.i64) (Ty.cons (Ty.int IntKind.i64) (Ty.cons (Ty.int IntKind.i64) Ty.unit))))), AT.v (Ty.str), AT.v (Ty.int IntKind.i64), AT.v (Ty.int IntKind.i64), AT.v (Ty.int IntKind.i64)]
def tys13 : List Ty := [Ty.int IntKind.i64, Ty.int IntKind.i64]
def kds13 : List RK := []
def oks13 : List AT := owns sig13
def P13 (x0 : List (ByteArray × Int × Int × Int × Unit)) (x1 : ByteArray) (x2 : Int) (x3 : Int) (x4 : Int) : Prop := (if (g36_0 x2) = true then (if (g40_0 x3 2 100) = true then ((P23 x0 (g40_0 x4 0 x3) [x1]) ∧ (if (g23_0 x0 (g40_0 x4 0 x3) [x1] != 0) = true then True else ((P26 x0 x1) ∧ ((x3 ≠ 0) ∧ (InR IntKind.i64 (Int.tdiv x2 x3)) ∧ ((InR IntKind.i64 (Int.tdiv x2 x3 * x4)) ∧ ((InR IntKind.i64 (x2 - Int.tdiv x2 x3 * x4)) ∧ ((InR IntKind.i64 ((x2 - Int.tdiv x2 x3 * x4) * Prod.fst (Prod.snd (g26_0 x0 x1)))) ∧ True))))))) else ((P23 x0 Bool.false [x1]) ∧ (if (g23_0 x0 Bool.false [x1] != 0) = true then True else ((P26 x0 x1) ∧ ((x3 ≠ 0) ∧ (InR IntKind.i64 (Int.tdiv x2 x3)) ∧ ((InR IntKind.i64 (Int.tdiv x2 x3 * x4)) ∧ ((InR IntKind.i64 (x2 - Int.tdiv x2 x3 * x4)) ∧ ((InR IntKind.i64 ((x2 - Int.tdiv x2 x3 * x4) * Prod.fst (Prod.snd (g26_0 x0 x1)))) ∧ True)))))))) else ((P23 x0 Bool.false [x1]) ∧ (if (g23_0 x0 Bool.false [x1] != 0) = true then True else ((P26 x0 x1) ∧ ((x3 ≠ 0) ∧ (InR IntKind.i64 (Int.tdiv x2 x3)) ∧ ((InR IntKind.i64 (Int.tdiv x2 x3 * x4)) ∧ ((InR IntKind.i64 (x2 - Int.tdiv x2 x3 * x4)) ∧ ((InR IntKind.i64 ((x2 - Int.tdiv x2 x3 * x4) * Prod.fst (Prod.snd (g26_0 x0 x1)))) ∧ True))))))))
def g13_0 (x0 : List (ByteArray × Int × Int × Int × Unit)) (x1 : ByteArray) (x2 : Int) (x3 : Int) (x4 : Int) : Int := (if (g36_0 x2) = true then (if (g40_0 x3 2 100) = true then (if (g23_0 x0 (g40_0 x4 0 x3) [x1] != 0) = true then 0 else (x2 - Int.tdiv x2 x3 * x4) * Prod.fst (Prod.snd (g26_0 x0 x1))) else (if (g23_0 x0 Bool.false [x1] != 0) = true then 0 else (x2 - Int.tdiv x2 x3 * x4) * Prod.fst (Prod.snd (g26_0 x0 x1)))) else (if (g23_0 x0 Bool.false [x1] != 0) = true then 0 else (x2 - Int.tdiv x2 x3 * x4) * Prod.fst (Prod.snd (g26_0 x0 x1))))
def g13_1 (x0 : List (ByteArray × Int × Int × Int × Unit)) (x1 : ByteArray) (x2 : Int) (x3 : Int) (x4 : Int) : Int := (if (g36_0 x2) = true then (if (g40_0 x3 2 100) = true then (if (g23_0 x0 (g40_0 x4 0 x3) [x1] != 0) = true then g23_0 x0 (g40_0 x4 0 x3) [x1] else 0) else (if (g23_0 x0 Bool.false [x1] != 0) = true then g23_0 x0 Bool.false [x1] else 0)) else (if (g23_0 x0 Bool.false [x1] != 0) = true then g23_0 x0 Bool.false [x1] else 0))
theorem at13 (x0 : List (ByteArray × Int × Int × Int × Unit)) (x1 : ByteArray) (x2 : Int) (x3 : Int) (x4 : Int) (h : P13 x0 x1 x2 x3 x4) (K : Ctx) (q : Nat → Value) : AtV Tryz.prog 13 (PostR kds13 oks13 [⟨Ty.int IntKind.i64, g13_0 x0 x1 x2 x3 x4⟩, ⟨Ty.int IntKind.i64, g13_1 x0 x1 x2 x3 x4⟩] [] [] q K) 49 K q [] [.code b13] (entE 0 0 sig13 (x0, x1, x2, x3, x4, ())) (entL sig13 (x0, x1, x2, x3, x4, ())) := by
  unfold P13 at h
  unfold g13_0 g13_1
  by_cases b0 : (g36_0 x2) = true
  · try simp only [if_pos b0] at h ⊢
    by_cases b1 : (g40_0 x3 2 100) = true
    · try simp only [if_pos b1] at h ⊢
      obtain ⟨s0, h⟩ := h
      by_cases b2 : (g23_0 x0 (g40_0 x4 0 x3) [x1] != 0) = true
      · try simp only [if_pos b2] at h ⊢
        exact AtV.ret Tryz.func13 tabOk ext13Ok mixed false [] tys13 [true, true, true] (a1 trivial (a1 b0 (a1 trivial (a1 b1 (a1 trivial (a1 s0 (a1 b2 trivial))))))) (by kernel_rfl)
      · try simp only [if_neg b2] at h ⊢
        replace b2 := Bool.eq_false_iff.2 b2
        obtain ⟨s1, h⟩ := h
        obtain ⟨s2, s3, h⟩ := h
        obtain ⟨s4, h⟩ := h
        obtain ⟨s5, h⟩ := h
        obtain ⟨s6, h⟩ := h
        exact AtV.ret Tryz.func13 tabOk ext13Ok mixed false [] tys13 [true, true, false] (a1 trivial (a1 b0 (a1 trivial (a1 b1 (a1 trivial (a1 s0 (a1 b2 (a1 s1 (a1 s2 (a1 s3 (a1 s4 (a1 s5 (a1 s6 trivial))))))))))))) (by kernel_rfl)
    · try simp only [if_neg b1] at h ⊢
      replace b1 := Bool.eq_false_iff.2 b1
      obtain ⟨s0, h⟩ := h
      by_cases b2 : (g23_0 x0 Bool.false [x1] != 0) = true
      · try simp only [if_pos b2] at h ⊢
        exact AtV.ret Tryz.func13 tabOk ext13Ok mixed false [] tys13 [true, false, true] (a1 trivial (a1 b0 (a1 trivial (a1 b1 (a1 s0 (a1 b2 trivial)))))) (by kernel_rfl)
      · try simp only [if_neg b2] at h ⊢
        replace b2 := Bool.eq_false_iff.2 b2
        obtain ⟨s1, h⟩ := h
        obtain ⟨s2, s3, h⟩ := h
        obtain ⟨s4, h⟩ := h
        obtain ⟨s5, h⟩ := h
        obtain ⟨s6, h⟩ := h
        exact AtV.ret Tryz.func13 tabOk ext13Ok mixed false [] tys13 [true, false, false] (a1 trivial (a1 b0 (a1 trivial (a1 b1 (a1 s0 (a1 b2 (a1 s1 (a1 s2 (a1 s3 (a1 s4 (a1 s5 (a1 s6 trivial)))))))))))) (by kernel_rfl)
  · try simp only [if_neg b0] at h ⊢
    replace b0 := Bool.eq_false_iff.2 b0
    obtain ⟨s0, h⟩ := h
    by_cases b1 : (g23_0 x0 Bool.false [x1] != 0) = true
    · try simp only [if_pos b1] at h ⊢
      exact AtV.ret Tryz.func13 tabOk ext13Ok mixed false [] tys13 [false, false, true] (a1 trivial (a1 b0 (a1 (rfl : Bool.false = Bool.false) (a1 s0 (a1 b1 trivial))))) (by kernel_rfl)
    · try simp only [if_neg b1] at h ⊢
      replace b1 := Bool.eq_false_iff.2 b1
      obtain ⟨s1, h⟩ := h
      obtain ⟨s2, s3, h⟩ := h
      obtain ⟨s4, h⟩ := h
      obtain ⟨s5, h⟩ := h
      obtain ⟨s6, h⟩ := h
      exact AtV.ret Tryz.func13 tabOk ext13Ok mixed false [] tys13 [false, false, false] (a1 trivial (a1 b0 (a1 (rfl : Bool.false = Bool.false) (a1 s0 (a1 b1 (a1 s1 (a1 s2 (a1 s3 (a1 s4 (a1 s5 (a1 s6 trivial))))))))))) (by kernel_rfl)

def S13 : Am.Spec := { sig := sig13, pre := fun ⟨x0, x1, x2, x3, x4, _⟩ => P13 x0 x1 x2 x3 x4, res := fun ⟨x0, x1, x2, x3, x4, _⟩ => [⟨Ty.int IntKind.i64, g13_0 x0 x1 x2 x3 x4⟩, ⟨Ty.int IntKind.i64, g13_1 x0 x1 x2 x3 x4⟩], kds := kds13 }
theorem con13 : Contract Tryz.prog 13 S13 := contract_of Tryz.func13 hb13 (Nat.le_of_ble_eq_true (by kernel_rfl)) (fun ⟨x0, x1, x2, x3, x4, _⟩ h _ K q => at13 x0 x1 x2 x3 x4 h K q)


end
end Go.Proofs.YtfpdnbojchnglaaGreatDoor

/- A law that says how functions of the program and of the specification hang together. -/
set_option linter.unusedVariables false
set_option linter.unusedSimpArgs false
set_option maxRecDepth 100000
namespace Go.Proofs.YtfpdnbojchnglaaGreatDoor
open Go Go.Am Go.Proofs

theorem draw_fid {n : Int} {s : (List Int × Int × Int × Unit)} (h : SrcOk n s) (hn : n ≤ 4000000000000000000) : P33 s ∧ SrcOk (n + 2) (u33_0 s) := by
  obtain ⟨p1, s1, _⟩ := text_ok h [ByteArray.mk #[100, 97, 121], ByteArray.mk #[109, 111, 110, 116, 104], ByteArray.mk #[115, 105, 110, 103, 108, 101], ByteArray.mk #[116, 101, 110], ByteArray.mk #[119, 101, 101, 107]] (by decide) (by omega)
  exact ⟨⟨p1, trivial⟩, s1⟩

theorem draw_ticket {n : Int} {s : (List Int × Int × Int × Unit)} (h : SrcOk n s) (hn : n ≤ 4000000000000000000) : P20 s ∧ SrcOk (n + 12) (u20_0 s) := by
  obtain ⟨p1, s1⟩ := draw_fid h hn
  obtain ⟨p2, s2, a2, b2, _⟩ := pick_ok s1 40 (by omega)
  have b2 := b2 (by decide)
  obtain ⟨p3, s3, _⟩ := pick_ok s2 3 (by omega)
  obtain ⟨p4, s4, _⟩ := pick_ok s3 24 (by omega)
  unfold P20 u20_0
  have i1 : InR .i64 (9000 + g44_0 (u33_0 s) 40) := by rw [i64_iff]; omega
  refine ⟨⟨p1, p2, i1, p3, p4, ?_⟩, ?_⟩ <;> clear i1
  all_goals
    generalize u44_0 (u44_0 (u44_0 (u33_0 s) 40) 3) 24 = t at s4 ⊢
    generalize g44_0 (u44_0 (u44_0 (u33_0 s) 40) 3) 24 = c
    obtain ⟨q1, r1, _⟩ := text_ok s4 [ByteArray.mk #[], ByteArray.mk #[122, 122]] (by decide) (by omega)
    obtain ⟨q2, r2, _⟩ := among_ok s4 [-1, 0, 36524, 36525] (by decide) (by omega)
    obtain ⟨q3, r3, _⟩ := among_ok s4 [-1, 0, 1000, 1001] (by decide) (by omega)
    by_cases c0 : (c == 0) = true
    · simp only [if_pos c0]
      first | exact ⟨q1, trivial⟩ | exact r1.up (by omega)
    · by_cases c1 : (c == 1) = true
      · simp only [if_neg c0, if_pos c1]
        first | exact ⟨q2, trivial⟩ | exact r2.up (by omega)
      · by_cases c2 : (c == 2) = true
        · simp only [if_neg c0, if_neg c1, if_pos c2]
          first | exact ⟨q3, trivial⟩ | exact r3.up (by omega)
        · first
          | (simp only [if_neg c0, if_neg c1, if_neg c2]; exact s4.up (by omega))
          | simp only [if_neg c0, if_neg c1, if_neg c2]

end Go.Proofs.YtfpdnbojchnglaaGreatDoor

/- Function 41 (spec.l18DrawSold): its runs between cut points. Written by a program of this repo (gen). -/
set_option linter.unusedVariables false
set_option linter.unusedSimpArgs false
set_option maxRecDepth 100000
namespace Go.Proofs.YtfpdnbojchnglaaGreatDoor
open Go Go.Am Go.Proofs
noncomputable section
def ext41 : Ext := [(44, S44), (33, S33), (20, S20), (35, S35)]
theorem call41_44 : Callable Tryz.prog 44 := ⟨Tryz.f44, Tryz.func44, by kernel_rfl, by kernel_rfl⟩
theorem call41_33 : Callable Tryz.prog 33 := ⟨Tryz.f33, Tryz.func33, by kernel_rfl, by kernel_rfl⟩
theorem call41_20 : Callable Tryz.prog 20 := ⟨Tryz.f20, Tryz.func20, by kernel_rfl, by kernel_rfl⟩
theorem call41_35 : Callable Tryz.prog 35 := ⟨Tryz.f35, Tryz.func35, by kernel_rfl, by kernel_rfl⟩
theorem ext41Ok : ExtOk Tryz.prog ext41 := ⟨⟨call41_44, con44⟩, ⟨call41_33, con33⟩, ⟨call41_20, con20⟩, ⟨call41_35, con35⟩, trivial⟩

noncomputable def b41 : Code := bodyOf Tryz.f41
theorem hb41 : Tryz.f41.body = some b41 := by kernel_rfl
def sig41 : List AT := [AT.pb (Ty.cons (Ty.sl (Ty.int IntKind.u8)) (Ty.cons (Ty.int IntKind.i64) (Ty.cons (Ty.int IntKind.u64) Ty.unit)))]
def tys41 : List Ty := [Ty.sl (Ty.cons Ty.str (Ty.cons (Ty.int IntKind.i64) (Ty.cons (Ty.int IntKind.i64) Ty.unit)))]
def kds41 : List RK := []
def oks41 : List AT := owns sig41
def E41_3 (v4 : Int) (h1 : List (ByteArray × Int × Int × Unit)) (x0 : List Int × Int × Int × Unit) : Env := [(0, PV.a (Atom.optr 0 0 [])), (3, PV.a (Atom.osl 1 Option.none)), (4, PV.a (Atom.val (Value.int IntKind.i64 v4)))]
def L41_3 (v4 : Int) (h1 : List (ByteArray × Int × Int × Unit)) (x0 : List Int × Int × Int × Unit) : Heap := [Option.some (Arr.mk (Ty.cons (Ty.sl (Ty.int IntKind.u8)) (Ty.cons (Ty.int IntKind.i64) (Ty.cons (Ty.int IntKind.u64) Ty.unit))) [u44_0 x0 7] Bool.true Option.none (Option.some Bool.true)), Option.some (Arr.mk (Ty.cons Ty.str (Ty.cons (Ty.int IntKind.i64) (Ty.cons (Ty.int IntKind.i64) Ty.unit))) h1 Bool.false Option.none Option.none)]
def E41_12 (h1 : List (ByteArray × Int × Int × Unit)) (x0 : List Int × Int × Int × Unit) : Env := [(0, PV.a (Atom.optr 0 0 [])), (3, PV.a (Atom.osl 1 Option.none)), (5, PV.a (Atom.val (Value.int IntKind.i64 (g35_0 (u44_0 (u44_0 x0 7) 20) [100, 101]))))]
def L41_12 (h1 : List (ByteArray × Int × Int × Unit)) (x0 : List Int × Int × Int × Unit) : Heap := [Option.some (Arr.mk (Ty.cons (Ty.sl (Ty.int IntKind.u8)) (Ty.cons (Ty.int IntKind.i64) (Ty.cons (Ty.int IntKind.u64) Ty.unit))) [u35_0 (u44_0 (u44_0 x0 7) 20) [100, 101]] Bool.true Option.none (Option.some Bool.true)), Option.some (Arr.mk (Ty.cons Ty.str (Ty.cons (Ty.int IntKind.i64) (Ty.cons (Ty.int IntKind.i64) Ty.unit))) h1 Bool.false Option.none Option.none)]
mutual
def R41 : Nat → List Int × Int × Int × Unit → List Dyn → List (Option Lst) → Prop
  | 0, _, _, _ => False
  | n + 1, x0, ds, us => ((P44 x0 7) ∧ (R41_3 n (g44_0 x0 7) ([]) (x0) ds us))
def R41_3 : Nat → Int → List (ByteArray × Int × Int × Unit) → List Int × Int × Int × Unit → List Dyn → List (Option Lst) → Prop
  | 0, _, _, _, _, _ => False
  | n + 1, v4, h1, x0, ds, us => (if (Decidable.decide (v4 > 0)) = true then ((P33 (u44_0 x0 7)) ∧ ((P44 (u33_0 (u44_0 x0 7)) 40) ∧ ((InR IntKind.i64 (9000 + g44_0 (u33_0 (u44_0 x0 7)) 40)) ∧ ((P44 (u44_0 (u33_0 (u44_0 x0 7)) 40) 3) ∧ (((List.length h1 + 1) * 32 ≤ 140737488355328) ∧ ((InR IntKind.i64 (v4 - 1)) ∧ (R41_3 n (v4 - 1) (h1 ++ [(g33_0 (u44_0 x0 7), 9000 + g44_0 (u33_0 (u44_0 x0 7)) 40, g44_0 (u44_0 (u33_0 (u44_0 x0 7)) 40) 3, ())]) (u44_0 (u33_0 (u44_0 x0 7)) 40) ds us))))))) else ((P44 (u44_0 x0 7) 20) ∧ (if (g44_0 (u44_0 x0 7) 20 == 0) = true then ((P20 (u44_0 (u44_0 x0 7) 20)) ∧ (((List.length h1 + 1) * 32 ≤ 140737488355328) ∧ (ds = [Dyn.mk (Ty.sl (Ty.cons Ty.str (Ty.cons (Ty.int IntKind.i64) (Ty.cons (Ty.int IntKind.i64) Ty.unit)))) (h1 ++ [g20_0 (u44_0 (u44_0 x0 7) 20)])] ∧ us = [Option.some (Lst.mk (Ty.cons (Ty.sl (Ty.int IntKind.u8)) (Ty.cons (Ty.int IntKind.i64) (Ty.cons (Ty.int IntKind.u64) Ty.unit))) [u20_0 (u44_0 (u44_0 x0 7) 20)])]))) else (if (g44_0 (u44_0 x0 7) 20 == 1) = true then ((P35 (u44_0 (u44_0 x0 7) 20) [100, 101]) ∧ (R41_12 n ([]) (x0) ds us)) else (ds = [Dyn.mk (Ty.sl (Ty.cons Ty.str (Ty.cons (Ty.int IntKind.i64) (Ty.cons (Ty.int IntKind.i64) Ty.unit)))) h1] ∧ us = [Option.some (Lst.mk (Ty.cons (Ty.sl (Ty.int IntKind.u8)) (Ty.cons (Ty.int IntKind.i64) (Ty.cons (Ty.int IntKind.u64) Ty.unit))) [u44_0 (u44_0 x0 7) 20])])))))
def R41_12 : Nat → List (ByteArray × Int × Int × Unit) → List Int × Int × Int × Unit → List Dyn → List (Option Lst) → Prop
  | 0, _, _, _, _ => False
  | n + 1, h1, x0, ds, us => (if (Decidable.decide ((↑(List.length h1) : Int) < g35_0 (u44_0 (u44_0 x0 7) 20) [100, 101])) = true then (((List.length h1 + 1) * 32 ≤ 140737488355328) ∧ (R41_12 n (h1 ++ [(ByteArray.mk #[115, 105, 110, 103, 108, 101], 9000, 0, ())]) (x0) ds us)) else (ds = [Dyn.mk (Ty.sl (Ty.cons Ty.str (Ty.cons (Ty.int IntKind.i64) (Ty.cons (Ty.int IntKind.i64) Ty.unit)))) h1] ∧ us = [Option.some (Lst.mk (Ty.cons (Ty.sl (Ty.int IntKind.u8)) (Ty.cons (Ty.int IntKind.i64) (Ty.cons (Ty.int IntKind.u64) Ty.unit))) [u35_0 (u44_0 (u44_0 x0 7) 20) [100, 101]])]))
end
theorem snd41 : ∀ n, (∀ (x0 : List Int × Int × Int × Unit) ds us, R41 n x0 ds us → ∀ K q, AtV Tryz.prog 41 (PostR kds41 oks41 ds us [0] q K) 48 K q [0] [.code b41] (entE 0 0 sig41 (x0, ())) (entL sig41 (x0, ()))) ∧ (∀ (v4 : Int) (h1 : List (ByteArray × Int × Int × Unit)) (x0 : List Int × Int × Int × Unit) ds us, R41_3 n v4 h1 x0 ds us → ∀ K q, AtV Tryz.prog 41 (PostR kds41 oks41 ds us [0] q K) 48 K q [0] (cutAt b41 3) (E41_3 v4 h1 x0) (L41_3 v4 h1 x0)) ∧ (∀ (h1 : List (ByteArray × Int × Int × Unit)) (x0 : List Int × Int × Int × Unit) ds us, R41_12 n h1 x0 ds us → ∀ K q, AtV Tryz.prog 41 (PostR kds41 oks41 ds us [0] q K) 48 K q [0] (cutAt b41 12) (E41_12 h1 x0) (L41_12 h1 x0)) := by
  intro n
  induction n with
  | zero => exact ⟨fun _ _ _ h => by simp only [R41] at h, fun _ _ _ _ _ h => by simp only [R41_3] at h, fun _ _ _ _ h => by simp only [R41_12] at h⟩
  | succ n ih =>
  obtain ⟨ih, ih3, ih12⟩ := ih
  refine ⟨?_, ?_, ?_⟩
  · intro x0 ds us h K q
    rw [R41] at h
    obtain ⟨s0, h⟩ := h
    exact AtV.go tabOk ext41Ok mixed false [] [] [0, 3, 4] [0, 1] [] (a1 s0 trivial) (ih3 _ _ _ _ _ h K q) (by kernel_rfl)

  · intro v4 h1 x0 ds us h K q
    rw [R41_3] at h
    by_cases b0 : (Decidable.decide (v4 > 0)) = true
    · rw [if_pos b0] at h
      obtain ⟨s0, h⟩ := h
      obtain ⟨s1, h⟩ := h
      obtain ⟨s2, h⟩ := h
      obtain ⟨s3, h⟩ := h
      obtain ⟨s4, h⟩ := h
      obtain ⟨s5, h⟩ := h
      exact AtV.go tabOk ext41Ok mixed false [] [] [0, 3, 4] [0, 1] [true] (a1 b0 (a1 s0 (a1 s1 (a1 s2 (a1 s3 (a1 s4 (a1 s5 trivial))))))) (ih3 _ _ _ _ _ h K q) (by kernel_rfl)
    · rw [if_neg b0] at h
      replace b0 := Bool.eq_false_iff.2 b0
      obtain ⟨s0, h⟩ := h
      by_cases b1 : (g44_0 (u44_0 x0 7) 20 == 0) = true
      · rw [if_pos b1] at h
        obtain ⟨s1, h⟩ := h
        obtain ⟨s2, h⟩ := h
        obtain ⟨h, h'⟩ := h; subst h; subst h'
        exact AtV.ret Tryz.func41 tabOk ext41Ok mixed false [] tys41 [false, true] (a1 b0 (a1 s0 (a1 b1 (a1 s1 (a1 s2 trivial))))) (by kernel_rfl)
      · rw [if_neg b1] at h
        replace b1 := Bool.eq_false_iff.2 b1
        by_cases b2 : (g44_0 (u44_0 x0 7) 20 == 1) = true
        · rw [if_pos b2] at h
          obtain ⟨s1, h⟩ := h
          exact AtV.go tabOk ext41Ok mixed false [] [] [0, 3, 5] [0, 3] [false, false, true] (a1 b0 (a1 s0 (a1 b1 (a1 b2 (a1 s1 trivial))))) (ih12 _ _ _ _ h K q) (by kernel_rfl)
        · rw [if_neg b2] at h
          replace b2 := Bool.eq_false_iff.2 b2
          obtain ⟨h, h'⟩ := h; subst h; subst h'
          exact AtV.ret Tryz.func41 tabOk ext41Ok mixed false [] tys41 [false, false, false] (a1 b0 (a1 s0 (a1 b1 (a1 b2 trivial)))) (by kernel_rfl)

  · intro h1 x0 ds us h K q
    rw [R41_12] at h
    by_cases b0 : (Decidable.decide ((↑(List.length h1) : Int) < g35_0 (u44_0 (u44_0 x0 7) 20) [100, 101])) = true
    · rw [if_pos b0] at h
      obtain ⟨s0, h⟩ := h
      exact AtV.go tabOk ext41Ok mixed false [] [] [0, 3, 5] [0, 1] [true] (a1 b0 (a1 s0 trivial)) (ih12 _ _ _ _ h K q) (by kernel_rfl)
    · rw [if_neg b0] at h
      replace b0 := Bool.eq_false_iff.2 b0
      obtain ⟨h, h'⟩ := h; subst h; subst h'
      exact AtV.ret Tryz.func41 tabOk ext41Ok mixed false [] tys41 [false] (a1 b0 trivial) (by kernel_rfl)



abbrev TT41 := ByteArray × Int × Int × Unit
def P41 (x0 : (List Int × Int × Int × Unit)) : Prop := SrcOk 800000000 x0
def Q41 (x0 : (List Int × Int × Int × Unit)) (y : List TT41) (s : (List Int × Int × Int × Unit)) : Prop := SrcOk (x0.2.1 + 1000) s ∧ y.length ≤ 200 ∧ ∃ n, R41 n x0 [⟨.sl (.cons .str (.cons (.int .i64) (.cons (.int .i64) .unit))), y⟩] [some ⟨(.cons (.sl (.int .u8)) (.cons (.int .i64) (.cons (.int .u64) .unit))), [s]⟩]

theorem many41 (x0 : (List Int × Int × Int × Unit)) : ∀ (k : Nat) (h : List TT41), (h.length : Int) + k = g35_0 (u44_0 (u44_0 x0 7) 20) [100, 101] → h.length + k ≤ 200 → ∃ (n : Nat) (y : List TT41), y.length ≤ 200 ∧ R41_12 n h x0 [⟨.sl (.cons .str (.cons (.int .i64) (.cons (.int .i64) .unit))), y⟩] [some ⟨(.cons (.sl (.int .u8)) (.cons (.int .i64) (.cons (.int .u64) .unit))), [u35_0 (u44_0 (u44_0 x0 7) 20) [100, 101]]⟩] := by
  intro k
  induction k with
  | zero =>
    intro h hv hl
    refine ⟨1, h, by omega, ?_⟩
    rw [R41_12, if_neg (by simp only [decide_eq_true_eq]; omega)]
    exact ⟨rfl, rfl⟩
  | succ k ih =>
    intro h hv hl
    obtain ⟨n, y, a1, a2⟩ := ih (h ++ [(ByteArray.mk #[115, 105, 110, 103, 108, 101], 9000, 0, ())]) (by simp; omega) (by simp; omega)
    refine ⟨n + 1, y, a1, ?_⟩
    rw [R41_12, if_pos (by simp only [decide_eq_true_eq]; omega)]
    exact ⟨by omega, a2⟩

theorem run41 : ∀ (k : Nat) (v : Int) (s : (List Int × Int × Int × Unit)) (h : List TT41) (m : Int), v = (k : Int) → SrcOk m (u44_0 s 7) → m + 8 * (k : Int) ≤ 900000000 → h.length + k ≤ 20 →
    ∃ (n : Nat) (y : List TT41) (t : (List Int × Int × Int × Unit)), SrcOk (m + 8 * (k : Int) + 100) t ∧ y.length ≤ 200 ∧ R41_3 n v h s [⟨.sl (.cons .str (.cons (.int .i64) (.cons (.int .i64) .unit))), y⟩] [some ⟨(.cons (.sl (.int .u8)) (.cons (.int .i64) (.cons (.int .u64) .unit))), [t]⟩] := by
  intro k
  induction k with
  | zero =>
    intro v s h m hv hs hm hl
    obtain ⟨p1, s1, _⟩ := pick_ok hs 20 (by omega)
    by_cases c0 : (g44_0 (u44_0 s 7) 20 == 0) = true
    · obtain ⟨p2, s2⟩ := draw_ticket s1 (by omega)
      refine ⟨1, h ++ [g20_0 (u44_0 (u44_0 s 7) 20)], _, s2.up (by omega), by simp; omega, ?_⟩
      rw [R41_3, if_neg (by simp only [decide_eq_true_eq]; omega), if_pos c0]
      exact ⟨p1, p2, by omega, rfl, rfl⟩
    · by_cases c1 : (g44_0 (u44_0 s 7) 20 == 1) = true
      · obtain ⟨p2, s2, hm2⟩ := among_ok s1 [100, 101] (by decide) (by omega)
        have hM : ∃ j : Nat, g35_0 (u44_0 (u44_0 s 7) 20) [100, 101] = (j : Int) ∧ j ≤ 101 := by
          simp only [List.mem_cons, List.mem_nil_iff, or_false] at hm2
          rcases hm2 with e | e
          · exact ⟨100, e, by decide⟩
          · exact ⟨101, e, by decide⟩
        obtain ⟨j, hj, hj2⟩ := hM
        obtain ⟨n, y, a1, a2⟩ := many41 s j [] (by rw [hj]; simp) (by simp; omega)
        refine ⟨n + 1, y, _, s2.up (by omega), a1, ?_⟩
        rw [R41_3, if_neg (by simp only [decide_eq_true_eq]; omega), if_neg c0, if_pos c1]
        exact ⟨p1, p2, a2⟩
      · refine ⟨1, h, _, s1.up (by omega), by omega, ?_⟩
        rw [R41_3, if_neg (by simp only [decide_eq_true_eq]; omega), if_neg c0, if_neg c1]
        exact ⟨p1, rfl, rfl⟩
  | succ k ih =>
    intro v s h m hv hs hm hl
    obtain ⟨p1, s1⟩ := draw_fid hs (by omega)
    obtain ⟨p2, s2, a2, b2, _⟩ := pick_ok s1 40 (by omega)
    have b2 := b2 (by decide)
    obtain ⟨p3, _, _⟩ := pick_ok s2 3 (by omega)
    obtain ⟨_, s3, _⟩ := pick_ok s2 7 (by omega)
    obtain ⟨n, y, t, d1, d2, d3⟩ := ih (v - 1) _ (h ++ [(g33_0 (u44_0 s 7), 9000 + g44_0 (u33_0 (u44_0 s 7)) 40, g44_0 (u44_0 (u33_0 (u44_0 s 7)) 40) 3, ())]) (m + 8) (by omega) (s3.up (by omega)) (by omega) (by simp; omega)
    refine ⟨n + 1, y, t, d1.up (by omega), d2, ?_⟩
    rw [R41_3, if_pos (by simp only [decide_eq_true_eq]; omega)]
    exact ⟨p1, p2, by rw [i64_iff]; omega, p3, by omega, by rw [i64_iff]; omega, d3⟩

theorem ex41 (x0 : (List Int × Int × Int × Unit)) (h : P41 x0) : ∃ y s, Q41 x0 y s := by
  have h0 : x0.2.1 ≤ 800000000 := h.2.2
  obtain ⟨p1, s1, a, b, _⟩ := pick_ok (SrcOk.self h) 7 (by omega)
  have b := b (by decide)
  obtain ⟨n, y, t, a1, a2, a3⟩ := run41 (g44_0 x0 7).toNat (g44_0 x0 7) x0 [] _ (by omega) s1 (by omega) (by simp; omega)
  exact ⟨y, t, a1.up (by omega), a2, n + 1, by rw [R41]; exact ⟨p1, a3⟩⟩

def g41_0 (x0 : (List Int × Int × Int × Unit)) : List TT41 := (sel2 [] x0 (Q41 x0)).1
def u41_0 (x0 : (List Int × Int × Int × Unit)) : (List Int × Int × Int × Unit) := (sel2 [] x0 (Q41 x0)).2
theorem q41 (x0 : (List Int × Int × Int × Unit)) (h : P41 x0) : Q41 x0 (g41_0 x0) (u41_0 x0) := by
  obtain ⟨y, s, hq⟩ := ex41 x0 h
  exact sel2_spec hq

def S41 : Am.Spec := { sig := sig41, pre := fun ⟨x0, _⟩ => P41 x0, upd := fun ⟨x0, _⟩ => [some ⟨(.cons (.sl (.int .u8)) (.cons (.int .i64) (.cons (.int .u64) .unit))), [u41_0 x0]⟩], res := fun ⟨x0, _⟩ => [⟨.sl (.cons .str (.cons (.int .i64) (.cons (.int .i64) .unit))), g41_0 x0⟩], kds := kds41 }
theorem con41 : Contract Tryz.prog 41 S41 := contract_of Tryz.func41 hb41 (Nat.le_of_ble_eq_true (by kernel_rfl)) (fun ⟨x0, _⟩ h hwf K q =>
  let ⟨n, hn⟩ := (q41 x0 h).2.2
  (snd41 n).1 x0 _ _ hn K q)

end
end Go.Proofs.YtfpdnbojchnglaaGreatDoor
