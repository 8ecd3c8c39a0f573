/- Several texts in one: the functions that this law reaches, and their laws. -/
import Derived.Test.YtobhoepkgkmddaaDoorZ3A
import Derived.Test.YtobhoepkgkmddaaDoorZ3B
import Derived.Test.YtobhoepkgkmddaaDoorZ3C
import Derived.WalkKit
import Derived.Lib.Walk
import Derived.Lib.SliceRun
import Derived.Laws.AppendOwn
import Derived.Laws.OwnMore
import Derived.Deep.LoopGhost
import Derived.Deep.OwnRows
import Derived.Deep.RegionHeld3
import Derived.Deep.AppendLies
import Derived.Deep.Onto
import Derived.Shelf.RegionOpenPlain
import Derived.Shelf.Strings.Builder1
import Derived.Shelf.Strings.Builder2
import Derived.Shelf.Strings.BuilderF
import Derived.Shelf.Strings.BuilderK
import Derived.Shelf.Utf8.RuneCount
import Derived.Shelf.Strings.Builder2Cap
import Derived.Shelf.Strconv.Itoa0
import Derived.Shelf.Strconv.Itoa1
import Derived.Shelf.LaysM
import Derived.Shelf.Strconv.Itoa2
import Derived.Shelf.Strconv.Itoa3
import Derived.Shelf.Strconv.Itoa4
import Derived.Shelf.Strings.Search1
import Derived.Shelf.Strings.Search2
import Derived.Shelf.Strings.Search3
import Derived.Shelf.Strings.Cut
import Derived.Shelf.Strings.Count
import Derived.Shelf.Strings.Shaped
import Derived.Shelf.Strings.Prefix
import Derived.Shelf.Strings.Split
import Derived.Shelf.Strings.SplitShaped
import Derived.Shelf.Unicode.Decode
import Derived.Shelf.Strings.RuneCount
import Derived.Shelf.Strings.Explode
import Derived.Shelf.Bits.Mul64
import Derived.Shelf.Strings.Repeat
import Derived.Shelf.Unicode.DecodeSlow
import Derived.Shelf.Unicode.DecodeAny
import Derived.Shelf.Strings.BuilderCap

/- Function 15 (spec.l14DrawWorkers): its runs between cut points. Written by a program of this repo (gen). -/
set_option linter.unusedVariables false
set_option linter.unusedSimpArgs false
set_option maxRecDepth 100000
namespace Go.Proofs.YtobhoepkgkmddaaDoor
open Go Go.Am Go.Proofs
noncomputable section
def ext15 : Ext := [(27, S27), (34, S34), (35, S35), (36, S36), (17, S17)]
theorem call15_27 : Callable Tryd.prog 27 := ⟨Tryd.f27, Tryd.func27, by kernel_rfl, by kernel_rfl⟩
theorem call15_34 : Callable Tryd.prog 34 := ⟨Tryd.f34, Tryd.func34, by kernel_rfl, by kernel_rfl⟩
theorem call15_35 : Callable Tryd.prog 35 := ⟨Tryd.f35, Tryd.func35, by kernel_rfl, by kernel_rfl⟩
theorem call15_36 : Callable Tryd.prog 36 := ⟨Tryd.f36, Tryd.func36, by kernel_rfl, by kernel_rfl⟩
theorem call15_17 : Callable Tryd.prog 17 := ⟨Tryd.f17, Tryd.func17, by kernel_rfl, by kernel_rfl⟩
theorem ext15Ok : ExtOk Tryd.prog ext15 := ⟨⟨call15_27, con27⟩, ⟨call15_34, con34⟩, ⟨call15_35, con35⟩, ⟨call15_36, con36⟩, ⟨call15_17, con17⟩, trivial⟩

noncomputable def b15 : Code := bodyOf Tryd.f15
theorem hb15 : Tryd.f15.body = some b15 := by kernel_rfl
def sig15 : List AT := [AT.pb (Ty.cons (Ty.sl (Ty.int IntKind.u8)) (Ty.cons (Ty.int IntKind.i64) (Ty.cons (Ty.int IntKind.u64) Ty.unit)))]
def tys15 : List Ty := [Ty.sl (Ty.cons Ty.str (Ty.cons (Ty.int IntKind.i64) (Ty.cons (Ty.int IntKind.i64) Ty.unit)))]
def kds15 : List RK := []
def oks15 : List AT := owns sig15
def E15_4 (v5 : Int) (h2 : List (ByteArray × Int × Int × Unit)) (x0 : List Int × Int × Int × Unit) : Env := [(0, PV.a (Atom.optr 0 0 [])), (3, PV.a (Atom.osl 1 Option.none)), (4, PV.a (Atom.osl 2 Option.none)), (5, PV.a (Atom.val (Value.int IntKind.i64 v5)))]
def L15_4 (v5 : Int) (h2 : List (ByteArray × Int × Int × Unit)) (x0 : List Int × Int × Int × Unit) : Heap := [Option.some (Arr.mk (Ty.cons (Ty.sl (Ty.int IntKind.u8)) (Ty.cons (Ty.int IntKind.i64) (Ty.cons (Ty.int IntKind.u64) Ty.unit))) [x0] Bool.true Option.none (Option.some Bool.true)), Option.some (Arr.mk Ty.str [ByteArray.mk #[119, 97], ByteArray.mk #[119, 98], ByteArray.mk #[119, 99], ByteArray.mk #[119, 100], ByteArray.mk #[119, 101]] Bool.false Option.none Option.none), Option.some (Arr.mk (Ty.cons Ty.str (Ty.cons (Ty.int IntKind.i64) (Ty.cons (Ty.int IntKind.i64) Ty.unit))) h2 Bool.false Option.none Option.none)]
def E15_15 (v7 : Int) (h0 : List Int × Int × Int × Unit) (h1 : List (ByteArray × Int × Int × Unit)) (x0 : List Int × Int × Int × Unit) : Env := [(0, PV.a (Atom.optr 0 0 [])), (4, PV.a (Atom.osl 1 Option.none)), (6, PV.a (Atom.val (Value.int IntKind.i64 (g17_0 (u35_0 x0 20) [12, 13])))), (7, PV.a (Atom.val (Value.int IntKind.i64 v7)))]
def L15_15 (v7 : Int) (h0 : List Int × Int × Int × Unit) (h1 : List (ByteArray × Int × Int × Unit)) (x0 : List Int × Int × Int × Unit) : Heap := [Option.some (Arr.mk (Ty.cons (Ty.sl (Ty.int IntKind.u8)) (Ty.cons (Ty.int IntKind.i64) (Ty.cons (Ty.int IntKind.u64) Ty.unit))) [h0] Bool.true Option.none (Option.some Bool.true)), Option.some (Arr.mk (Ty.cons Ty.str (Ty.cons (Ty.int IntKind.i64) (Ty.cons (Ty.int IntKind.i64) Ty.unit))) h1 Bool.false Option.none Option.none)]
mutual
def R15 : Nat → List Int × Int × Int × Unit → List Dyn → List (Option Lst) → Prop
  | 0, _, _, _ => False
  | n + 1, x0, ds, us => (R15_4 n (0) ([]) (x0) ds us)
def R15_4 : Nat → Int → List (ByteArray × Int × Int × Unit) → List Int × Int × Int × Unit → List Dyn → List (Option Lst) → Prop
  | 0, _, _, _, _, _ => False
  | n + 1, v5, h2, x0, ds, us => (if (Decidable.decide (v5 < 5)) = true then ((P27 x0 4) ∧ (if (!g27_0 x0 4) = true then ((0 ≤ v5) ∧ (v5 < 5) ∧ ((P34 (u27_0 x0 4) (List.getD [ByteArray.mk #[119, 97], ByteArray.mk #[119, 98], ByteArray.mk #[119, 99], ByteArray.mk #[119, 100], ByteArray.mk #[119, 101]] (Int.toNat v5) ByteArray.empty)) ∧ (((List.length h2 + 1) * 32 ≤ 140737488355328) ∧ ((InR IntKind.i64 (v5 + 1)) ∧ (R15_4 n (v5 + 1) (h2 ++ [(List.getD [ByteArray.mk #[119, 97], ByteArray.mk #[119, 98], ByteArray.mk #[119, 99], ByteArray.mk #[119, 100], ByteArray.mk #[119, 101]] (Int.toNat v5) ByteArray.empty, 30 * g35_0 (u27_0 x0 4) 40, g43_0 1440 (30 * g35_0 (u27_0 x0 4) 40 + 30 * (1 + g35_0 (u35_0 (u27_0 x0 4) 40) 16)), ())]) (u34_0 (u27_0 x0 4) (List.getD [ByteArray.mk #[119, 97], ByteArray.mk #[119, 98], ByteArray.mk #[119, 99], ByteArray.mk #[119, 100], ByteArray.mk #[119, 101]] (Int.toNat v5) ByteArray.empty)) ds us))))) else ((InR IntKind.i64 (v5 + 1)) ∧ (R15_4 n (v5 + 1) (h2) (u27_0 x0 4) ds us)))) else ((P35 x0 20) ∧ (if (g35_0 x0 20 == 0) = true then ((P34 (u35_0 x0 20) (ByteArray.mk #[122, 122])) ∧ ((P36 (u34_0 (u35_0 x0 20) (ByteArray.mk #[122, 122])) (ByteArray.mk #[122, 122], 30 * g35_0 (u35_0 x0 20) 40, g43_0 1440 (30 * g35_0 (u35_0 x0 20) 40 + 30 * (1 + g35_0 (u35_0 (u35_0 x0 20) 40) 16)), ())) ∧ (((List.length h2 + 1) * 32 ≤ 140737488355328) ∧ (ds = [Dyn.mk (Ty.sl (Ty.cons Ty.str (Ty.cons (Ty.int IntKind.i64) (Ty.cons (Ty.int IntKind.i64) Ty.unit)))) (h2 ++ [g36_0 (u34_0 (u35_0 x0 20) (ByteArray.mk #[122, 122])) (ByteArray.mk #[122, 122], 30 * g35_0 (u35_0 x0 20) 40, g43_0 1440 (30 * g35_0 (u35_0 x0 20) 40 + 30 * (1 + g35_0 (u35_0 (u35_0 x0 20) 40) 16)), ())])] ∧ us = [Option.some (Lst.mk (Ty.cons (Ty.sl (Ty.int IntKind.u8)) (Ty.cons (Ty.int IntKind.i64) (Ty.cons (Ty.int IntKind.u64) Ty.unit))) [u36_0 (u34_0 (u35_0 x0 20) (ByteArray.mk #[122, 122])) (ByteArray.mk #[122, 122], 30 * g35_0 (u35_0 x0 20) 40, g43_0 1440 (30 * g35_0 (u35_0 x0 20) 40 + 30 * (1 + g35_0 (u35_0 (u35_0 x0 20) 40) 16)), ())])])))) else (if (g35_0 x0 20 == 1) = true then ((P17 (u35_0 x0 20) [12, 13]) ∧ (R15_15 n (0) (u17_0 (u35_0 x0 20) [12, 13]) ([]) (x0) ds us)) else (ds = [Dyn.mk (Ty.sl (Ty.cons Ty.str (Ty.cons (Ty.int IntKind.i64) (Ty.cons (Ty.int IntKind.i64) Ty.unit)))) h2] ∧ us = [Option.some (Lst.mk (Ty.cons (Ty.sl (Ty.int IntKind.u8)) (Ty.cons (Ty.int IntKind.i64) (Ty.cons (Ty.int IntKind.u64) Ty.unit))) [u35_0 x0 20])])))))
def R15_15 : Nat → Int → List Int × Int × Int × Unit → List (ByteArray × Int × Int × Unit) → List Int × Int × Int × Unit → List Dyn → List (Option Lst) → Prop
  | 0, _, _, _, _, _, _ => False
  | n + 1, v7, h0, h1, x0, ds, us => (if (Decidable.decide (v7 < g17_0 (u35_0 x0 20) [12, 13])) = true then ((InR IntKind.i64 (97 + v7)) ∧ ((InR IntKind.u8 (97 + v7)) ∧ ((1 + ByteArray.size (bytesStr [97 + v7]) ≤ 9223372036854775807) ∧ ((P34 h0 (ByteArray.mk #[110] ++ bytesStr [97 + v7])) ∧ (((List.length h1 + 1) * 32 ≤ 140737488355328) ∧ ((InR IntKind.i64 (v7 + 1)) ∧ (R15_15 n (v7 + 1) (u34_0 h0 (ByteArray.mk #[110] ++ bytesStr [97 + v7])) (h1 ++ [(ByteArray.mk #[110] ++ bytesStr [97 + v7], 30 * g35_0 h0 40, g43_0 1440 (30 * g35_0 h0 40 + 30 * (1 + g35_0 (u35_0 h0 40) 16)), ())]) (x0) ds us))))))) else (ds = [Dyn.mk (Ty.sl (Ty.cons Ty.str (Ty.cons (Ty.int IntKind.i64) (Ty.cons (Ty.int IntKind.i64) Ty.unit)))) h1] ∧ us = [Option.some (Lst.mk (Ty.cons (Ty.sl (Ty.int IntKind.u8)) (Ty.cons (Ty.int IntKind.i64) (Ty.cons (Ty.int IntKind.u64) Ty.unit))) [h0])]))
end
theorem snd15 : ∀ n, (∀ (x0 : List Int × Int × Int × Unit) ds us, R15 n x0 ds us → ∀ K q, AtV Tryd.prog 15 (PostR kds15 oks15 ds us [0] q K) 62 K q [0] [.code b15] (entE 0 0 sig15 (x0, ())) (entL sig15 (x0, ()))) ∧ (∀ (v5 : Int) (h2 : List (ByteArray × Int × Int × Unit)) (x0 : List Int × Int × Int × Unit) ds us, R15_4 n v5 h2 x0 ds us → ∀ K q, AtV Tryd.prog 15 (PostR kds15 oks15 ds us [0] q K) 62 K q [0] (cutAt b15 4) (E15_4 v5 h2 x0) (L15_4 v5 h2 x0)) ∧ (∀ (v7 : Int) (h0 : List Int × Int × Int × Unit) (h1 : List (ByteArray × Int × Int × Unit)) (x0 : List Int × Int × Int × Unit) ds us, R15_15 n v7 h0 h1 x0 ds us → ∀ K q, AtV Tryd.prog 15 (PostR kds15 oks15 ds us [0] q K) 62 K q [0] (cutAt b15 15) (E15_15 v7 h0 h1 x0) (L15_15 v7 h0 h1 x0)) := by
  intro n
  induction n with
  | zero => exact ⟨fun _ _ _ h => by simp only [R15] at h, fun _ _ _ _ _ h => by simp only [R15_4] at h, fun _ _ _ _ _ _ h => by simp only [R15_15] at h⟩
  | succ n ih =>
  obtain ⟨ih, ih4, ih15⟩ := ih
  refine ⟨?_, ?_, ?_⟩
  · intro x0 ds us h K q
    rw [R15] at h
    exact AtV.go tabOk ext15Ok mixed false [] [] [0, 3, 4, 5] [0, 1, 2] [] trivial (ih4 _ _ _ _ _ h K q) (by kernel_rfl)

  · intro v5 h2 x0 ds us h K q
    rw [R15_4] at h
    by_cases b0 : (Decidable.decide (v5 < 5)) = true
    · rw [if_pos b0] at h
      obtain ⟨s0, h⟩ := h
      by_cases b1 : (!g27_0 x0 4) = true
      · rw [if_pos b1] at h
        obtain ⟨s1, s2, h⟩ := h
        obtain ⟨s3, h⟩ := h
        obtain ⟨s4, h⟩ := h
        obtain ⟨s5, h⟩ := h
        exact AtV.go tabOk ext15Ok mixed false [] [] [0, 3, 4, 5] [0, 1, 2] [true, true] (a1 b0 (a1 s0 (a1 b1 (a1 s1 (a1 s2 (a1 s3 (a1 s4 (a1 s5 trivial)))))))) (ih4 _ _ _ _ _ h K q) (by kernel_rfl)
      · rw [if_neg b1] at h
        replace b1 := Bool.eq_false_iff.2 b1
        obtain ⟨s1, h⟩ := h
        exact AtV.go tabOk ext15Ok mixed false [] [] [0, 3, 4, 5] [0, 1, 2] [true, false] (a1 b0 (a1 s0 (a1 b1 (a1 s1 trivial)))) (ih4 _ _ _ _ _ h K q) (by kernel_rfl)
    · rw [if_neg b0] at h
      replace b0 := Bool.eq_false_iff.2 b0
      obtain ⟨s0, h⟩ := h
      by_cases b1 : (g35_0 x0 20 == 0) = true
      · rw [if_pos b1] at h
        obtain ⟨s1, h⟩ := h
        obtain ⟨s2, h⟩ := h
        obtain ⟨s3, h⟩ := h
        obtain ⟨h, h'⟩ := h; subst h; subst h'
        exact AtV.ret Tryd.func15 tabOk ext15Ok mixed false [] tys15 [false, true] (a1 b0 (a1 s0 (a1 b1 (a1 s1 (a1 s2 (a1 s3 trivial)))))) (by kernel_rfl)
      · rw [if_neg b1] at h
        replace b1 := Bool.eq_false_iff.2 b1
        by_cases b2 : (g35_0 x0 20 == 1) = true
        · rw [if_pos b2] at h
          obtain ⟨s1, h⟩ := h
          exact AtV.go tabOk ext15Ok mixed false [] [] [0, 4, 6, 7] [0, 4] [false, false, true] (a1 b0 (a1 s0 (a1 b1 (a1 b2 (a1 s1 trivial))))) (ih15 _ _ _ _ _ _ h K q) (by kernel_rfl)
        · rw [if_neg b2] at h
          replace b2 := Bool.eq_false_iff.2 b2
          obtain ⟨h, h'⟩ := h; subst h; subst h'
          exact AtV.ret Tryd.func15 tabOk ext15Ok mixed false [] tys15 [false, false, false] (a1 b0 (a1 s0 (a1 b1 (a1 b2 trivial)))) (by kernel_rfl)

  · intro v7 h0 h1 x0 ds us h K q
    rw [R15_15] at h
    by_cases b0 : (Decidable.decide (v7 < g17_0 (u35_0 x0 20) [12, 13])) = true
    · rw [if_pos b0] at h
      obtain ⟨s0, h⟩ := h
      obtain ⟨s1, h⟩ := h
      obtain ⟨s2, h⟩ := h
      obtain ⟨s3, h⟩ := h
      obtain ⟨s4, h⟩ := h
      obtain ⟨s5, h⟩ := h
      exact AtV.go tabOk ext15Ok mixed false [] [] [0, 4, 6, 7] [0, 1] [true] (a1 b0 (a1 s0 (a1 s1 (a1 s2 (a1 s3 (a1 s4 (a1 s5 trivial))))))) (ih15 _ _ _ _ _ _ h K q) (by kernel_rfl)
    · rw [if_neg b0] at h
      replace b0 := Bool.eq_false_iff.2 b0
      obtain ⟨h, h'⟩ := h; subst h; subst h'
      exact AtV.ret Tryd.func15 tabOk ext15Ok mixed false [] tys15 [false] (a1 b0 trivial) (by kernel_rfl)



abbrev TT15 := ByteArray × Int × Int × Unit
abbrev TY15 : Ty := .cons .str (.cons (.int .i64) (.cons (.int .i64) .unit))
def P15 (x0 : (List Int × Int × Int × Unit)) : Prop := SrcOk 800000000 x0
def Q15 (x0 : (List Int × Int × Int × Unit)) (y : List TT15) (s : (List Int × Int × Int × Unit)) : Prop := SrcOk (x0.2.1 + 1000) s ∧ (y.length ≤ 30 ∧ ∀ x ∈ y, wbnd x) ∧ ∃ n, R15 n x0 [⟨.sl TY15, y⟩] [some ⟨(.cons (.sl (.int .u8)) (.cons (.int .i64) (.cons (.int .u64) .unit))), [s]⟩]

theorem many15 (x0 : (List Int × Int × Int × Unit)) (M : Nat) (hM : g17_0 (u35_0 x0 20) [12, 13] = (M : Int)) (hM2 : M ≤ 13) : ∀ (k i : Nat) (s : (List Int × Int × Int × Unit)) (h : List TT15) (m : Int), i + k = M → h.length = i → (∀ x ∈ h, wbnd x) → SrcOk m s → m + 4 * (k : Int) ≤ 900000000 →
    ∃ (n : Nat) (y : List TT15) (z : (List Int × Int × Int × Unit)), SrcOk (m + 4 * (k : Int)) z ∧ (y.length ≤ 30 ∧ ∀ x ∈ y, wbnd x) ∧ R15_15 n (i : Int) s h x0 [⟨.sl TY15, y⟩] [some ⟨(.cons (.sl (.int .u8)) (.cons (.int .i64) (.cons (.int .u64) .unit))), [z]⟩] := by
  intro k
  induction k with
  | zero =>
    intro i s h m hi hl hbd hs hm
    refine ⟨1, h, s, hs.up (by omega), ⟨by omega, hbd⟩, ?_⟩
    rw [R15_15, hM, if_neg (by simp only [decide_eq_true_eq]; omega)]
    exact ⟨rfl, rfl⟩
  | succ k ih =>
    intro i s h m hi hl hbd hs hm
    obtain ⟨p1, s1⟩ := draw_worker hs (by omega) (ByteArray.mk #[110] ++ bytesStr [97 + (i : Int)])
    obtain ⟨n, y, z, a1, a2, a3⟩ := ih (i + 1) _ (h ++ [g34_0 s (ByteArray.mk #[110] ++ bytesStr [97 + (i : Int)])]) (m + 4) (by omega) (by rw [List.length_append, List.length_singleton]; omega) (wbnd_add hbd (wbnd_drawn hs (by omega) _)) s1 (by omega)
    have e : (i : Int) + 1 = ((i + 1 : Nat) : Int) := by omega
    have eb : (bytesStr [97 + (i : Int)]).size = 1 := bytesStr_size _
    refine ⟨n + 1, y, z, a1.up (by omega), a2, ?_⟩
    rw [R15_15, hM, if_pos (by simp only [decide_eq_true_eq]; omega), e]
    exact ⟨by rw [i64_iff]; omega, by rw [u8_iff]; omega, by rw [eb]; decide, p1, by omega, by rw [i64_iff]; omega, a3⟩

theorem run15 : ∀ (k i : Nat) (s : (List Int × Int × Int × Unit)) (h : List TT15) (m : Int), i + k = 5 → h.length ≤ i → (∀ x ∈ h, wbnd x) → SrcOk m s → m + 6 * (k : Int) ≤ 800000100 →
    ∃ (n : Nat) (y : List TT15) (z : (List Int × Int × Int × Unit)), SrcOk (m + 6 * (k : Int) + 100) z ∧ (y.length ≤ 30 ∧ ∀ x ∈ y, wbnd x) ∧ R15_4 n (i : Int) h s [⟨.sl TY15, y⟩] [some ⟨(.cons (.sl (.int .u8)) (.cons (.int .i64) (.cons (.int .u64) .unit))), [z]⟩] := by
  intro k
  induction k with
  | zero =>
    intro i s h m hi hl hbd hs hm
    obtain ⟨p1, s1, _⟩ := pick_ok hs 20 (by omega)
    by_cases c0 : (g35_0 s 20 == 0) = true
    · obtain ⟨p2, s2⟩ := draw_worker s1 (by omega) (ByteArray.mk #[122, 122])
      obtain ⟨p3, s3⟩ := bent_worker s2 (by omega) (g34_0 (u35_0 s 20) (ByteArray.mk #[122, 122])) (drawn_until s1 (by omega) _)
      refine ⟨1, h ++ [g36_0 (u34_0 (u35_0 s 20) (ByteArray.mk #[122, 122])) (g34_0 (u35_0 s 20) (ByteArray.mk #[122, 122]))], _, s3.up (by omega), ⟨by rw [List.length_append, List.length_singleton]; omega, wbnd_add hbd (wbnd_bent s2 (by omega) (wbnd_drawn s1 (by omega) _) (drawn_until s1 (by omega) _))⟩, ?_⟩
      rw [R15_4, if_neg (by simp only [decide_eq_true_eq]; omega), if_pos c0]
      exact ⟨p1, p2, p3, by omega, rfl, rfl⟩
    · by_cases c1 : (g35_0 s 20 == 1) = true
      · obtain ⟨p2, s2, hm2⟩ := among_ok s1 [12, 13] (by decide) (by omega)
        have hM : ∃ j : Nat, g17_0 (u35_0 s 20) [12, 13] = (j : Int) ∧ j ≤ 13 := by
          simp only [List.mem_cons, List.mem_nil_iff, or_false] at hm2
          rcases hm2 with e | e
          · exact ⟨12, e, by decide⟩
          · exact ⟨13, e, by decide⟩
        obtain ⟨j, hj, hj2⟩ := hM
        obtain ⟨n, y, z, a0, a1, a2⟩ := many15 s j hj hj2 j 0 _ [] _ (by omega) rfl (fun x hx => by cases hx) s2 (by omega)
        refine ⟨n + 1, y, _, a0.up (by omega), a1, ?_⟩
        rw [R15_4, if_neg (by simp only [decide_eq_true_eq]; omega), if_neg c0, if_pos c1]
        exact ⟨p1, p2, a2⟩
      · refine ⟨1, h, _, s1.up (by omega), ⟨by omega, hbd⟩, ?_⟩
        rw [R15_4, if_neg (by simp only [decide_eq_true_eq]; omega), if_neg c0, if_neg c1]
        exact ⟨p1, rfl, rfl⟩
  | succ k ih =>
    intro i s h m hi hl hbd hs hm
    have e : (i : Int) + 1 = ((i + 1 : Nat) : Int) := by omega
    obtain ⟨p1, s1⟩ := one_ok hs 4 (by omega)
    by_cases c : (!g27_0 s 4) = true
    · obtain ⟨p2, s2⟩ := draw_worker s1 (by omega) (List.getD [ByteArray.mk #[119, 97], ByteArray.mk #[119, 98], ByteArray.mk #[119, 99], ByteArray.mk #[119, 100], ByteArray.mk #[119, 101]] (Int.toNat (i : Int)) ByteArray.empty)
      obtain ⟨n, y, z, e1, e2, e3⟩ := ih (i + 1) _ (h ++ [g34_0 (u27_0 s 4) (List.getD [ByteArray.mk #[119, 97], ByteArray.mk #[119, 98], ByteArray.mk #[119, 99], ByteArray.mk #[119, 100], ByteArray.mk #[119, 101]] (Int.toNat (i : Int)) ByteArray.empty)]) (m + 6) (by omega) (by rw [List.length_append, List.length_singleton]; omega) (wbnd_add hbd (wbnd_drawn s1 (by omega) _)) (s2.up (by omega)) (by omega)
      refine ⟨n + 1, y, z, e1.up (by omega), e2, ?_⟩
      rw [R15_4, if_pos (by simp only [decide_eq_true_eq]; omega), e]
      refine ⟨p1, ?_⟩
      rw [if_pos c]
      exact ⟨by omega, by omega, p2, by omega, by rw [i64_iff]; omega, e3⟩
    · obtain ⟨n, y, z, e1, e2, e3⟩ := ih (i + 1) _ h (m + 6) (by omega) (by omega) hbd (s1.up (by omega)) (by omega)
      refine ⟨n + 1, y, z, e1.up (by omega), e2, ?_⟩
      rw [R15_4, if_pos (by simp only [decide_eq_true_eq]; omega), e]
      refine ⟨p1, ?_⟩
      rw [if_neg c]
      exact ⟨by rw [i64_iff]; omega, e3⟩

theorem ex15 (x0 : (List Int × Int × Int × Unit)) (h : P15 x0) : ∃ y s, Q15 x0 y s := by
  have h0 : x0.2.1 ≤ 800000000 := h.2.2
  obtain ⟨n, y, t, a1, a2, a3⟩ := run15 5 0 x0 [] _ (by omega) (by simp) (fun x hx => by cases hx) ⟨h.1, h.2.1, Int.le_refl _⟩ (by omega)
  exact ⟨y, t, a1.up (by omega), a2, n + 1, by rw [R15]; exact a3⟩

def g15_0 (x0 : (List Int × Int × Int × Unit)) : List TT15 := (sel2 [] x0 (Q15 x0)).1
def u15_0 (x0 : (List Int × Int × Int × Unit)) : (List Int × Int × Int × Unit) := (sel2 [] x0 (Q15 x0)).2
theorem q15 (x0 : (List Int × Int × Int × Unit)) (h : P15 x0) : Q15 x0 (g15_0 x0) (u15_0 x0) := by
  obtain ⟨y, s, hq⟩ := ex15 x0 h
  exact sel2_spec hq

def S15 : Am.Spec := { sig := sig15, pre := fun ⟨x0, _⟩ => P15 x0, upd := fun ⟨x0, _⟩ => [some ⟨(.cons (.sl (.int .u8)) (.cons (.int .i64) (.cons (.int .u64) .unit))), [u15_0 x0]⟩], res := fun ⟨x0, _⟩ => [⟨.sl TY15, g15_0 x0⟩], kds := kds15 }
theorem con15 : Contract Tryd.prog 15 S15 := contract_of Tryd.func15 hb15 (Nat.le_of_ble_eq_true (by kernel_rfl)) (fun ⟨x0, _⟩ h hwf K q =>
  let ⟨n, hn⟩ := (q15 x0 h).2.2
  (snd15 n).1 x0 _ _ hn K q)

end
end Go.Proofs.YtobhoepkgkmddaaDoor

/- Function 16 (spec.l14DrawMinute): its runs between cut points. Written by a program of this repo (gen). -/
set_option linter.unusedVariables false
set_option linter.unusedSimpArgs false
set_option maxRecDepth 100000
namespace Go.Proofs.YtobhoepkgkmddaaDoor
open Go Go.Am Go.Proofs
noncomputable section
def ext16 : Ext := [(27, S27), (17, S17), (35, S35)]
theorem call16_27 : Callable Tryd.prog 27 := ⟨Tryd.f27, Tryd.func27, by kernel_rfl, by kernel_rfl⟩
theorem call16_17 : Callable Tryd.prog 17 := ⟨Tryd.f17, Tryd.func17, by kernel_rfl, by kernel_rfl⟩
theorem call16_35 : Callable Tryd.prog 35 := ⟨Tryd.f35, Tryd.func35, by kernel_rfl, by kernel_rfl⟩
theorem ext16Ok : ExtOk Tryd.prog ext16 := ⟨⟨call16_27, con27⟩, ⟨call16_17, con17⟩, ⟨call16_35, con35⟩, trivial⟩

noncomputable def b16 : Code := bodyOf Tryd.f16
theorem hb16 : Tryd.f16.body = some b16 := by kernel_rfl
def sig16 : List AT := [AT.pb (Ty.cons (Ty.sl (Ty.int IntKind.u8)) (Ty.cons (Ty.int IntKind.i64) (Ty.cons (Ty.int IntKind.u64) Ty.unit)))]
def tys16 : List Ty := [Ty.int IntKind.i64]
def kds16 : List RK := []
def oks16 : List AT := owns sig16
def P16 (x0 : List Int × Int × Int × Unit) : Prop := ((P27 x0 9) ∧ (if (g27_0 x0 9) = true then ((P17 (u27_0 x0 9) [-1, 0, 1440, 1441]) ∧ True) else ((P35 (u27_0 x0 9) 144) ∧ ((InR IntKind.i64 (10 * g35_0 (u27_0 x0 9) 144)) ∧ True))))
def g16_0 (x0 : List Int × Int × Int × Unit) : Int := (if (g27_0 x0 9) = true then g17_0 (u27_0 x0 9) [-1, 0, 1440, 1441] else 10 * g35_0 (u27_0 x0 9) 144)
def u16_0 (x0 : List Int × Int × Int × Unit) : List Int × Int × Int × Unit := (if (g27_0 x0 9) = true then u17_0 (u27_0 x0 9) [-1, 0, 1440, 1441] else u35_0 (u27_0 x0 9) 144)
theorem at16 (x0 : List Int × Int × Int × Unit) (h : P16 x0) (K : Ctx) (q : Nat → Value) : AtV Tryd.prog 16 (PostR kds16 oks16 [⟨Ty.int IntKind.i64, g16_0 x0⟩] [some ⟨Ty.cons (Ty.sl (Ty.int IntKind.u8)) (Ty.cons (Ty.int IntKind.i64) (Ty.cons (Ty.int IntKind.u64) Ty.unit)), [u16_0 x0]⟩] [0] q K) 11 K q [0] [.code b16] (entE 0 0 sig16 (x0, ())) (entL sig16 (x0, ())) := by
  unfold P16 at h
  unfold g16_0 u16_0
  obtain ⟨s0, h⟩ := h
  by_cases b0 : (g27_0 x0 9) = true
  · try simp only [if_pos b0] at h ⊢
    obtain ⟨s1, h⟩ := h
    exact AtV.weak (AtV.ret (us := [Option.some (Lst.mk (Ty.cons (Ty.sl (Ty.int IntKind.u8)) (Ty.cons (Ty.int IntKind.i64) (Ty.cons (Ty.int IntKind.u64) Ty.unit))) [u17_0 (u27_0 x0 9) [-1, 0, 1440, 1441]])]) Tryd.func16 tabOk ext16Ok mixed false [] tys16 [true] (a1 s0 (a1 b0 (a1 s1 trivial))) (by kernel_rfl)) ⟨.inl rfl, trivial⟩
  · try simp only [if_neg b0] at h ⊢
    replace b0 := Bool.eq_false_iff.2 b0
    obtain ⟨s1, h⟩ := h
    obtain ⟨s2, h⟩ := h
    exact AtV.weak (AtV.ret (us := [Option.some (Lst.mk (Ty.cons (Ty.sl (Ty.int IntKind.u8)) (Ty.cons (Ty.int IntKind.i64) (Ty.cons (Ty.int IntKind.u64) Ty.unit))) [u35_0 (u27_0 x0 9) 144])]) Tryd.func16 tabOk ext16Ok mixed false [] tys16 [false] (a1 s0 (a1 b0 (a1 s1 (a1 s2 trivial)))) (by kernel_rfl)) ⟨.inl rfl, trivial⟩

def S16 : Am.Spec := { sig := sig16, pre := fun ⟨x0, _⟩ => P16 x0, upd := fun ⟨x0, _⟩ => [some ⟨Ty.cons (Ty.sl (Ty.int IntKind.u8)) (Ty.cons (Ty.int IntKind.i64) (Ty.cons (Ty.int IntKind.u64) Ty.unit)), [u16_0 x0]⟩], res := fun ⟨x0, _⟩ => [⟨Ty.int IntKind.i64, g16_0 x0⟩], kds := kds16 }
theorem con16 : Contract Tryd.prog 16 S16 := contract_of Tryd.func16 hb16 (Nat.le_of_ble_eq_true (by kernel_rfl)) (fun ⟨x0, _⟩ h _ K q => at16 x0 h K q)


end
end Go.Proofs.YtobhoepkgkmddaaDoor

/- Function 5 (spec.DrawAloneMinutes): its runs between cut points. Written by a program of this repo (gen). -/
set_option linter.unusedVariables false
set_option linter.unusedSimpArgs false
set_option maxRecDepth 100000
namespace Go.Proofs.YtobhoepkgkmddaaDoor
open Go Go.Am Go.Proofs
noncomputable section
def ext5 : Ext := [(14, S14), (15, S15), (16, S16), (17, S17)]
theorem call5_14 : Callable Tryd.prog 14 := ⟨Tryd.f14, Tryd.func14, by kernel_rfl, by kernel_rfl⟩
theorem call5_15 : Callable Tryd.prog 15 := ⟨Tryd.f15, Tryd.func15, by kernel_rfl, by kernel_rfl⟩
theorem call5_16 : Callable Tryd.prog 16 := ⟨Tryd.f16, Tryd.func16, by kernel_rfl, by kernel_rfl⟩
theorem call5_17 : Callable Tryd.prog 17 := ⟨Tryd.f17, Tryd.func17, by kernel_rfl, by kernel_rfl⟩
theorem ext5Ok : ExtOk Tryd.prog ext5 := ⟨⟨call5_14, con14⟩, ⟨call5_15, con15⟩, ⟨call5_16, con16⟩, ⟨call5_17, con17⟩, trivial⟩

noncomputable def b5 : Code := bodyOf Tryd.f5
theorem hb5 : Tryd.f5.body = some b5 := by kernel_rfl
def sig5 : List AT := [AT.v (Ty.sl (Ty.int IntKind.u8))]
def tys5 : List Ty := [Ty.sl (Ty.cons Ty.str (Ty.cons (Ty.int IntKind.i64) (Ty.cons (Ty.int IntKind.i64) Ty.unit))), Ty.int IntKind.i64, Ty.int IntKind.i64, Ty.int IntKind.i64]
def kds5 : List RK := []
def oks5 : List AT := owns sig5
def P5 (x0 : List Int) : Prop := ((P15 (g14_0 x0)) ∧ ((P16 (u15_0 (g14_0 x0))) ∧ ((P17 (u16_0 (u15_0 (g14_0 x0))) [0, 1, 60, 300, -1]) ∧ ((InR IntKind.i64 (g16_0 (u15_0 (g14_0 x0)) + g17_0 (u16_0 (u15_0 (g14_0 x0))) [0, 1, 60, 300, -1])) ∧ ((P17 (u17_0 (u16_0 (u15_0 (g14_0 x0))) [0, 1, 60, 300, -1]) [1, 2, 3, 12, 13, 0]) ∧ True)))))
def g5_0 (x0 : List Int) : List (ByteArray × Int × Int × Unit) := g15_0 (g14_0 x0)
def g5_1 (x0 : List Int) : Int := g16_0 (u15_0 (g14_0 x0))
def g5_2 (x0 : List Int) : Int := g16_0 (u15_0 (g14_0 x0)) + g17_0 (u16_0 (u15_0 (g14_0 x0))) [0, 1, 60, 300, -1]
def g5_3 (x0 : List Int) : Int := g17_0 (u17_0 (u16_0 (u15_0 (g14_0 x0))) [0, 1, 60, 300, -1]) [1, 2, 3, 12, 13, 0]
theorem at5 (x0 : List Int) (h : P5 x0) (K : Ctx) (q : Nat → Value) : AtV Tryd.prog 5 (PostR kds5 oks5 [⟨Ty.sl (Ty.cons Ty.str (Ty.cons (Ty.int IntKind.i64) (Ty.cons (Ty.int IntKind.i64) Ty.unit))), g5_0 x0⟩, ⟨Ty.int IntKind.i64, g5_1 x0⟩, ⟨Ty.int IntKind.i64, g5_2 x0⟩, ⟨Ty.int IntKind.i64, g5_3 x0⟩] [] [] q K) 27 K q [] [.code b5] (entE 0 0 sig5 (x0, ())) (entL sig5 (x0, ())) := by
  unfold P5 at h
  unfold g5_0 g5_1 g5_2 g5_3
  obtain ⟨s0, h⟩ := h
  obtain ⟨s1, h⟩ := h
  obtain ⟨s2, h⟩ := h
  obtain ⟨s3, h⟩ := h
  obtain ⟨s4, h⟩ := h
  exact AtV.ret Tryd.func5 tabOk ext5Ok mixed false [] tys5 [] (a1 trivial (a1 s0 (a1 s1 (a1 s2 (a1 s3 (a1 s4 trivial)))))) (by kernel_rfl)

def S5 : Am.Spec := { sig := sig5, pre := fun ⟨x0, _⟩ => P5 x0, res := fun ⟨x0, _⟩ => [⟨Ty.sl (Ty.cons Ty.str (Ty.cons (Ty.int IntKind.i64) (Ty.cons (Ty.int IntKind.i64) Ty.unit))), g5_0 x0⟩, ⟨Ty.int IntKind.i64, g5_1 x0⟩, ⟨Ty.int IntKind.i64, g5_2 x0⟩, ⟨Ty.int IntKind.i64, g5_3 x0⟩], kds := kds5 }
theorem con5 : Contract Tryd.prog 5 S5 := contract_of Tryd.func5 hb5 (Nat.le_of_ble_eq_true (by kernel_rfl)) (fun ⟨x0, _⟩ h _ K q => at5 x0 h K q)


end
end Go.Proofs.YtobhoepkgkmddaaDoor

/- Function 20 (impl.within): its runs between cut points. Written by a program of this repo (gen). -/
set_option linter.unusedVariables false
set_option linter.unusedSimpArgs false
set_option maxRecDepth 100000
namespace Go.Proofs.YtobhoepkgkmddaaDoor
open Go Go.Am Go.Proofs
noncomputable section
def ext20 : Ext := []
theorem ext20Ok : ExtOk Tryd.prog ext20 := trivial

noncomputable def b20 : Code := bodyOf Tryd.f20
theorem hb20 : Tryd.f20.body = some b20 := by kernel_rfl
def sig20 : List AT := [AT.v (Ty.int IntKind.i64), AT.v (Ty.int IntKind.i64), AT.v (Ty.int IntKind.i64)]
def tys20 : List Ty := [Ty.bool]
def kds20 : List RK := []
def oks20 : List AT := owns sig20
def P20 (x0 : Int) (x1 : Int) (x2 : Int) : Prop := True
def g20_0 (x0 : Int) (x1 : Int) (x2 : Int) : Bool := (if (Decidable.decide (x0 ≥ x1)) = true then Decidable.decide (x0 ≤ x2) else Bool.false)
theorem at20 (x0 : Int) (x1 : Int) (x2 : Int) (h : P20 x0 x1 x2) (K : Ctx) (q : Nat → Value) : AtV Tryd.prog 20 (PostR kds20 oks20 [⟨Ty.bool, g20_0 x0 x1 x2⟩] [] [] q K) 15 K q [] [.code b20] (entE 0 0 sig20 (x0, x1, x2, ())) (entL sig20 (x0, x1, x2, ())) := by
  unfold P20 at h
  unfold g20_0
  by_cases b0 : (Decidable.decide (x0 ≥ x1)) = true
  · try simp only [if_pos b0] at h ⊢
    exact AtV.ret Tryd.func20 tabOk ext20Ok mixed false [] tys20 [true] (a1 b0 trivial) (by kernel_rfl)
  · try simp only [if_neg b0] at h ⊢
    replace b0 := Bool.eq_false_iff.2 b0
    exact AtV.ret Tryd.func20 tabOk ext20Ok mixed false [] tys20 [false] (a1 b0 trivial) (by kernel_rfl)

def S20 : Am.Spec := { sig := sig20, pre := fun ⟨x0, x1, x2, _⟩ => P20 x0 x1 x2, res := fun ⟨x0, x1, x2, _⟩ => [⟨Ty.bool, g20_0 x0 x1 x2⟩], kds := kds20 }
theorem con20 : Contract Tryd.prog 20 S20 := contract_of Tryd.func20 hb20 (Nat.le_of_ble_eq_true (by kernel_rfl)) (fun ⟨x0, x1, x2, _⟩ h _ K q => at20 x0 x1 x2 h K q)


end
end Go.Proofs.YtobhoepkgkmddaaDoor

/- Function 26 (impl.isDayMinute): its runs between cut points. Written by a program of this repo (gen). -/
set_option linter.unusedVariables false
set_option linter.unusedSimpArgs false
set_option maxRecDepth 100000
namespace Go.Proofs.YtobhoepkgkmddaaDoor
open Go Go.Am Go.Proofs
noncomputable section
def ext26 : Ext := [(20, S20)]
theorem call26_20 : Callable Tryd.prog 20 := ⟨Tryd.f20, Tryd.func20, by kernel_rfl, by kernel_rfl⟩
theorem ext26Ok : ExtOk Tryd.prog ext26 := ⟨⟨call26_20, con20⟩, trivial⟩

noncomputable def b26 : Code := bodyOf Tryd.f26
theorem hb26 : Tryd.f26.body = some b26 := by kernel_rfl
def sig26 : List AT := [AT.v (Ty.int IntKind.i64)]
def tys26 : List Ty := [Ty.bool]
def kds26 : List RK := []
def oks26 : List AT := owns sig26
def P26 (x0 : Int) : Prop := True
def g26_0 (x0 : Int) : Bool := g20_0 x0 0 1440
theorem at26 (x0 : Int) (h : P26 x0) (K : Ctx) (q : Nat → Value) : AtV Tryd.prog 26 (PostR kds26 oks26 [⟨Ty.bool, g26_0 x0⟩] [] [] q K) 5 K q [] [.code b26] (entE 0 0 sig26 (x0, ())) (entL sig26 (x0, ())) := by
  unfold P26 at h
  unfold g26_0
  exact AtV.ret Tryd.func26 tabOk ext26Ok mixed false [] tys26 [] (a1 trivial trivial) (by kernel_rfl)

def S26 : Am.Spec := { sig := sig26, pre := fun ⟨x0, _⟩ => P26 x0, res := fun ⟨x0, _⟩ => [⟨Ty.bool, g26_0 x0⟩], kds := kds26 }
theorem con26 : Contract Tryd.prog 26 S26 := contract_of Tryd.func26 hb26 (Nat.le_of_ble_eq_true (by kernel_rfl)) (fun ⟨x0, _⟩ h _ K q => at26 x0 h K q)


end
end Go.Proofs.YtobhoepkgkmddaaDoor

/- Function 19 (impl.isSpan): its runs between cut points. Written by a program of this repo (gen). -/
set_option linter.unusedVariables false
set_option linter.unusedSimpArgs false
set_option maxRecDepth 100000
namespace Go.Proofs.YtobhoepkgkmddaaDoor
open Go Go.Am Go.Proofs
noncomputable section
def ext19 : Ext := [(26, S26)]
theorem call19_26 : Callable Tryd.prog 26 := ⟨Tryd.f26, Tryd.func26, by kernel_rfl, by kernel_rfl⟩
theorem ext19Ok : ExtOk Tryd.prog ext19 := ⟨⟨call19_26, con26⟩, trivial⟩

noncomputable def b19 : Code := bodyOf Tryd.f19
theorem hb19 : Tryd.f19.body = some b19 := by kernel_rfl
def sig19 : List AT := [AT.v (Ty.int IntKind.i64), AT.v (Ty.int IntKind.i64)]
def tys19 : List Ty := [Ty.bool]
def kds19 : List RK := []
def oks19 : List AT := owns sig19
def P19 (x0 : Int) (x1 : Int) : Prop := True
def g19_0 (x0 : Int) (x1 : Int) : Bool := (if (g26_0 x0) = true then (if (g26_0 x1) = true then Decidable.decide (x0 ≤ x1) else Bool.false) else Bool.false)
theorem at19 (x0 : Int) (x1 : Int) (h : P19 x0 x1) (K : Ctx) (q : Nat → Value) : AtV Tryd.prog 19 (PostR kds19 oks19 [⟨Ty.bool, g19_0 x0 x1⟩] [] [] q K) 16 K q [] [.code b19] (entE 0 0 sig19 (x0, x1, ())) (entL sig19 (x0, x1, ())) := by
  unfold P19 at h
  unfold g19_0
  by_cases b0 : (g26_0 x0) = true
  · try simp only [if_pos b0] at h ⊢
    by_cases b1 : (g26_0 x1) = true
    · try simp only [if_pos b1] at h ⊢
      exact AtV.ret Tryd.func19 tabOk ext19Ok mixed false [] tys19 [true, true] (a1 trivial (a1 b0 (a1 trivial (a1 b1 trivial)))) (by kernel_rfl)
    · try simp only [if_neg b1] at h ⊢
      replace b1 := Bool.eq_false_iff.2 b1
      exact AtV.ret Tryd.func19 tabOk ext19Ok mixed false [] tys19 [true, false] (a1 trivial (a1 b0 (a1 trivial (a1 b1 trivial)))) (by kernel_rfl)
  · try simp only [if_neg b0] at h ⊢
    replace b0 := Bool.eq_false_iff.2 b0
    exact AtV.ret Tryd.func19 tabOk ext19Ok mixed false [] tys19 [false, false] (a1 trivial (a1 b0 (a1 (rfl : Bool.false = Bool.false) trivial))) (by kernel_rfl)

def S19 : Am.Spec := { sig := sig19, pre := fun ⟨x0, x1, _⟩ => P19 x0 x1, res := fun ⟨x0, x1, _⟩ => [⟨Ty.bool, g19_0 x0 x1⟩], kds := kds19 }
theorem con19 : Contract Tryd.prog 19 S19 := contract_of Tryd.func19 hb19 (Nat.le_of_ble_eq_true (by kernel_rfl)) (fun ⟨x0, x1, _⟩ h _ K q => at19 x0 x1 h K q)


end
end Go.Proofs.YtobhoepkgkmddaaDoor

/- Function 41 (impl.IsName): its runs between cut points. Written by a program of this repo (gen). -/
set_option linter.unusedVariables false
set_option linter.unusedSimpArgs false
set_option maxRecDepth 100000
namespace Go.Proofs.YtobhoepkgkmddaaDoor
open Go Go.Am Go.Proofs
noncomputable section
def ext41 : Ext := []
theorem ext41Ok : ExtOk Tryd.prog ext41 := trivial

noncomputable def b41 : Code := bodyOf Tryd.f41
theorem hb41 : Tryd.f41.body = some b41 := by kernel_rfl
def sig41 : List AT := [AT.v (Ty.str)]
def tys41 : List Ty := [Ty.bool]
def kds41 : List RK := []
def oks41 : List AT := owns sig41
def E41_4 (v18 : Int) (x0 : ByteArray) : Env := [(16, PV.a (Atom.osl 0 Option.none)), (17, PV.a (Atom.val (Value.int IntKind.i64 (↑(List.length (bytesOf x0)) : Int)))), (18, PV.a (Atom.val (Value.int IntKind.i64 v18)))]
def L41_4 (v18 : Int) (x0 : ByteArray) : Heap := [Option.some (Arr.mk (Ty.int IntKind.u8) (bytesOf x0) Bool.false Option.none Option.none)]
mutual
def R41 : Nat → ByteArray → List Dyn → Prop
  | 0, _, _ => False
  | n + 1, x0, ds => (if (Decidable.decide ((↑(ByteArray.size x0) : Int) < 1)) = true then (ds = [Dyn.mk Ty.bool Bool.false]) else (if (Decidable.decide ((↑(ByteArray.size x0) : Int) > 10)) = true then (ds = [Dyn.mk Ty.bool Bool.false]) else (R41_4 n (0) (x0) ds)))
def R41_4 : Nat → Int → ByteArray → List Dyn → Prop
  | 0, _, _, _ => False
  | n + 1, v18, x0, ds => (if (Decidable.decide (v18 < (↑(List.length (bytesOf x0)) : Int))) = true then ((0 ≤ v18) ∧ (v18 < (↑(List.length (bytesOf x0)) : Int)) ∧ (if (Decidable.decide (List.getD (bytesOf x0) (Int.toNat v18) 0 ≥ 97)) = true then (if (Decidable.decide (List.getD (bytesOf x0) (Int.toNat v18) 0 ≥ 48)) = true then (if (!Decidable.decide (List.getD (bytesOf x0) (Int.toNat v18) 0 ≤ 122)) = true then (if (v18 == 0) = true then (ds = [Dyn.mk Ty.bool Bool.false]) else (if (!Decidable.decide (List.getD (bytesOf x0) (Int.toNat v18) 0 ≤ 57)) = true then (ds = [Dyn.mk Ty.bool Bool.false]) else ((InR IntKind.i64 (v18 + 1)) ∧ (R41_4 n (v18 + 1) (x0) ds)))) else ((InR IntKind.i64 (v18 + 1)) ∧ (R41_4 n (v18 + 1) (x0) ds))) else (if (!Decidable.decide (List.getD (bytesOf x0) (Int.toNat v18) 0 ≤ 122)) = true then (if (v18 == 0) = true then (ds = [Dyn.mk Ty.bool Bool.false]) else (ds = [Dyn.mk Ty.bool Bool.false])) else ((InR IntKind.i64 (v18 + 1)) ∧ (R41_4 n (v18 + 1) (x0) ds)))) else (if (Decidable.decide (List.getD (bytesOf x0) (Int.toNat v18) 0 ≥ 48)) = true then (if (v18 == 0) = true then (ds = [Dyn.mk Ty.bool Bool.false]) else (if (!Decidable.decide (List.getD (bytesOf x0) (Int.toNat v18) 0 ≤ 57)) = true then (ds = [Dyn.mk Ty.bool Bool.false]) else ((InR IntKind.i64 (v18 + 1)) ∧ (R41_4 n (v18 + 1) (x0) ds)))) else (if (v18 == 0) = true then (ds = [Dyn.mk Ty.bool Bool.false]) else (ds = [Dyn.mk Ty.bool Bool.false]))))) else (ds = [Dyn.mk Ty.bool Bool.true]))
end
theorem snd41 : ∀ n, (∀ (x0 : ByteArray) ds, R41 n x0 ds → ∀ K q, AtV Tryd.prog 41 (PostR kds41 oks41 ds [] [] q K) 46 K q [] [.code b41] (entE 0 0 sig41 (x0, ())) (entL sig41 (x0, ()))) ∧ (∀ (v18 : Int) (x0 : ByteArray) ds, R41_4 n v18 x0 ds → ∀ K q, AtV Tryd.prog 41 (PostR kds41 oks41 ds [] [] q K) 46 K q [] (cutAt b41 4) (E41_4 v18 x0) (L41_4 v18 x0)) := by
  intro n
  induction n with
  | zero => exact ⟨fun _ _ h => by simp only [R41] at h, fun _ _ _ h => by simp only [R41_4] at h⟩
  | succ n ih =>
  obtain ⟨ih, ih4⟩ := ih
  refine ⟨?_, ?_⟩
  · intro x0 ds h K q
    rw [R41] at h
    by_cases b0 : (Decidable.decide ((↑(ByteArray.size x0) : Int) < 1)) = true
    · rw [if_pos b0] at h
      subst h
      exact AtV.ret Tryd.func41 tabOk ext41Ok mixed false [] tys41 [true, true] (a1 b0 (a1 (rfl : Bool.true = Bool.true) trivial)) (by kernel_rfl)
    · rw [if_neg b0] at h
      replace b0 := Bool.eq_false_iff.2 b0
      by_cases b1 : (Decidable.decide ((↑(ByteArray.size x0) : Int) > 10)) = true
      · rw [if_pos b1] at h
        subst h
        exact AtV.ret Tryd.func41 tabOk ext41Ok mixed false [] tys41 [false, true] (a1 b0 (a1 b1 trivial)) (by kernel_rfl)
      · rw [if_neg b1] at h
        replace b1 := Bool.eq_false_iff.2 b1
        exact AtV.go tabOk ext41Ok mixed false [] [] [16, 17, 18] [0] [false, false] (a1 b0 (a1 b1 trivial)) (ih4 _ _ _ h K q) (by kernel_rfl)

  · intro v18 x0 ds h K q
    rw [R41_4] at h
    by_cases b0 : (Decidable.decide (v18 < (↑(List.length (bytesOf x0)) : Int))) = true
    · rw [if_pos b0] at h
      obtain ⟨s0, s1, h⟩ := h
      by_cases b1 : (Decidable.decide (List.getD (bytesOf x0) (Int.toNat v18) 0 ≥ 97)) = true
      · rw [if_pos b1] at h
        by_cases b2 : (Decidable.decide (List.getD (bytesOf x0) (Int.toNat v18) 0 ≥ 48)) = true
        · rw [if_pos b2] at h
          by_cases b3 : (!Decidable.decide (List.getD (bytesOf x0) (Int.toNat v18) 0 ≤ 122)) = true
          · rw [if_pos b3] at h
            by_cases b4 : (v18 == 0) = true
            · rw [if_pos b4] at h
              subst h
              exact AtV.ret Tryd.func41 tabOk ext41Ok mixed false [] tys41 [true, true, true, true, true, true] (a1 b0 (a1 s0 (a1 s1 (a1 b1 (a1 b2 (a1 b3 (a1 b4 (a1 (rfl : Bool.true = Bool.true) trivial)))))))) (by kernel_rfl)
            · rw [if_neg b4] at h
              replace b4 := Bool.eq_false_iff.2 b4
              by_cases b5 : (!Decidable.decide (List.getD (bytesOf x0) (Int.toNat v18) 0 ≤ 57)) = true
              · rw [if_pos b5] at h
                subst h
                exact AtV.ret Tryd.func41 tabOk ext41Ok mixed false [] tys41 [true, true, true, true, false, true] (a1 b0 (a1 s0 (a1 s1 (a1 b1 (a1 b2 (a1 b3 (a1 b4 (a1 b5 trivial)))))))) (by kernel_rfl)
              · rw [if_neg b5] at h
                replace b5 := Bool.eq_false_iff.2 b5
                obtain ⟨s2, h⟩ := h
                exact AtV.go tabOk ext41Ok mixed false [] [] [16, 17, 18] [0] [true, true, true, true, false, false] (a1 b0 (a1 s0 (a1 s1 (a1 b1 (a1 b2 (a1 b3 (a1 b4 (a1 b5 (a1 s2 trivial))))))))) (ih4 _ _ _ h K q) (by kernel_rfl)
          · rw [if_neg b3] at h
            replace b3 := Bool.eq_false_iff.2 b3
            obtain ⟨s2, h⟩ := h
            exact AtV.go tabOk ext41Ok mixed false [] [] [16, 17, 18] [0] [true, true, true, false, false] (a1 b0 (a1 s0 (a1 s1 (a1 b1 (a1 b2 (a1 b3 (a1 (rfl : Bool.false = Bool.false) (a1 s2 trivial)))))))) (ih4 _ _ _ h K q) (by kernel_rfl)
        · rw [if_neg b2] at h
          replace b2 := Bool.eq_false_iff.2 b2
          by_cases b3 : (!Decidable.decide (List.getD (bytesOf x0) (Int.toNat v18) 0 ≤ 122)) = true
          · rw [if_pos b3] at h
            by_cases b4 : (v18 == 0) = true
            · rw [if_pos b4] at h
              subst h
              exact AtV.ret Tryd.func41 tabOk ext41Ok mixed false [] tys41 [true, true, false, true, true, true] (a1 b0 (a1 s0 (a1 s1 (a1 b1 (a1 b2 (a1 b3 (a1 b4 (a1 (rfl : Bool.true = Bool.true) trivial)))))))) (by kernel_rfl)
            · rw [if_neg b4] at h
              replace b4 := Bool.eq_false_iff.2 b4
              subst h
              exact AtV.ret Tryd.func41 tabOk ext41Ok mixed false [] tys41 [true, true, false, true, false, true] (a1 b0 (a1 s0 (a1 s1 (a1 b1 (a1 b2 (a1 b3 (a1 b4 (a1 (rfl : Bool.true = Bool.true) trivial)))))))) (by kernel_rfl)
          · rw [if_neg b3] at h
            replace b3 := Bool.eq_false_iff.2 b3
            obtain ⟨s2, h⟩ := h
            exact AtV.go tabOk ext41Ok mixed false [] [] [16, 17, 18] [0] [true, true, false, false, false] (a1 b0 (a1 s0 (a1 s1 (a1 b1 (a1 b2 (a1 b3 (a1 (rfl : Bool.false = Bool.false) (a1 s2 trivial)))))))) (ih4 _ _ _ h K q) (by kernel_rfl)
      · rw [if_neg b1] at h
        replace b1 := Bool.eq_false_iff.2 b1
        by_cases b2 : (Decidable.decide (List.getD (bytesOf x0) (Int.toNat v18) 0 ≥ 48)) = true
        · rw [if_pos b2] at h
          by_cases b3 : (v18 == 0) = true
          · rw [if_pos b3] at h
            subst h
            exact AtV.ret Tryd.func41 tabOk ext41Ok mixed false [] tys41 [true, false, true, true, true, true] (a1 b0 (a1 s0 (a1 s1 (a1 b1 (a1 b2 (a1 (rfl : Bool.true = Bool.true) (a1 b3 (a1 (rfl : Bool.true = Bool.true) trivial)))))))) (by kernel_rfl)
          · rw [if_neg b3] at h
            replace b3 := Bool.eq_false_iff.2 b3
            by_cases b4 : (!Decidable.decide (List.getD (bytesOf x0) (Int.toNat v18) 0 ≤ 57)) = true
            · rw [if_pos b4] at h
              subst h
              exact AtV.ret Tryd.func41 tabOk ext41Ok mixed false [] tys41 [true, false, true, true, false, true] (a1 b0 (a1 s0 (a1 s1 (a1 b1 (a1 b2 (a1 (rfl : Bool.true = Bool.true) (a1 b3 (a1 b4 trivial)))))))) (by kernel_rfl)
            · rw [if_neg b4] at h
              replace b4 := Bool.eq_false_iff.2 b4
              obtain ⟨s2, h⟩ := h
              exact AtV.go tabOk ext41Ok mixed false [] [] [16, 17, 18] [0] [true, false, true, true, false, false] (a1 b0 (a1 s0 (a1 s1 (a1 b1 (a1 b2 (a1 (rfl : Bool.true = Bool.true) (a1 b3 (a1 b4 (a1 s2 trivial))))))))) (ih4 _ _ _ h K q) (by kernel_rfl)
        · rw [if_neg b2] at h
          replace b2 := Bool.eq_false_iff.2 b2
          by_cases b3 : (v18 == 0) = true
          · rw [if_pos b3] at h
            subst h
            exact AtV.ret Tryd.func41 tabOk ext41Ok mixed false [] tys41 [true, false, false, true, true, true] (a1 b0 (a1 s0 (a1 s1 (a1 b1 (a1 b2 (a1 (rfl : Bool.true = Bool.true) (a1 b3 (a1 (rfl : Bool.true = Bool.true) trivial)))))))) (by kernel_rfl)
          · rw [if_neg b3] at h
            replace b3 := Bool.eq_false_iff.2 b3
            subst h
            exact AtV.ret Tryd.func41 tabOk ext41Ok mixed false [] tys41 [true, false, false, true, false, true] (a1 b0 (a1 s0 (a1 s1 (a1 b1 (a1 b2 (a1 (rfl : Bool.true = Bool.true) (a1 b3 (a1 (rfl : Bool.true = Bool.true) trivial)))))))) (by kernel_rfl)
    · rw [if_neg b0] at h
      replace b0 := Bool.eq_false_iff.2 b0
      subst h
      exact AtV.ret Tryd.func41 tabOk ext41Ok mixed false [] tys41 [false] (a1 b0 trivial) (by kernel_rfl)



def ok41 (i : Nat) (b : Int) : Bool := (decide (97 ≤ b) && decide (b ≤ 122)) || (!(i == 0) && (decide (48 ≤ b) && decide (b ≤ 57)))
def g41_0 (x0 : ByteArray) : Bool := decide (1 ≤ x0.size) && decide (x0.size ≤ 10) && allI ok41 0 (bytesOf x0)
def P41 (x0 : ByteArray) : Prop := True

theorem step41 (n i : Nat) (x0 : ByteArray) (hw : Wf .str x0) (hi : i < (bytesOf x0).length) (ds : List Dyn) :
    R41_4 (n + 1) (i : Int) x0 ds ↔ (if ok41 i ((bytesOf x0).getD i 0) = true then R41_4 n ((i : Int) + 1) x0 ds else ds = [⟨.bool, false⟩]) := by
  have hu := inR_up (xs := bytesOf x0) (by rw [bytesOf_length]; exact hw) hi
  rw [R41_4, if_pos (by simp; omega)]
  simp only [Int.toNat_natCast]
  have hb : (0 : Int) ≤ (i : Int) ∧ (i : Int) < ((bytesOf x0).length : Int) := by omega
  have hz : ((i : Int) == 0) = (i == 0) := by
    cases i with
    | zero => rfl
    | succ k => simp; omega
  simp only [hz, ok41, hu, true_and, hb.1, hb.2, ge_iff_le]
  by_cases h1 : (97 : Int) ≤ (bytesOf x0).getD i 0 <;> by_cases h2 : (bytesOf x0).getD i 0 ≤ 122 <;> by_cases h3 : (48 : Int) ≤ (bytesOf x0).getD i 0 <;> by_cases h4 : (bytesOf x0).getD i 0 ≤ 57 <;> rcases Bool.eq_false_or_eq_true (i == 0) with e0 | e0 <;> first | (exfalso; omega) | simp only [h1, h2, h3, h4, e0, decide_true, decide_false, Bool.not_true, Bool.not_false, Bool.true_and, Bool.false_and, Bool.and_true, Bool.and_false, Bool.true_or, Bool.or_true, Bool.or_false, Bool.false_or, if_true, if_false, Bool.false_eq_true]

theorem top41 (x0 : ByteArray) (hw : Wf .str x0) : R41 (x0.size + 1 + 1) x0 [⟨.bool, g41_0 x0⟩] := by
  have hl := bytesOf_length x0
  rw [R41]
  by_cases h0 : (x0.size : Int) < 1
  · rw [if_pos (by simpa using h0)]
    have : ¬ 1 ≤ x0.size := by omega
    simp [g41_0, this]
  · rw [if_neg (by simpa using h0)]
    by_cases h1 : (x0.size : Int) > 10
    · rw [if_pos (by simpa using h1)]
      have : ¬ x0.size ≤ 10 := by omega
      simp [g41_0, this]
    · rw [if_neg (by simpa using h1)]
      have key := loop_testI (bytesOf x0) 0 ok41 [(⟨.bool, false⟩ : Dyn)] [⟨.bool, true⟩] (fun n i ds => R41_4 n i x0 ds) (fun n => ?_) (fun n i hi hok ds hr => ?_) (fun n i hi hok => ?_)
      · rw [hl] at key
        have e : g41_0 x0 = allI ok41 0 (bytesOf x0) := by
          have a : 1 ≤ x0.size := by omega
          have b : x0.size ≤ 10 := by omega
          simp [g41_0, a, b]
        rw [e]
        cases h : allI ok41 0 (bytesOf x0) with
        | true => rw [if_pos h] at key; exact key
        | false => rw [if_neg (by rw [h]; simp)] at key; exact key
      · show R41_4 (n + 1) ((bytesOf x0).length : Int) x0 _
        rw [R41_4, if_neg (by simp)]
      · exact (step41 n i x0 hw hi ds).2 (by rw [if_pos hok]; exact hr)
      · exact (step41 n i x0 hw hi _).2 (by rw [if_neg (by rw [hok]; simp)])

def S41 : Am.Spec := { sig := sig41, pre := fun ⟨x0, _⟩ => P41 x0, res := fun ⟨x0, _⟩ => [⟨Ty.bool, g41_0 x0⟩] }
theorem con41 : Contract Tryd.prog 41 S41 := contract_of Tryd.func41 hb41 (Nat.le_of_ble_eq_true (by kernel_rfl)) (fun ⟨x0, _⟩ h hwf K q =>
  (snd41 _).1 x0 _ (top41 x0 hwf.1) K q)

end
end Go.Proofs.YtobhoepkgkmddaaDoor

/- Function 32 (impl.validWorker): its runs between cut points. Written by a program of this repo (gen). -/
set_option linter.unusedVariables false
set_option linter.unusedSimpArgs false
set_option maxRecDepth 100000
namespace Go.Proofs.YtobhoepkgkmddaaDoor
open Go Go.Am Go.Proofs
noncomputable section
def ext32 : Ext := [(41, S41), (26, S26)]
theorem call32_41 : Callable Tryd.prog 41 := ⟨Tryd.f41, Tryd.func41, by kernel_rfl, by kernel_rfl⟩
theorem call32_26 : Callable Tryd.prog 26 := ⟨Tryd.f26, Tryd.func26, by kernel_rfl, by kernel_rfl⟩
theorem ext32Ok : ExtOk Tryd.prog ext32 := ⟨⟨call32_41, con41⟩, ⟨call32_26, con26⟩, trivial⟩

noncomputable def b32 : Code := bodyOf Tryd.f32
theorem hb32 : Tryd.f32.body = some b32 := by kernel_rfl
def sig32 : List AT := [AT.v (Ty.cons Ty.str (Ty.cons (Ty.int IntKind.i64) (Ty.cons (Ty.int IntKind.i64) Ty.unit)))]
def tys32 : List Ty := [Ty.bool]
def kds32 : List RK := []
def oks32 : List AT := owns sig32
def P32 (x0 : ByteArray × Int × Int × Unit) : Prop := True
def g32_0 (x0 : ByteArray × Int × Int × Unit) : Bool := (if (g41_0 (Prod.fst x0)) = true then (if (g26_0 (Prod.fst (Prod.snd x0))) = true then (if (g26_0 (Prod.fst (Prod.snd (Prod.snd x0)))) = true then Decidable.decide (Prod.fst (Prod.snd x0) < Prod.fst (Prod.snd (Prod.snd x0))) else Bool.false) else Bool.false) else Bool.false)
theorem at32 (x0 : ByteArray × Int × Int × Unit) (h : P32 x0) (K : Ctx) (q : Nat → Value) : AtV Tryd.prog 32 (PostR kds32 oks32 [⟨Ty.bool, g32_0 x0⟩] [] [] q K) 23 K q [] [.code b32] (entE 0 0 sig32 (x0, ())) (entL sig32 (x0, ())) := by
  unfold P32 at h
  unfold g32_0
  by_cases b0 : (g41_0 (Prod.fst x0)) = true
  · try simp only [if_pos b0] at h ⊢
    by_cases b1 : (g26_0 (Prod.fst (Prod.snd x0))) = true
    · try simp only [if_pos b1] at h ⊢
      by_cases b2 : (g26_0 (Prod.fst (Prod.snd (Prod.snd x0)))) = true
      · try simp only [if_pos b2] at h ⊢
        exact AtV.ret Tryd.func32 tabOk ext32Ok mixed false [] tys32 [true, true, true] (a1 trivial (a1 b0 (a1 trivial (a1 b1 (a1 trivial (a1 b2 trivial)))))) (by kernel_rfl)
      · try simp only [if_neg b2] at h ⊢
        replace b2 := Bool.eq_false_iff.2 b2
        exact AtV.ret Tryd.func32 tabOk ext32Ok mixed false [] tys32 [true, true, false] (a1 trivial (a1 b0 (a1 trivial (a1 b1 (a1 trivial (a1 b2 trivial)))))) (by kernel_rfl)
    · try simp only [if_neg b1] at h ⊢
      replace b1 := Bool.eq_false_iff.2 b1
      exact AtV.ret Tryd.func32 tabOk ext32Ok mixed false [] tys32 [true, false, false] (a1 trivial (a1 b0 (a1 trivial (a1 b1 (a1 (rfl : Bool.false = Bool.false) trivial))))) (by kernel_rfl)
  · try simp only [if_neg b0] at h ⊢
    replace b0 := Bool.eq_false_iff.2 b0
    exact AtV.ret Tryd.func32 tabOk ext32Ok mixed false [] tys32 [false, false, false] (a1 trivial (a1 b0 (a1 (rfl : Bool.false = Bool.false) (a1 (rfl : Bool.false = Bool.false) trivial)))) (by kernel_rfl)

def S32 : Am.Spec := { sig := sig32, pre := fun ⟨x0, _⟩ => P32 x0, res := fun ⟨x0, _⟩ => [⟨Ty.bool, g32_0 x0⟩], kds := kds32 }
theorem con32 : Contract Tryd.prog 32 S32 := contract_of Tryd.func32 hb32 (Nat.le_of_ble_eq_true (by kernel_rfl)) (fun ⟨x0, _⟩ h _ K q => at32 x0 h K q)


end
end Go.Proofs.YtobhoepkgkmddaaDoor

/- Function 37 (impl.ValidWorkers): its runs between cut points. Written by a program of this repo (gen). -/
set_option linter.unusedVariables false
set_option linter.unusedSimpArgs false
set_option maxRecDepth 100000
namespace Go.Proofs.YtobhoepkgkmddaaDoor
open Go Go.Am Go.Proofs
noncomputable section
def ext37 : Ext := [(32, S32)]
theorem call37_32 : Callable Tryd.prog 32 := ⟨Tryd.f32, Tryd.func32, by kernel_rfl, by kernel_rfl⟩
theorem ext37Ok : ExtOk Tryd.prog ext37 := ⟨⟨call37_32, con32⟩, trivial⟩

noncomputable def b37 : Code := bodyOf Tryd.f37
theorem hb37 : Tryd.f37.body = some b37 := by kernel_rfl
def sig37 : List AT := [AT.v (Ty.sl (Ty.cons Ty.str (Ty.cons (Ty.int IntKind.i64) (Ty.cons (Ty.int IntKind.i64) Ty.unit))))]
def tys37 : List Ty := [Ty.bool]
def kds37 : List RK := []
def oks37 : List AT := owns sig37
def E37_2 (v7 : Int) (x0 : List (ByteArray × Int × Int × Unit)) : Env := [(0, PV.a (Atom.sl (Ty.cons Ty.str (Ty.cons (Ty.int IntKind.i64) (Ty.cons (Ty.int IntKind.i64) Ty.unit))) x0)), (5, PV.a (Atom.sl (Ty.cons Ty.str (Ty.cons (Ty.int IntKind.i64) (Ty.cons (Ty.int IntKind.i64) Ty.unit))) x0)), (6, PV.a (Atom.val (Value.int IntKind.i64 (↑(List.length x0) : Int)))), (7, PV.a (Atom.val (Value.int IntKind.i64 v7)))]
def L37_2 (v7 : Int) (x0 : List (ByteArray × Int × Int × Unit)) : Heap := []
mutual
def R37 : Nat → List (ByteArray × Int × Int × Unit) → List Dyn → Prop
  | 0, _, _ => False
  | n + 1, x0, ds => (R37_2 n (0) (x0) ds)
def R37_2 : Nat → Int → List (ByteArray × Int × Int × Unit) → List Dyn → Prop
  | 0, _, _, _ => False
  | n + 1, v7, x0, ds => (if (Decidable.decide (v7 < (↑(List.length x0) : Int))) = true then ((0 ≤ v7) ∧ (v7 < (↑(List.length x0) : Int)) ∧ (if (!g32_0 (List.getD x0 (Int.toNat v7) (ByteArray.empty, 0, 0, ()))) = true then (ds = [Dyn.mk Ty.bool Bool.false]) else (if (Decidable.decide (v7 > 0)) = true then ((InR IntKind.i64 (v7 - 1)) ∧ ((0 ≤ v7 - 1) ∧ (v7 - 1 < (↑(List.length x0) : Int)) ∧ (if (Op.bytesLess (ByteArray.toList (Prod.fst (List.getD x0 (Int.toNat v7) (ByteArray.empty, 0, 0, ())))) (ByteArray.toList (Prod.fst (List.getD x0 (Int.toNat (v7 - 1)) (ByteArray.empty, 0, 0, ())))) || ByteArray.toList (Prod.fst (List.getD x0 (Int.toNat v7) (ByteArray.empty, 0, 0, ()))) == ByteArray.toList (Prod.fst (List.getD x0 (Int.toNat (v7 - 1)) (ByteArray.empty, 0, 0, ())))) = true then (ds = [Dyn.mk Ty.bool Bool.false]) else ((InR IntKind.i64 (v7 + 1)) ∧ (R37_2 n (v7 + 1) (x0) ds))))) else ((InR IntKind.i64 (v7 + 1)) ∧ (R37_2 n (v7 + 1) (x0) ds))))) else (ds = [Dyn.mk Ty.bool (Decidable.decide ((↑(List.length x0) : Int) ≤ 12))]))
end
theorem snd37 : ∀ n, (∀ (x0 : List (ByteArray × Int × Int × Unit)) ds, R37 n x0 ds → ∀ K q, AtV Tryd.prog 37 (PostR kds37 oks37 ds [] [] q K) 34 K q [] [.code b37] (entE 0 0 sig37 (x0, ())) (entL sig37 (x0, ()))) ∧ (∀ (v7 : Int) (x0 : List (ByteArray × Int × Int × Unit)) ds, R37_2 n v7 x0 ds → ∀ K q, AtV Tryd.prog 37 (PostR kds37 oks37 ds [] [] q K) 34 K q [] (cutAt b37 2) (E37_2 v7 x0) (L37_2 v7 x0)) := by
  intro n
  induction n with
  | zero => exact ⟨fun _ _ h => by simp only [R37] at h, fun _ _ _ h => by simp only [R37_2] at h⟩
  | succ n ih =>
  obtain ⟨ih, ih2⟩ := ih
  refine ⟨?_, ?_⟩
  · intro x0 ds h K q
    rw [R37] at h
    exact AtV.go tabOk ext37Ok mixed false [] [] [0, 5, 6, 7] [] [] trivial (ih2 _ _ _ h K q) (by kernel_rfl)

  · intro v7 x0 ds h K q
    rw [R37_2] at h
    by_cases b0 : (Decidable.decide (v7 < (↑(List.length x0) : Int))) = true
    · rw [if_pos b0] at h
      obtain ⟨s0, s1, h⟩ := h
      by_cases b1 : (!g32_0 (List.getD x0 (Int.toNat v7) (ByteArray.empty, 0, 0, ()))) = true
      · rw [if_pos b1] at h
        subst h
        exact AtV.ret Tryd.func37 tabOk ext37Ok mixed false [] tys37 [true, true, true] (a1 b0 (a1 s0 (a1 s1 (a1 trivial (a1 b1 (a1 (rfl : Bool.true = Bool.true) trivial)))))) (by kernel_rfl)
      · rw [if_neg b1] at h
        replace b1 := Bool.eq_false_iff.2 b1
        by_cases b2 : (Decidable.decide (v7 > 0)) = true
        · rw [if_pos b2] at h
          obtain ⟨s2, h⟩ := h
          obtain ⟨s3, s4, h⟩ := h
          by_cases b3 : (Op.bytesLess (ByteArray.toList (Prod.fst (List.getD x0 (Int.toNat v7) (ByteArray.empty, 0, 0, ())))) (ByteArray.toList (Prod.fst (List.getD x0 (Int.toNat (v7 - 1)) (ByteArray.empty, 0, 0, ())))) || ByteArray.toList (Prod.fst (List.getD x0 (Int.toNat v7) (ByteArray.empty, 0, 0, ()))) == ByteArray.toList (Prod.fst (List.getD x0 (Int.toNat (v7 - 1)) (ByteArray.empty, 0, 0, ())))) = true
          · rw [if_pos b3] at h
            subst h
            exact AtV.ret Tryd.func37 tabOk ext37Ok mixed false [] tys37 [true, false, true, true] (a1 b0 (a1 s0 (a1 s1 (a1 trivial (a1 b1 (a1 b2 (a1 s2 (a1 s3 (a1 s4 (a1 b3 trivial)))))))))) (by kernel_rfl)
          · rw [if_neg b3] at h
            replace b3 := Bool.eq_false_iff.2 b3
            obtain ⟨s5, h⟩ := h
            exact AtV.go tabOk ext37Ok mixed false [] [] [0, 5, 6, 7] [] [true, false, true, false] (a1 b0 (a1 s0 (a1 s1 (a1 trivial (a1 b1 (a1 b2 (a1 s2 (a1 s3 (a1 s4 (a1 b3 (a1 s5 trivial))))))))))) (ih2 _ _ _ h K q) (by kernel_rfl)
        · rw [if_neg b2] at h
          replace b2 := Bool.eq_false_iff.2 b2
          obtain ⟨s2, h⟩ := h
          exact AtV.go tabOk ext37Ok mixed false [] [] [0, 5, 6, 7] [] [true, false, false, false] (a1 b0 (a1 s0 (a1 s1 (a1 trivial (a1 b1 (a1 b2 (a1 (rfl : Bool.false = Bool.false) (a1 s2 trivial)))))))) (ih2 _ _ _ h K q) (by kernel_rfl)
    · rw [if_neg b0] at h
      replace b0 := Bool.eq_false_iff.2 b0
      subst h
      exact AtV.ret Tryd.func37 tabOk ext37Ok mixed false [] tys37 [false] (a1 b0 trivial) (by kernel_rfl)



def ok37 (x0 : List (ByteArray × Int × Int × Unit)) (i : Nat) (x : (ByteArray × Int × Int × Unit)) : Bool :=
  g32_0 x && (i == 0 || !(Op.bytesLess (ByteArray.toList x.1) (ByteArray.toList (x0.getD (i - 1) (ByteArray.empty, (0 : Int), (0 : Int), ())).1) || ByteArray.toList x.1 == ByteArray.toList (x0.getD (i - 1) (ByteArray.empty, (0 : Int), (0 : Int), ())).1))
def g37_0 (x0 : List (ByteArray × Int × Int × Unit)) : Bool := allI (ok37 x0) 0 x0 && decide (x0.length ≤ 12)
def P37 (x0 : List (ByteArray × Int × Int × Unit)) : Prop := True

theorem step37 (n i : Nat) (x0 : List (ByteArray × Int × Int × Unit)) (hm : x0.length ≤ maxLen) (hi : i < x0.length) (ds : List Dyn) :
    (if ok37 x0 i (x0.getD i (ByteArray.empty, (0 : Int), (0 : Int), ())) = true then R37_2 n ((i : Int) + 1) x0 ds else ds = [⟨.bool, false⟩]) → R37_2 (n + 1) (i : Int) x0 ds := by
  intro h
  have hu := inR_up hm hi
  rw [R37_2, if_pos (by simp; omega)]
  refine ⟨by omega, by omega, ?_⟩
  simp only [Int.toNat_natCast]
  unfold ok37 at h
  by_cases h1 : g32_0 (x0.getD i (ByteArray.empty, (0 : Int), (0 : Int), ())) = true
  case neg =>
    have h1 := Bool.eq_false_iff.2 h1
    rw [h1] at h
    rw [if_pos (by rw [h1]; rfl)]
    simpa using h
  case pos =>
    rw [h1] at h
    rw [if_neg (by rw [h1]; simp)]
    by_cases h0 : (i : Int) > 0
    · rw [if_pos (by simpa using h0)]
      have hi0 : (i == 0) = false := by simp; omega
      have e : ((i : Int) - 1).toNat = i - 1 := by omega
      refine ⟨by rw [i64_iff]; have : maxLen ≤ 9223372036854775807 := by decide
                 omega, by omega, by omega, ?_⟩
      rw [e]
      by_cases h2 : (Op.bytesLess (ByteArray.toList (x0.getD i (ByteArray.empty, (0 : Int), (0 : Int), ())).1) (ByteArray.toList (x0.getD (i - 1) (ByteArray.empty, (0 : Int), (0 : Int), ())).1) || ByteArray.toList (x0.getD i (ByteArray.empty, (0 : Int), (0 : Int), ())).1 == ByteArray.toList (x0.getD (i - 1) (ByteArray.empty, (0 : Int), (0 : Int), ())).1) = true
      · rw [if_pos h2]
        rw [hi0, h2] at h
        simpa using h
      · rw [if_neg h2]
        rw [hi0, Bool.eq_false_iff.2 h2] at h
        exact ⟨hu, by simpa using h⟩
    · rw [if_neg (by simpa using h0)]
      have hi0 : (i == 0) = true := by simp; omega
      rw [hi0] at h
      exact ⟨hu, by simpa using h⟩

theorem top37 (x0 : List (ByteArray × Int × Int × Unit)) (hw : x0.length ≤ maxLen) : R37 (x0.length + 1 + 1) x0 [⟨.bool, g37_0 x0⟩] := by
  rw [R37]
  have key := loop_testI x0 (ByteArray.empty, (0 : Int), (0 : Int), ()) (ok37 x0) [(⟨.bool, false⟩ : Dyn)] [⟨.bool, decide (x0.length ≤ 12)⟩] (fun n i ds => R37_2 n i x0 ds) (fun n => ?_) (fun n i hi hok ds hr => ?_) (fun n i hi hok => ?_)
  · unfold g37_0
    cases h : allI (ok37 x0) 0 x0 with
    | true => rw [if_pos h] at key; simpa using key
    | false => rw [if_neg (by rw [h]; simp)] at key; simpa using key
  · rw [R37_2, if_neg (by simp)]
    have hc : decide ((x0.length : Int) ≤ 12) = decide (x0.length ≤ 12) := by
      congr 1; exact propext ⟨fun h => by omega, fun h => by omega⟩
    rw [hc]
  · exact step37 n i x0 hw hi ds (by rw [if_pos hok]; exact hr)
  · exact step37 n i x0 hw hi _ (by rw [if_neg (by rw [hok]; simp)])

def S37 : Am.Spec := { sig := sig37, pre := fun ⟨x0, _⟩ => P37 x0, res := fun ⟨x0, _⟩ => [⟨Ty.bool, g37_0 x0⟩] }
theorem con37 : Contract Tryd.prog 37 S37 := contract_of Tryd.func37 hb37 (Nat.le_of_ble_eq_true (by kernel_rfl)) (fun ⟨x0, _⟩ h hwf K q =>
  (snd37 _).1 x0 _ (top37 x0 hwf.1.1) K q)

end
end Go.Proofs.YtobhoepkgkmddaaDoor

/- Function 18 (impl.staffed): its runs between cut points. Written by a program of this repo (gen). -/
set_option linter.unusedVariables false
set_option linter.unusedSimpArgs false
set_option maxRecDepth 100000
namespace Go.Proofs.YtobhoepkgkmddaaDoor
open Go Go.Am Go.Proofs
noncomputable section
def ext18 : Ext := [(37, S37)]
theorem call18_37 : Callable Tryd.prog 37 := ⟨Tryd.f37, Tryd.func37, by kernel_rfl, by kernel_rfl⟩
theorem ext18Ok : ExtOk Tryd.prog ext18 := ⟨⟨call18_37, con37⟩, trivial⟩

noncomputable def b18 : Code := bodyOf Tryd.f18
theorem hb18 : Tryd.f18.body = some b18 := by kernel_rfl
def sig18 : List AT := [AT.v (Ty.sl (Ty.cons Ty.str (Ty.cons (Ty.int IntKind.i64) (Ty.cons (Ty.int IntKind.i64) Ty.unit)))), AT.v (Ty.bool)]
def tys18 : List Ty := [Ty.int IntKind.i64]
def kds18 : List RK := []
def oks18 : List AT := owns sig18
def P18 (x0 : List (ByteArray × Int × Int × Unit)) (x1 : Bool) : Prop := True
def g18_0 (x0 : List (ByteArray × Int × Int × Unit)) (x1 : Bool) : Int := (if (!g37_0 x0) = true then 1 else (if (!x1) = true then 2 else 0))
theorem at18 (x0 : List (ByteArray × Int × Int × Unit)) (x1 : Bool) (h : P18 x0 x1) (K : Ctx) (q : Nat → Value) : AtV Tryd.prog 18 (PostR kds18 oks18 [⟨Ty.int IntKind.i64, g18_0 x0 x1⟩] [] [] q K) 12 K q [] [.code b18] (entE 0 0 sig18 (x0, x1, ())) (entL sig18 (x0, x1, ())) := by
  unfold P18 at h
  unfold g18_0
  by_cases b0 : (!g37_0 x0) = true
  · try simp only [if_pos b0] at h ⊢
    exact AtV.ret Tryd.func18 tabOk ext18Ok mixed false [] tys18 [true] (a1 trivial (a1 b0 trivial)) (by kernel_rfl)
  · try simp only [if_neg b0] at h ⊢
    replace b0 := Bool.eq_false_iff.2 b0
    by_cases b1 : (!x1) = true
    · try simp only [if_pos b1] at h ⊢
      exact AtV.ret Tryd.func18 tabOk ext18Ok mixed false [] tys18 [false, true] (a1 trivial (a1 b0 (a1 b1 trivial))) (by kernel_rfl)
    · try simp only [if_neg b1] at h ⊢
      replace b1 := Bool.eq_false_iff.2 b1
      exact AtV.ret Tryd.func18 tabOk ext18Ok mixed false [] tys18 [false, false] (a1 trivial (a1 b0 (a1 b1 trivial))) (by kernel_rfl)

def S18 : Am.Spec := { sig := sig18, pre := fun ⟨x0, x1, _⟩ => P18 x0 x1, res := fun ⟨x0, x1, _⟩ => [⟨Ty.int IntKind.i64, g18_0 x0 x1⟩], kds := kds18 }
theorem con18 : Contract Tryd.prog 18 S18 := contract_of Tryd.func18 hb18 (Nat.le_of_ble_eq_true (by kernel_rfl)) (fun ⟨x0, x1, _⟩ h _ K q => at18 x0 x1 h K q)


end
end Go.Proofs.YtobhoepkgkmddaaDoor

/- A law that says how functions of the program and of the specification hang together. -/
set_option linter.unusedVariables false
set_option linter.unusedSimpArgs false
set_option maxRecDepth 100000
namespace Go.Proofs.YtobhoepkgkmddaaDoor
open Go Go.Am Go.Proofs

theorem al_left {ps r : List (List Int)} {i : Nat} (h : i < ps.length) : (ps ++ r).getD i [] = ps.getD i [] := by
  rw [List.getD_eq_getElem?_getD, List.getElem?_append_left h, ← List.getD_eq_getElem?_getD]

def aSt (bad : Bool) (m : Int) (ps : List (List Int)) : List (List Int) :=
  if bad = true then
    if ps.length ≠ 0 ∧ (ps.getD (ps.length - 1) []).getD 1 0 = m then ps.set (ps.length - 1) [(ps.getD (ps.length - 1) []).getD 0 0, m + 1] else ps ++ [[m, m + 1]]
  else ps

def aRun (f : Int → Bool) (a : Int) : Nat → List (List Int)
  | 0 => []
  | n + 1 => aSt (f (a + (n : Int))) (a + (n : Int)) (aRun f a n)

theorem aSt_nil (m : Int) : aSt true m [] = [[m, m + 1]] := by
  unfold aSt
  rw [if_pos rfl, if_neg (by simp)]
  rfl

theorem aSt_snoc (m : Int) (ps : List (List Int)) (p q : Int) : aSt true m (ps ++ [[p, q]]) = if q = m then ps ++ [[p, m + 1]] else ps ++ [[p, q], [m, m + 1]] := by
  have e1 : (ps ++ [[p, q]]).length - 1 = ps.length := by simp
  have e2 : (ps ++ [[p, q]]).getD ps.length [] = [p, q] := by simp [List.getD_eq_getElem?_getD]
  unfold aSt
  rw [if_pos rfl, e1, e2]
  by_cases h : q = m
  · rw [if_pos ⟨by simp, h⟩, if_pos h]
    simp
  · rw [if_neg (fun hh => h hh.2), if_neg h]
    simp

def AOk (f : Int → Bool) (a e : Int) (ps : List (List Int)) : Prop :=
  ∀ i, i < ps.length → ∃ p q, ps[i]? = some [p, q] ∧ a ≤ p ∧ p < q ∧ q ≤ e ∧ f p = true ∧ (0 < i → (ps.getD (i - 1) []).getD 1 0 < p)

def aSum (ps : List (List Int)) : Int := (ps.map fun x => x.getD 1 0 - x.getD 0 0).sum
def aCnt (f : Int → Bool) (a : Int) : Nat → Int
  | 0 => 0
  | n + 1 => aCnt f a n + if f (a + (n : Int)) = true then 1 else 0

theorem aok_pre {f : Int → Bool} {a e : Int} {ps : List (List Int)} {x : List Int} (h : AOk f a e (ps ++ [x])) : AOk f a e ps := fun i hi => by
  obtain ⟨p, q, h1, h2, h3, h4, h5, h6⟩ := h i (by simp; omega)
  rw [List.getElem?_append_left hi] at h1
  refine ⟨p, q, h1, h2, h3, h4, h5, fun h0 => ?_⟩
  have := h6 h0
  rwa [al_left (by omega)] at this

theorem aok_snoc {f : Int → Bool} {a e : Int} {ps : List (List Int)} {p q : Int} (h : AOk f a e ps) (h2 : a ≤ p) (h3 : p < q) (h4 : q ≤ e) (h5 : f p = true) (h6 : 0 < ps.length → (ps.getD (ps.length - 1) []).getD 1 0 < p) : AOk f a e (ps ++ [[p, q]]) := fun i hi => by
  by_cases hl : i < ps.length
  · obtain ⟨p, q, h1, h2, h3, h4, h5, h6⟩ := h i hl
    refine ⟨p, q, by rw [List.getElem?_append_left hl]; exact h1, h2, h3, h4, h5, fun h0 => ?_⟩
    rw [al_left (by omega)]
    exact h6 h0
  · have : i = ps.length := by simp at hi; omega
    subst this
    refine ⟨p, q, by simp, h2, h3, h4, h5, fun h0 => ?_⟩
    rw [al_left (by omega)]
    exact h6 h0

theorem aok_mono {f : Int → Bool} {a e e' : Int} {ps : List (List Int)} (h : AOk f a e ps) (he : e ≤ e') : AOk f a e' ps := fun i hi => by
  obtain ⟨p, q, h1, h2, h3, h4, h5, h6⟩ := h i hi
  exact ⟨p, q, h1, h2, h3, by omega, h5, h6⟩

theorem aSum_snoc (ps : List (List Int)) (p q : Int) : aSum (ps ++ [[p, q]]) = aSum ps + (q - p) := by
  simp [aSum]

theorem arun_ok (f : Int → Bool) (a : Int) : ∀ n : Nat, AOk f a (a + (n : Int)) (aRun f a n) ∧ aSum (aRun f a n) = aCnt f a n ∧ (aRun f a n).length ≤ n
  | 0 => ⟨fun i hi => by simp [aRun] at hi, rfl, Nat.le_refl _⟩
  | n + 1 => by
    obtain ⟨h1, h2, h3⟩ := arun_ok f a n
    have e : a + ((n + 1 : Nat) : Int) = a + (n : Int) + 1 := by omega
    rw [e]
    unfold aRun aCnt
    cases hf : f (a + (n : Int)) with
    | false =>
      refine ⟨?_, ?_, ?_⟩
      · simp only [aSt, if_neg (show ¬ (false : Bool) = true by decide)]
        exact aok_mono h1 (by omega)
      · simp only [aSt, if_neg (show ¬ (false : Bool) = true by decide)]
        omega
      · simp only [aSt, if_neg (show ¬ (false : Bool) = true by decide)]
        omega
    | true =>
      rw [if_pos rfl]
      rcases List.eq_nil_or_concat (aRun f a n) with hr | ⟨l, x, hr⟩
      · rw [hr] at h2
        rw [hr, aSt_nil]
        refine ⟨aok_snoc (ps := []) (fun i hi => by simp at hi) (by omega) (by omega) (by omega) hf (fun h => by simp at h), ?_, by simp⟩
        have h2 : (0 : Int) = aCnt f a n := h2
        rw [← h2]
        simp [aSum]
        omega
      · rw [List.concat_eq_append] at hr
        rw [hr] at h1 h2 h3
        obtain ⟨p, q, g1, g2, g3, g4, g5, g6⟩ := h1 l.length (by simp)
        obtain rfl : x = [p, q] := by simpa using g1
        have g6 : 0 < l.length → (l.getD (l.length - 1) []).getD 1 0 < p := fun h0 => by
          have := g6 h0
          rwa [al_left (by omega)] at this
        rw [hr, aSt_snoc]
        rw [aSum_snoc] at h2
        by_cases hq : q = a + (n : Int)
        · rw [if_pos hq]
          refine ⟨aok_snoc (aok_mono (aok_pre h1) (by omega)) g2 (by omega) (by omega) g5 g6, ?_, by simp at h3 ⊢; omega⟩
          rw [aSum_snoc]
          omega
        · rw [if_neg hq]
          rw [show l ++ [[p, q], [a + (n : Int), a + (n : Int) + 1]] = (l ++ [[p, q]]) ++ [[a + (n : Int), a + (n : Int) + 1]] by simp]
          refine ⟨aok_snoc (aok_mono h1 (by omega)) (by omega) (by omega) (by omega) hf (fun _ => ?_), ?_, by simp at h3 ⊢; omega⟩
          · have e1 : (l ++ [[p, q]]).length - 1 = l.length := by simp
            have e2 : (l ++ [[p, q]]).getD l.length [] = [p, q] := by simp [List.getD_eq_getElem?_getD]
            rw [e1, e2]
            show q < _
            omega
          · rw [aSum_snoc, aSum_snoc]
            omega

theorem arun_none (f : Int → Bool) (a : Int) : ∀ n : Nat, (∀ i : Nat, i < n → f (a + (i : Int)) = false) → aRun f a n = []
  | 0, _ => rfl
  | n + 1, h => by
    unfold aRun
    rw [arun_none f a n (fun i hi => h i (by omega)), h n (by omega)]
    rfl

end Go.Proofs.YtobhoepkgkmddaaDoor

/- A law that says how functions of the program and of the specification hang together. -/
set_option linter.unusedVariables false
set_option linter.unusedSimpArgs false
set_option maxRecDepth 100000
namespace Go.Proofs.YtobhoepkgkmddaaDoor
open Go Go.Am Go.Proofs

def atL (m : Int) : Nat → List (ByteArray × Int × Int × Unit) → List Int
  | _, [] => []
  | i, x :: l => if x.2.1 ≤ m ∧ m < x.2.2.1 then (i : Int) :: atL m (i + 1) l else atL m (i + 1) l

def wkAt (x0 : List (ByteArray × Int × Int × Unit)) (k : Nat) : ByteArray × Int × Int × Unit := x0.getD k (ByteArray.empty, (0 : Int), (0 : Int), ())

theorem wk_succ (x : ByteArray × Int × Int × Unit) (l : List (ByteArray × Int × Int × Unit)) (k : Nat) : wkAt (x :: l) (k + 1) = wkAt l k := by
  simp [wkAt, List.getD_eq_getElem?_getD]

theorem atL_mem {m : Int} : ∀ {l : List (ByteArray × Int × Int × Unit)} {i : Nat} {v : Int}, v ∈ atL m i l ↔ ∃ k : Nat, k < l.length ∧ v = ((i + k : Nat) : Int) ∧ (wkAt l k).2.1 ≤ m ∧ m < (wkAt l k).2.2.1
  | [], i, v => by simp [atL]
  | x :: l, i, v => by
    have key : v ∈ atL m (i + 1) l ↔ ∃ k : Nat, k + 1 < (x :: l).length ∧ v = ((i + (k + 1) : Nat) : Int) ∧ (wkAt (x :: l) (k + 1)).2.1 ≤ m ∧ m < (wkAt (x :: l) (k + 1)).2.2.1 := by
      rw [atL_mem]
      constructor
      · rintro ⟨k, h1, h2, h3⟩
        exact ⟨k, by simpa using h1, by rw [h2]; omega, by rw [wk_succ]; exact h3⟩
      · rintro ⟨k, h1, h2, h3⟩
        exact ⟨k, by simpa using h1, by rw [h2]; omega, by rw [wk_succ] at h3; exact h3⟩
    unfold atL
    by_cases hx : x.2.1 ≤ m ∧ m < x.2.2.1
    · rw [if_pos hx, List.mem_cons, key]
      constructor
      · rintro (rfl | ⟨k, h⟩)
        · exact ⟨0, by simp, rfl, hx⟩
        · exact ⟨k + 1, h⟩
      · rintro ⟨k, h1, h2, h3⟩
        cases k with
        | zero => exact .inl (by simpa using h2)
        | succ k => exact .inr ⟨k, h1, h2, h3⟩
    · rw [if_neg hx, key]
      constructor
      · rintro ⟨k, h⟩
        exact ⟨k + 1, h⟩
      · rintro ⟨k, h1, h2, h3⟩
        cases k with
        | zero => exact absurd h3 hx
        | succ k => exact ⟨k, h1, h2, h3⟩

theorem atL_len (m : Int) : ∀ (l : List (ByteArray × Int × Int × Unit)) (i : Nat), (atL m i l).length ≤ l.length
  | [], i => Nat.le_refl _
  | x :: l, i => by
    unfold atL
    have := atL_len m l (i + 1)
    split
    · simp; omega
    · simp; omega

def bestL (x0 : List (ByteArray × Int × Int × Unit)) (b : Int) (l : List Int) : Int := l.foldl (fun b k => if b < 0 ∨ (wkAt x0 b.toNat).2.2.1 < (wkAt x0 k.toNat).2.2.1 then k else b) b

theorem best_ok (x0 : List (ByteArray × Int × Int × Unit)) : ∀ (l : List Int) (b : Int), (∀ k ∈ l, 0 ≤ k) → 0 ≤ b → (bestL x0 b l = b ∨ bestL x0 b l ∈ l) ∧ (wkAt x0 b.toNat).2.2.1 ≤ (wkAt x0 (bestL x0 b l).toNat).2.2.1 ∧ ∀ k ∈ l, (wkAt x0 k.toNat).2.2.1 ≤ (wkAt x0 (bestL x0 b l).toNat).2.2.1
  | [], b, _, hb => ⟨.inl rfl, Int.le_refl _, fun k hk => by cases hk⟩
  | k :: l, b, h, hb => by
    have hk : 0 ≤ k := h k (List.mem_cons_self ..)
    have hl : ∀ k ∈ l, 0 ≤ k := fun k hk => h k (List.mem_cons_of_mem _ hk)
    by_cases hc : b < 0 ∨ (wkAt x0 b.toNat).2.2.1 < (wkAt x0 k.toNat).2.2.1
    · have e : bestL x0 b (k :: l) = bestL x0 k l := by
        unfold bestL
        rw [List.foldl_cons, if_pos hc]
      rw [e]
      obtain ⟨h1, h2, h3⟩ := best_ok x0 l k hl hk
      refine ⟨.inr ?_, ?_, fun j hj => ?_⟩
      · rcases h1 with h1 | h1
        · rw [h1]; exact List.mem_cons_self ..
        · exact List.mem_cons_of_mem _ h1
      · rcases hc with hc | hc <;> omega
      · rcases List.mem_cons.1 hj with rfl | hj
        · exact h2
        · exact h3 j hj
    · have e : bestL x0 b (k :: l) = bestL x0 b l := by
        unfold bestL
        rw [List.foldl_cons, if_neg hc]
      rw [e]
      obtain ⟨h1, h2, h3⟩ := best_ok x0 l b hl hb
      refine ⟨h1.imp id (List.mem_cons_of_mem _), h2, fun j hj => ?_⟩
      rcases List.mem_cons.1 hj with rfl | hj
      · omega
      · exact h3 j hj

theorem best_start (x0 : List (ByteArray × Int × Int × Unit)) (l : List Int) (h : ∀ k ∈ l, 0 ≤ k) : (l = [] ∧ bestL x0 (-1) l = -1) ∨ (bestL x0 (-1) l ∈ l ∧ ∀ k ∈ l, (wkAt x0 k.toNat).2.2.1 ≤ (wkAt x0 (bestL x0 (-1) l).toNat).2.2.1) := by
  cases l with
  | nil => exact .inl ⟨rfl, rfl⟩
  | cons k l =>
    have e : bestL x0 (-1) (k :: l) = bestL x0 k l := by
      unfold bestL
      rw [List.foldl_cons, if_pos (.inl (by decide))]
    rw [e]
    obtain ⟨h1, h2, h3⟩ := best_ok x0 l k (fun k hk => h k (List.mem_cons_of_mem _ hk)) (h k (List.mem_cons_self ..))
    refine .inr ⟨?_, fun j hj => ?_⟩
    · rcases h1 with h1 | h1
      · rw [h1]; exact List.mem_cons_self ..
      · exact List.mem_cons_of_mem _ h1
    · rcases List.mem_cons.1 hj with rfl | hj
      · exact h2
      · exact h3 j hj

def fewL (x0 : List (ByteArray × Int × Int × Unit)) (e : Int) : Nat → Int → Option (List Int)
  | 0, _ => some []
  | n + 1, m => if m < e then (if bestL x0 (-1) (atL m 0 x0) < 0 then none else (fewL x0 e n (wkAt x0 (bestL x0 (-1) (atL m 0 x0)).toNat).2.2.1).map (bestL x0 (-1) (atL m 0 x0) :: ·)) else some []

def Chain (x0 : List (ByteArray × Int × Int × Unit)) (e : Int) : Int → List Int → Prop
  | m, [] => e ≤ m
  | m, b :: l => m < e ∧ 0 ≤ b ∧ b < (x0.length : Int) ∧ (wkAt x0 b.toNat).2.1 ≤ m ∧ m < (wkAt x0 b.toNat).2.2.1 ∧ (∀ k : Nat, k < x0.length → (wkAt x0 k).2.1 ≤ m → (wkAt x0 k).2.2.1 ≤ (wkAt x0 b.toNat).2.2.1) ∧ Chain x0 e (wkAt x0 b.toNat).2.2.1 l

theorem best_at (x0 : List (ByteArray × Int × Int × Unit)) (m : Int) (h : ¬ bestL x0 (-1) (atL m 0 x0) < 0) : ∃ b : Nat, bestL x0 (-1) (atL m 0 x0) = (b : Int) ∧ b < x0.length ∧ (wkAt x0 b).2.1 ≤ m ∧ m < (wkAt x0 b).2.2.1 ∧ ∀ k : Nat, k < x0.length → (wkAt x0 k).2.1 ≤ m → (wkAt x0 k).2.2.1 ≤ (wkAt x0 b).2.2.1 := by
  have hn : ∀ k ∈ atL m 0 x0, 0 ≤ k := fun k hk => by
    obtain ⟨j, _, rfl, _⟩ := atL_mem.1 hk
    omega
  rcases best_start x0 _ hn with ⟨_, h2⟩ | ⟨h1, h2⟩
  · rw [h2] at h
    exact absurd (by decide) h
  · obtain ⟨b, hb, he, h3, h4⟩ := atL_mem.1 h1
    rw [Nat.zero_add] at he
    refine ⟨b, he, hb, h3, h4, fun k hk hf => ?_⟩
    rw [he] at h2
    simp only [Int.toNat_natCast] at h2
    by_cases hm : m < (wkAt x0 k).2.2.1
    · have := h2 (k : Int) (atL_mem.2 ⟨k, hk, by simp, hf, hm⟩)
      simpa using this
    · omega

theorem few_chain (x0 : List (ByteArray × Int × Int × Unit)) (e : Int) : ∀ (n : Nat) (m : Int) (l : List Int), e - m ≤ (n : Int) → fewL x0 e n m = some l → Chain x0 e m l
  | 0, m, l, hn, h => by
    cases h
    show e ≤ m
    omega
  | n + 1, m, l, hn, h => by
    unfold fewL at h
    by_cases hm : m < e
    · rw [if_pos hm] at h
      by_cases hb : bestL x0 (-1) (atL m 0 x0) < 0
      · rw [if_pos hb] at h
        cases h
      · rw [if_neg hb] at h
        obtain ⟨b, h1, h2, h3, h4, h5⟩ := best_at x0 m hb
        rw [h1] at h
        simp only [Int.toNat_natCast, Option.map_eq_some_iff] at h
        obtain ⟨l', h6, rfl⟩ := h
        refine ⟨hm, by omega, by omega, by simpa using h3, by simpa using h4, by simpa using h5, ?_⟩
        rw [Int.toNat_natCast]
        exact few_chain x0 e n _ l' (by omega) h6
    · rw [if_neg hm] at h
      cases h
      show e ≤ m
      omega

theorem chain_cover {x0 : List (ByteArray × Int × Int × Unit)} {e : Int} : ∀ {l : List Int} {m : Int}, Chain x0 e m l → ∀ t, m ≤ t → t < e → atL t 0 x0 ≠ []
  | [], m, h, t, h1, h2 => by
    have h : e ≤ m := h
    omega
  | b :: l, m, ⟨h1, h2, h3, h4, h5, h6, h7⟩, t, ht, he => by
    by_cases hb : t < (wkAt x0 b.toNat).2.2.1
    · intro hn
      have : (b.toNat : Int) ∈ atL t 0 x0 := atL_mem.2 ⟨b.toNat, by omega, by simp, by omega, hb⟩
      rw [hn] at this
      cases this
    · exact chain_cover h7 t (by omega) he

end Go.Proofs.YtobhoepkgkmddaaDoor

/- Function 22 (impl.workersAt): its runs between cut points. Written by a program of this repo (gen). -/
set_option linter.unusedVariables false
set_option linter.unusedSimpArgs false
set_option maxRecDepth 100000
namespace Go.Proofs.YtobhoepkgkmddaaDoor
open Go Go.Am Go.Proofs
noncomputable section
def ext22 : Ext := []
theorem ext22Ok : ExtOk Tryd.prog ext22 := trivial

noncomputable def b22 : Code := bodyOf Tryd.f22
theorem hb22 : Tryd.f22.body = some b22 := by kernel_rfl
def sig22 : List AT := [AT.v (Ty.sl (Ty.cons Ty.str (Ty.cons (Ty.int IntKind.i64) (Ty.cons (Ty.int IntKind.i64) Ty.unit)))), AT.v (Ty.int IntKind.i64)]
def tys22 : List Ty := [Ty.sl (Ty.int IntKind.i64)]
def kds22 : List RK := []
def oks22 : List AT := owns sig22
def E22_3 (v10 : Int) (h0 : List Int) (x1 : Int) (x0 : List (ByteArray × Int × Int × Unit)) : Env := [(1, PV.a (Atom.val (Value.int IntKind.i64 x1))), (5, PV.a (Atom.osl 0 Option.none)), (8, PV.a (Atom.sl (Ty.cons Ty.str (Ty.cons (Ty.int IntKind.i64) (Ty.cons (Ty.int IntKind.i64) Ty.unit))) x0)), (9, PV.a (Atom.val (Value.int IntKind.i64 (↑(List.length x0) : Int)))), (10, PV.a (Atom.val (Value.int IntKind.i64 v10)))]
def L22_3 (v10 : Int) (h0 : List Int) (x1 : Int) (x0 : List (ByteArray × Int × Int × Unit)) : Heap := [Option.some (Arr.mk (Ty.int IntKind.i64) h0 Bool.false Option.none Option.none)]
mutual
def R22 : Nat → List (ByteArray × Int × Int × Unit) → Int → List Dyn → Prop
  | 0, _, _, _ => False
  | n + 1, x0, x1, ds => (R22_3 n (0) ([]) (x1) (x0) ds)
def R22_3 : Nat → Int → List Int → Int → List (ByteArray × Int × Int × Unit) → List Dyn → Prop
  | 0, _, _, _, _, _ => False
  | n + 1, v10, h0, x1, x0, ds => (if (Decidable.decide (v10 < (↑(List.length x0) : Int))) = true then ((0 ≤ v10) ∧ (v10 < (↑(List.length x0) : Int)) ∧ (if (Decidable.decide (Prod.fst (Prod.snd (List.getD x0 (Int.toNat v10) (ByteArray.empty, 0, 0, ()))) ≤ x1)) = true then (if (Decidable.decide (x1 < Prod.fst (Prod.snd (Prod.snd (List.getD x0 (Int.toNat v10) (ByteArray.empty, 0, 0, ())))))) = true then (((List.length h0 + 1) * 8 ≤ 140737488355328) ∧ ((InR IntKind.i64 (v10 + 1)) ∧ (R22_3 n (v10 + 1) (h0 ++ [v10]) (x1) (x0) ds))) else ((InR IntKind.i64 (v10 + 1)) ∧ (R22_3 n (v10 + 1) (h0) (x1) (x0) ds))) else ((InR IntKind.i64 (v10 + 1)) ∧ (R22_3 n (v10 + 1) (h0) (x1) (x0) ds)))) else (ds = [Dyn.mk (Ty.sl (Ty.int IntKind.i64)) h0]))
end
theorem snd22 : ∀ n, (∀ (x0 : List (ByteArray × Int × Int × Unit)) (x1 : Int) ds, R22 n x0 x1 ds → ∀ K q, AtV Tryd.prog 22 (PostR kds22 oks22 ds [] [] q K) 31 K q [] [.code b22] (entE 0 0 sig22 (x0, x1, ())) (entL sig22 (x0, x1, ()))) ∧ (∀ (v10 : Int) (h0 : List Int) (x1 : Int) (x0 : List (ByteArray × Int × Int × Unit)) ds, R22_3 n v10 h0 x1 x0 ds → ∀ K q, AtV Tryd.prog 22 (PostR kds22 oks22 ds [] [] q K) 31 K q [] (cutAt b22 3) (E22_3 v10 h0 x1 x0) (L22_3 v10 h0 x1 x0)) := by
  intro n
  induction n with
  | zero => exact ⟨fun _ _ _ h => by simp only [R22] at h, fun _ _ _ _ _ h => by simp only [R22_3] at h⟩
  | succ n ih =>
  obtain ⟨ih, ih3⟩ := ih
  refine ⟨?_, ?_⟩
  · intro x0 x1 ds h K q
    rw [R22] at h
    exact AtV.go tabOk ext22Ok mixed false [] [(5, Ty.int IntKind.i64)] [1, 5, 8, 9, 10] [0] [] trivial (ih3 _ _ _ _ _ h K q) (by kernel_rfl)

  · intro v10 h0 x1 x0 ds h K q
    rw [R22_3] at h
    by_cases b0 : (Decidable.decide (v10 < (↑(List.length x0) : Int))) = true
    · rw [if_pos b0] at h
      obtain ⟨s0, s1, h⟩ := h
      by_cases b1 : (Decidable.decide (Prod.fst (Prod.snd (List.getD x0 (Int.toNat v10) (ByteArray.empty, 0, 0, ()))) ≤ x1)) = true
      · rw [if_pos b1] at h
        by_cases b2 : (Decidable.decide (x1 < Prod.fst (Prod.snd (Prod.snd (List.getD x0 (Int.toNat v10) (ByteArray.empty, 0, 0, ())))))) = true
        · rw [if_pos b2] at h
          obtain ⟨s2, h⟩ := h
          obtain ⟨s3, h⟩ := h
          exact AtV.go tabOk ext22Ok mixed false [] [(5, Ty.int IntKind.i64)] [1, 5, 8, 9, 10] [0] [true, true, true] (a1 b0 (a1 s0 (a1 s1 (a1 b1 (a1 b2 (a1 s2 (a1 s3 trivial))))))) (ih3 _ _ _ _ _ h K q) (by kernel_rfl)
        · rw [if_neg b2] at h
          replace b2 := Bool.eq_false_iff.2 b2
          obtain ⟨s2, h⟩ := h
          exact AtV.go tabOk ext22Ok mixed false [] [(5, Ty.int IntKind.i64)] [1, 5, 8, 9, 10] [0] [true, true, false] (a1 b0 (a1 s0 (a1 s1 (a1 b1 (a1 b2 (a1 s2 trivial)))))) (ih3 _ _ _ _ _ h K q) (by kernel_rfl)
      · rw [if_neg b1] at h
        replace b1 := Bool.eq_false_iff.2 b1
        obtain ⟨s2, h⟩ := h
        exact AtV.go tabOk ext22Ok mixed false [] [(5, Ty.int IntKind.i64)] [1, 5, 8, 9, 10] [0] [true, false, false] (a1 b0 (a1 s0 (a1 s1 (a1 b1 (a1 (rfl : Bool.false = Bool.false) (a1 s2 trivial)))))) (ih3 _ _ _ _ _ h K q) (by kernel_rfl)
    · rw [if_neg b0] at h
      replace b0 := Bool.eq_false_iff.2 b0
      subst h
      exact AtV.ret Tryd.func22 tabOk ext22Ok mixed false [] tys22 [false] (a1 b0 trivial) (by kernel_rfl)



def g22_0 (x0 : List (ByteArray × Int × Int × Unit)) (x1 : Int) : List Int := atL x1 0 x0
def P22 (x0 : List (ByteArray × Int × Int × Unit)) (x1 : Int) : Prop := x0.length ≤ 1000

theorem loop22 (x0 : List (ByteArray × Int × Int × Unit)) (x1 : Int) (hl : x0.length ≤ 1000) : ∀ (k i : Nat) (h : List Int), i + k = x0.length → h.length ≤ i → R22_3 (k + 1) (i : Int) h x1 x0 [⟨.sl (.int .i64), h ++ atL x1 i (x0.drop i)⟩] := by
  intro k
  induction k with
  | zero =>
    intro i h hi hh
    rw [R22_3, if_neg (by simp only [decide_eq_true_eq]; omega), List.drop_eq_nil_of_le (by omega)]
    simp [atL]
  | succ k ih =>
    intro i h hi hh
    have hlt : i < x0.length := by omega
    have ii : InR .i64 ((i : Int) + 1) := by rw [i64_iff]; omega
    have hn : ((i : Int) + 1) = ((i + 1 : Nat) : Int) := by omega
    rw [R22_3, if_pos (by simp only [decide_eq_true_eq]; omega)]
    refine ⟨by omega, by omega, ?_⟩
    simp only [Int.toNat_natCast, getD_lt x0 i _ hlt]
    rw [List.drop_eq_getElem_cons hlt]
    unfold atL
    by_cases h1 : x0[i].2.1 ≤ x1
    · rw [if_pos (by simpa using h1)]
      by_cases h2 : x1 < x0[i].2.2.1
      · rw [if_pos (by simpa using h2), if_pos ⟨h1, h2⟩]
        refine ⟨by omega, ii, ?_⟩
        have := ih (i + 1) (h ++ [(i : Int)]) (by omega) (by simp; omega)
        rw [hn]
        simpa using this
      · rw [if_neg (by simpa using h2), if_neg (fun hh => h2 hh.2)]
        refine ⟨ii, ?_⟩
        rw [hn]
        exact ih (i + 1) h (by omega) (by omega)
    · rw [if_neg (by simpa using h1), if_neg (fun hh => h1 hh.1)]
      refine ⟨ii, ?_⟩
      rw [hn]
      exact ih (i + 1) h (by omega) (by omega)

theorem top22 (x0 : List (ByteArray × Int × Int × Unit)) (x1 : Int) (hl : x0.length ≤ 1000) : R22 (x0.length + 1 + 1) x0 x1 [⟨.sl (.int .i64), g22_0 x0 x1⟩] := by
  rw [R22]
  exact loop22 x0 x1 hl x0.length 0 [] (by omega) (by simp)

def S22 : Am.Spec := { sig := sig22, pre := fun ⟨x0, x1, _⟩ => P22 x0 x1, res := fun ⟨x0, x1, _⟩ => [⟨.sl (.int .i64), g22_0 x0 x1⟩] }
theorem con22 : Contract Tryd.prog 22 S22 := contract_of Tryd.func22 hb22 (Nat.le_of_ble_eq_true (by kernel_rfl)) (fun ⟨x0, x1, _⟩ h hwf K q =>
  (snd22 _).1 x0 x1 _ (top22 x0 x1 h) K q)

end
end Go.Proofs.YtobhoepkgkmddaaDoor

/- Function 21 (impl.size[int64]): its runs between cut points. Written by a program of this repo (gen). -/
set_option linter.unusedVariables false
set_option linter.unusedSimpArgs false
set_option maxRecDepth 100000
namespace Go.Proofs.YtobhoepkgkmddaaDoor
open Go Go.Am Go.Proofs
noncomputable section
def ext21 : Ext := []
theorem ext21Ok : ExtOk Tryd.prog ext21 := trivial

noncomputable def b21 : Code := bodyOf Tryd.f21
theorem hb21 : Tryd.f21.body = some b21 := by kernel_rfl
def sig21 : List AT := [AT.v (Ty.sl (Ty.int IntKind.i64))]
def tys21 : List Ty := [Ty.int IntKind.i64]
def kds21 : List RK := []
def oks21 : List AT := owns sig21
def P21 (x0 : List Int) : Prop := True
def g21_0 (x0 : List Int) : Int := (↑(List.length x0) : Int)
theorem at21 (x0 : List Int) (h : P21 x0) (K : Ctx) (q : Nat → Value) : AtV Tryd.prog 21 (PostR kds21 oks21 [⟨Ty.int IntKind.i64, g21_0 x0⟩] [] [] q K) 5 K q [] [.code b21] (entE 0 0 sig21 (x0, ())) (entL sig21 (x0, ())) := by
  unfold P21 at h
  unfold g21_0
  exact AtV.ret Tryd.func21 tabOk ext21Ok mixed false [] tys21 [] trivial (by kernel_rfl)

def S21 : Am.Spec := { sig := sig21, pre := fun ⟨x0, _⟩ => P21 x0, res := fun ⟨x0, _⟩ => [⟨Ty.int IntKind.i64, g21_0 x0⟩], kds := kds21 }
theorem con21 : Contract Tryd.prog 21 S21 := contract_of Tryd.func21 hb21 (Nat.le_of_ble_eq_true (by kernel_rfl)) (fun ⟨x0, _⟩ h _ K q => at21 x0 h K q)


end
end Go.Proofs.YtobhoepkgkmddaaDoor

/- A law that says how functions of the program and of the specification hang together. -/
set_option linter.unusedVariables false
set_option linter.unusedSimpArgs false
set_option maxRecDepth 100000
namespace Go.Proofs.YtobhoepkgkmddaaDoor
open Go Go.Am Go.Proofs

theorem day_of {x : Int} (h : g26_0 x = true) : 0 ≤ x ∧ x ≤ 1440 := by
  unfold g26_0 g20_0 at h
  split at h
  · rename_i h1
    simp only [decide_eq_true_eq] at h h1
    exact ⟨h1, h⟩
  · cases h

theorem span_of {a b : Int} (h : g19_0 a b = true) : 0 ≤ a ∧ a ≤ 1440 ∧ 0 ≤ b ∧ b ≤ 1440 ∧ a ≤ b := by
  unfold g19_0 at h
  split at h
  · rename_i h1
    split at h
    · rename_i h2
      obtain ⟨a1, a2⟩ := day_of h1
      obtain ⟨a3, a4⟩ := day_of h2
      exact ⟨a1, a2, a3, a4, of_decide_eq_true h⟩
    · cases h
  · cases h

theorem staffed_of {x0 : List (ByteArray × Int × Int × Unit)} {b : Bool} (h : g18_0 x0 b = 0) : g37_0 x0 = true ∧ b = true := by
  unfold g18_0 at h
  cases hv : g37_0 x0 with
  | false =>
    rw [if_pos (by rw [hv]; rfl)] at h
    cases h
  | true =>
    rw [if_neg (by rw [hv]; decide)] at h
    cases b with
    | true => exact ⟨rfl, rfl⟩
    | false =>
      rw [if_pos (show (!false) = true by decide)] at h
      cases h

theorem staffed_le (x0 : List (ByteArray × Int × Int × Unit)) (b : Bool) : 0 ≤ g18_0 x0 b ∧ g18_0 x0 b ≤ 2 := by
  unfold g18_0
  split
  · omega
  · split <;> omega

end Go.Proofs.YtobhoepkgkmddaaDoor

-- facts: alone fewest daySpan
/- Function 6 (impl.AloneMinutes): its contract, the times its own; by the kit's walk. -/
set_option linter.unusedVariables false
set_option linter.unusedSimpArgs false
set_option maxRecDepth 100000
namespace Go.Proofs.YtobhoepkgkmddaaDoor
open Go Go.Am Go.Proofs Go.RowKit

structure Pg6 (w wr : World) (v : Value) (xs : List (List Int)) (row : List Value) (bl : List Nat) : Prop where
  own : wr.ownsRow w.heap.size 30 1 v xs.length row
  len : bl.length = xs.length
  inn : ∀ j, j < xs.length → ∃ c, row[j]? = some (.slice (some ⟨bl.getD j 0, 0, none⟩) (xs.getD j []).length c) ∧
    wr.ownsRow w.heap.size 2 1 (.slice (some ⟨bl.getD j 0, 0, none⟩) (xs.getD j []).length c) (xs.getD j []).length (fcs (.int .i64) (xs.getD j []))
  inc : bl.Pairwise (· < ·)
  low : Below w.heap.size w wr

theorem obj6 {w : World} {lo : Nat} {e : TypeId} {v : Value} {n : Nat} {xs : List Value} (h : w.ownsRow lo e 1 v n xs) {g : Nat} (hg : v.ownBlock = some g) : ∃ cur, w.heap[g]? = some (.cells cur e (0, 0)) := by
  rcases h.2 with ⟨rfl, _⟩ | ⟨g', cap, cur, rfl, hb, hh, _⟩
  · cases hg
  · cases hg
    exact ⟨cur, hh⟩

theorem apart6 {w : World} {lo lo' : Nat} {e e' : TypeId} {v v' : Value} {n n' : Nat} {xs xs' : List Value} (h : w.ownsRow lo e 1 v n xs) (h' : w.ownsRow lo' e' 1 v' n' xs') (hne : e ≠ e') : v.ownBlock = none ∨ v.ownBlock ≠ v'.ownBlock := by
  cases hv : v.ownBlock with
  | none => exact .inl rfl
  | some g =>
    refine .inr fun he => ?_
    obtain ⟨c1, h1⟩ := obj6 h hv
    obtain ⟨c2, h2⟩ := obj6 h' he.symm
    rw [h1] at h2
    cases h2
    exact hne rfl

theorem Pg6.keep {w wr w2 : World} {v : Value} {xs : List (List Int)} {row : List Value} {bl : List Nat} (h : Pg6 w wr v xs row bl) (hg : wr.grownBy w2 none) : Pg6 w w2 v xs row bl where
  own := h.own.kept hg (by cases hv : v.ownBlock with | none => exact .inl rfl | some _ => exact .inr (by simp))
  len := h.len
  inn := fun j hj => by
    obtain ⟨c, h1, h2⟩ := h.inn j hj
    exact ⟨c, h1, h2.kept hg (.inr (by simp [Value.ownBlock]))⟩
  inc := h.inc
  low := h.low.grown hg h.low.size (fun q hq => by cases hq)

theorem Pg6.push {w wr w2 : World} {v v2 : Value} {xs : List (List Int)} {row : List Value} {bl : List Nat} {x : List Int} {g c : Nat} (h : Pg6 w wr v xs row bl) (hu : wr.ownsRow w.heap.size 2 1 (.slice (some ⟨g, 0, none⟩) x.length c) x.length (fcs (.int .i64) x))
    (hnew : ∀ q ∈ bl, q < g) (ho : w2.ownsRow w.heap.size 30 1 v2 (xs.length + 1) (row ++ [.slice (some ⟨g, 0, none⟩) x.length c])) (hg : wr.grownBy w2 v.ownBlock) : Pg6 w w2 v2 (xs ++ [x]) (row ++ [.slice (some ⟨g, 0, none⟩) x.length c]) (bl ++ [g]) where
  own := by rw [List.length_append]; exact ho
  len := by simp [h.len]
  inn := fun j hj => by
    have hrl : row.length = xs.length := by have := h.own.1; omega
    have hbl := h.len
    by_cases hjx : j < xs.length
    · obtain ⟨c, h1, h2⟩ := h.inn j hjx
      have e1 : (xs ++ [x]).getD j [] = xs.getD j [] := by rw [List.getD_eq_getElem?_getD, List.getElem?_append_left hjx, List.getD_eq_getElem?_getD]
      have e2 : (bl ++ [g]).getD j 0 = bl.getD j 0 := by rw [List.getD_eq_getElem?_getD, List.getElem?_append_left (by omega), List.getD_eq_getElem?_getD]
      rw [e1, e2]
      refine ⟨c, by rw [List.getElem?_append_left (by omega)]; exact h1, h2.kept hg ?_⟩
      exact apart6 h2 h.own (by decide)
    · have hjn : j = xs.length := by rw [List.length_append] at hj; simp at hj; omega
      subst hjn
      have e1 : (xs ++ [x]).getD xs.length [] = x := by simp [List.getD_eq_getElem?_getD]
      have e2 : (bl ++ [g]).getD xs.length 0 = g := by rw [← hbl]; simp [List.getD_eq_getElem?_getD]
      rw [e1, e2]
      refine ⟨c, by rw [← hrl]; simp, hu.kept hg ?_⟩
      exact apart6 hu h.own (by decide)
  inc := by
    rw [List.pairwise_append]
    exact ⟨h.inc, by simp, fun a ha b hb => by simp at hb; subst hb; exact hnew a ha⟩
  low := h.low.grown hg h.low.size (fun q hq => (h.own.lt q hq).1)

theorem Pg6.done {w wr : World} {v : Value} {xs : List (List Int)} {row : List Value} {bl : List Nat} (h : Pg6 w wr v xs row bl) (hm : xs.length ≤ maxLen) (hw : ∀ x ∈ xs, x.length ≤ maxLen ∧ ∀ y ∈ x, Wf (.int .i64) y) :
    ∃ bs, OwnC wr (.sl (.sl (.int .i64))) xs [v] bs ∧ bs.Nodup ∧ ∀ b ∈ bs, w.heap.size ≤ b := by
  rcases h.own.2 with ⟨rfl, hn⟩ | ⟨g, cap, cur, rfl, hb, hg, hnc, hcm, hcs, htake⟩
  · have : xs = [] := List.eq_nil_of_length_eq_zero hn
    subst this
    exact ⟨[], ⟨_, rfl, by simp, .inl ⟨_, rfl, rfl, rfl⟩⟩, List.nodup_nil, fun b hb => by cases hb⟩
  · have hflat : (bl.map fun q => [q]).flatten = bl := by
      clear hb hg hnc hcm hcs htake
      induction bl with
      | nil => rfl
      | cons a l ih => exact congrArg (a :: ·) (by
          have : ∀ l : List Nat, (l.map fun q => [q]).flatten = l := fun l => by
            induction l with
            | nil => rfl
            | cons a l ih => simp [ih]
          exact this l)
    have hin : ∀ q ∈ bl, w.heap.size ≤ q ∧ q ≠ g := fun q hq => by
      obtain ⟨j, hj, rfl⟩ := List.mem_iff_getElem.1 hq
      have hbl := h.len
      obtain ⟨c, h1, h2⟩ := h.inn j (by omega)
      have e : bl.getD j 0 = bl[j] := getD_lt bl j 0 hj
      rw [e] at h2
      refine ⟨(h2.lt _ rfl).1, fun he => ?_⟩
      rcases apart6 h2 h.own (by decide) with h3 | h3
      · cases h3
      · exact h3 (by show some bl[j] = some g; rw [he])
    refine ⟨g :: bl, ⟨_, rfl, hm, .inr ⟨_, 0, cap, cur, _, (0, 0), bl.map fun q => [q], rfl, hnc, hcm, ?_, hg, ?_, by simpa using h.len, by rw [hflat], fun i x bi hx hbi => ?_⟩⟩, ?_, ?_⟩
    · show 0 + cap * 1 ≤ cur.size
      omega
    · exact ⟨fun j _ hj => by have := hj.2; omega, .inl rfl⟩
    · have hi := (List.getElem?_eq_some_iff.1 hx).1
      obtain ⟨c, h1, h2⟩ := h.inn i hi
      have hxe : xs.getD i [] = x := by rw [List.getD_eq_getElem?_getD, hx]; rfl
      have hbl := h.len
      have hbe : [bl.getD i 0] = bi := by
        rw [List.getElem?_map, List.getElem?_eq_getElem (by omega)] at hbi
        rw [getD_lt bl i 0 (by omega)]
        simpa using hbi
      subst hbe
      rw [hxe] at h1 h2
      refine ⟨[.slice (some ⟨bl.getD i 0, 0, none⟩) x.length c], rfl, fun j c' hj => ?_, _, rfl, ?_⟩
      · have hj0 : j = 0 := by have := (List.getElem?_eq_some_iff.1 hj).1; simp at this; omega
        subst hj0
        simp at hj
        subst hj
        rw [← htake, List.getElem?_take, if_pos (by omega)] at h1
        show cur[0 + i * 1 + 0]? = some _
        rw [show 0 + i * 1 + 0 = i by omega]
        simpa using h1
      · obtain ⟨hxm, hxw⟩ := hw x (List.mem_of_getElem? hx)
        rcases h2.2 with ⟨h', _⟩ | ⟨g', cap', cur', h', hb', hg', hnc', hcm', hcs', htake'⟩
        · simp at h'
        · simp only [Value.slice.injEq, Option.some.injEq, Addr.mk.injEq, and_true, true_and] at h'
          obtain ⟨h3, rfl⟩ := h'
          rw [← h3] at hg'
          refine ⟨hxm, .inr ⟨_, 0, _, cur', _, (0, 0), x.map fun _ => [], rfl, hnc', hcm', ?_, hg', ?_, by simp, ?_, fun k y bj hy hbj => ?_⟩⟩
          · show 0 + _ * 1 ≤ cur'.size
            omega
          · exact ⟨fun j _ hj => by have := hj.2; omega, .inl rfl⟩
          · have : (x.map fun _ => ([] : List Nat)).flatten = [] := by
              clear hx hxm hxw h1 h2 htake' hxe
              induction x with
              | nil => rfl
              | cons a l ih => simp
            rw [this]
          · have hk := (List.getElem?_eq_some_iff.1 hy).1
            have hbj' : bj = [] := by
              rw [List.getElem?_map, hy] at hbj
              simpa using hbj.symm
            subst hbj'
            refine ⟨[.int .i64 y], rfl, fun j c' hj => ?_, rfl, hxw y (List.mem_of_getElem? hy), rfl⟩
            have hj0 : j = 0 := by have := (List.getElem?_eq_some_iff.1 hj).1; simp at this; omega
            subst hj0
            simp at hj
            subst hj
            have e : (fcs (.int .i64) x)[k]? = some (.int .i64 y) := by
              have : ∀ (x : List Int) (k : Nat) (y : Int), x[k]? = some y → (fcs (.int .i64) x)[k]? = some (.int .i64 y) := by
                intro x
                induction x with
                | nil => intro k y h; simp at h
                | cons a l ih =>
                  intro k y h
                  have e : fcs (.int .i64) (a :: l) = .int .i64 a :: fcs (.int .i64) l := rfl
                  rw [e]
                  cases k with
                  | zero => simp at h; subst h; rfl
                  | succ k => simpa using ih k y (by simpa using h)
              exact this x k y hy
            rw [← htake', List.getElem?_take, if_pos (by omega)] at e
            show cur'[0 + k * 1 + 0]? = some _
            rw [show 0 + k * 1 + 0 = k by omega]
            simpa using e
    · exact List.nodup_cons.2 ⟨fun hm' => (hin g hm').2 rfl, h.inc.imp fun hlt => Nat.ne_of_lt hlt⟩
    · intro b hb'
      rcases List.mem_cons.1 hb' with rfl | hb'
      · exact hb
      · exact (hin b hb').1

theorem form6 {w : World} {lo : Nat} {e : TypeId} {v : Value} {n : Nat} {xs : List Value} (h : w.ownsRow lo e 1 v n xs) : ∃ ad cap, v = .slice ad n cap ∧ (0 < n → ∃ G, ad = some ⟨G, 0, none⟩) := by
  rcases h.2 with ⟨rfl, rfl⟩ | ⟨g, cap, cur, rfl, _⟩
  · exact ⟨none, 0, rfl, fun h => absurd h (by decide)⟩
  · exact ⟨_, cap, rfl, fun _ => ⟨g, rfl⟩⟩
theorem gok6 {w W : World} (h : GOk w []) (hb : Below w.heap.size w W) : GOk W [] where
  inv := h.inv.keep fun b _ hs => hb.5 b hs
  size := Nat.le_trans h.size hb.4
  out := h.out

theorem Pg6.lt {w wr : World} {v : Value} {xs : List (List Int)} {row : List Value} {bl : List Nat} (h : Pg6 w wr v xs row bl) : ∀ q ∈ bl, q < wr.heap.size := fun q hq => by
  obtain ⟨j, hj, rfl⟩ := List.mem_iff_getElem.1 hq
  have hbl := h.len
  obtain ⟨c, h1, h2⟩ := h.inn j (by omega)
  have e : bl.getD j 0 = bl[j] := getD_lt bl j 0 hj
  rw [e] at h2
  exact (h2.lt _ rfl).2

theorem gb6 {w W : World} (h : Below w.heap.size w W) : w.grownBy W none := ⟨h.1, h.2, h.3, h.4, fun q hq _ => h.5 q hq⟩

theorem app6 (hinfo : TIOk Tryd.prog 27 (tabGet tab 27)) {wr : World} (base : Nat) {v : Value} {n : Nat} {xs : List Value} (ho : wr.ownsRow base 30 1 v n xs) (b' off' cap' : Nat) {m : Nat} (news : List Value) (hl : news.length = m * 1) (hc : ∀ j u, news[j]? = some u → wr.cell? ⟨b', off' + j, none⟩ = some u) (h1 : ∀ u ∈ news, u.oneCell' = true) (hnm : n + m ≤ 1048576) (hbase : base ≤ wr.heap.size)
    {ops : Array Oper} {rest : List Oper} {o : Oper} {a : Act} {Q : Exit → Act → World → Prop} {s x : Operand} (hgd : o.guard = none) (hop : o.op = .call { callee := .builtin .append, args := #[s, x], argTypes := #[27, 27] }) (hs : a.eval s = v) (hx : a.eval x = .slice (some ⟨b', off', none⟩) m cap')
    (h : ∀ v' w', w'.ownsRow base 30 1 v' (n + m) (xs ++ news) → wr.grownBy w' v.ownBlock → wpList Tryd.prog ops Q rest (a.put o.dst v') w') : wpList Tryd.prog ops Q (o :: rest) a wr := by
  obtain ⟨_, _, ⟨_, ⟨i0, hi0, hz1, z, hz0, hzs, _⟩⟩, hby⟩ := hinfo
  rw [hi0] at hby
  simp only [Option.map_some, Option.some.injEq] at hby
  have hzs' : z.cells.size = 1 := by rw [← Array.length_toList, hzs]; rfl
  have hb16 : i0.bytes = 24 := hby
  refine wpList_append_own _ hgd s x 27 hop base 30 i0 z 1 i0.bytes Tryd.underlying27 hi0 hz0 hz1 rfl hzs' (by decide) v n xs hs ho ⟨b', off', none⟩ m cap' news hx hl (fun j u hj => by rw [Addr.add_lit]; exact hc j u hj) h1 (by unfold maxLen; omega) (by rw [hb16]; omega) hbase (fun v' w' h1 h2 _ => h v' w' h1 h2)

theorem nil6 {w wr : World} (h : Below w.heap.size w wr) : Pg6 w wr (.slice none 0 0) [] [] [] where
  own := World.ownsRow_nil wr _ _ _
  len := rfl
  inn := fun j hj => by simp at hj
  inc := List.Pairwise.nil
  low := h


theorem setSame6 (xs : List (List Int)) (k j : Nat) (y : List Int) (hj : j < xs.length) : (xs.set k y).getD j [] = if k = j then y else xs.getD j [] := by
  rw [List.getD_eq_getElem?_getD, List.getElem?_set]
  by_cases h : k = j
  · rw [if_pos h, if_pos (by omega), if_pos h]
    rfl
  · rw [if_neg h, if_neg h, List.getD_eq_getElem?_getD]

theorem Pg6.bump {w wr : World} {v : Value} {xs : List (List Int)} {row : List Value} {bl : List Nat} {k : Nat} {p q y : Int} (h : Pg6 w wr v xs row bl) (hk : k < xs.length) (hx : xs.getD k [] = [p, q]) :
    Pg6 w (wr.setCell ⟨bl.getD k 0, 1, none⟩ (.int .i64 y)) v (xs.set k [p, y]) row bl := by
  have hbl := h.len
  obtain ⟨c0, i1, i2⟩ := h.inn k hk
  obtain ⟨o2, g2⟩ := i2.stored 1 (.int .i64 y)
  have ne := apart6 h.own i2 (by decide)
  refine ⟨by rw [List.length_set]; exact h.own.kept g2 ne, by rw [List.length_set]; exact hbl, fun j hj => ?_, h.inc, h.low.grown g2 h.low.size (fun r hr => by cases hr; exact (i2.lt _ rfl).1)⟩
  rw [List.length_set] at hj
  rw [setSame6 xs k j _ hj]
  by_cases hjk : k = j
  · subst hjk
    rw [if_pos rfl]
    rw [hx] at i1 o2
    exact ⟨c0, i1, o2⟩
  · rw [if_neg hjk]
    obtain ⟨c, h1, h2⟩ := h.inn j hj
    have hne : bl.getD j 0 ≠ bl.getD k 0 := by
      rw [getD_lt bl j 0 (by omega), getD_lt bl k 0 (by omega)]
      have hp := List.pairwise_iff_getElem.1 h.inc
      rcases Nat.lt_or_gt_of_ne hjk with hlt | hgt
      · exact fun e => Nat.ne_of_lt (hp k j (by omega) (by omega) hlt) e.symm
      · exact Nat.ne_of_lt (hp j k (by omega) (by omega) hgt)
    exact ⟨c, h1, h2.kept g2 (.inr (by show some (bl.getD j 0) ≠ some (bl.getD k 0); simpa using hne))⟩

theorem fx6 {w wr : World} {G cp m : Nat} {ps : List (List Int)} {row : List Value} {bl : List Nat} {p q : Int} (h : Pg6 w wr (.slice (some ⟨G, 0, none⟩) (m + 1) cp) ps row bl) (hm : ps.length = m + 1) (hx : ps.getD m [] = [p, q]) :
    ∃ g c0, wr.cell? ⟨G, m, none⟩ = some (.slice (some ⟨g, 0, none⟩) 2 c0) ∧ wr.cell? ⟨g, 1, none⟩ = some (.int .i64 q) ∧ wr.frozen? ⟨g, 1, none⟩ = false ∧ g < wr.heap.size ∧ G < wr.heap.size ∧
      Aside (∀ y, Pg6 w (wr.setCell ⟨g, 1, none⟩ (.int .i64 y)) (.slice (some ⟨G, 0, none⟩) (m + 1) cp) (ps.set m [p, y]) row bl) := by
  obtain ⟨c0, i1, i2⟩ := h.inn m (by omega)
  have ho : wr.ownsRow w.heap.size 30 1 (.slice (some ⟨G, 0, none⟩) (m + 1) cp) (m + 1) row := by
    have := h.own
    rw [hm] at this
    exact this
  rw [hx] at i1 i2
  refine ⟨bl.getD m 0, c0, ?_, ?_, i2.frozenAt 1, (i2.lt _ rfl).2, (ho.lt _ rfl).2, fun y => h.bump (by omega) hx⟩
  · rw [ho.cellAt m (by omega)]
    exact i1
  · rw [i2.cellAt 1 (by show 1 < 2 * 1; omega)]
    rfl

theorem lit6 (w wr : World) (hb : w.heap.size ≤ wr.heap.size) (x y : Int) (o : Obj) : ((wr.alloc (.cells #[.int .i64 x, .int .i64 y] 2)).alloc o).ownsRow w.heap.size 2 1 (.slice (some ⟨wr.heap.size, 0, none⟩) 2 2) 2 [.int .i64 x, .int .i64 y] :=
  World.ownsRow.alloc (World.ownsRow_lit (base := w.heap.size) wr #[.int .i64 x, .int .i64 y] 2 hb (by decide) rfl) o

theorem nw6 {w wr wq : World} {u v' : Value} {ps : List (List Int)} {row : List Value} {bl : List Nat} (h : Pg6 w wr u ps row bl) (x y : Int) (hown : wq.ownsRow w.heap.size 30 1 v' (ps.length + 1) (row ++ [.slice (some ⟨wr.heap.size, 0, none⟩) 2 2]))
    (hgrow : ((wr.alloc (.cells #[.int .i64 x, .int .i64 y] 2)).alloc (.cells #[.slice (some ⟨wr.heap.size, 0, none⟩) 2 2] 30)).grownBy wq u.ownBlock) :
    Pg6 w wq v' (ps ++ [[x, y]]) (row ++ [.slice (some ⟨wr.heap.size, 0, none⟩) 2 2]) (bl ++ [wr.heap.size]) := by
  have lowB : Below wr.heap.size wr ((wr.alloc (.cells #[.int .i64 x, .int .i64 y] 2)).alloc (.cells #[.slice (some ⟨wr.heap.size, 0, none⟩) 2 2] 30)) := ((Below.refl _ wr).alloc (Nat.le_refl _) _).alloc (by simp) _
  exact (h.keep (gb6 lowB)).push (x := [x, y]) (g := wr.heap.size) (c := 2) (lit6 w wr h.low.size x y _) h.lt hown hgrow

abbrev TW6 := ByteArray × Int × Int × Unit
abbrev WY6 : Ty := .cons .str (.cons (.int .i64) (.cons (.int .i64) .unit))
def Lst6 (W : World) (x0 : List TW6) (v : Value) : Prop := SlAt W (Am.Good W []) (RepC W (Am.Good W []) WY6) 3 x0 v

theorem arg6 {w W : World} {x0 : List TW6} {v : Value} (hb : Below w.heap.size w W) (h : Lst6 w x0 v) : Lst6 W x0 v :=
  SlAt.keep (fun _ _ => RepC.keep (fun q hq => ⟨Nat.lt_of_lt_of_le hq.1 hb.size, hq.2⟩) (fun q hq => hb.block q hq.1)) (fun q hq => ⟨Nat.lt_of_lt_of_le hq.1 hb.size, hq.2⟩) (fun q hq => hb.block q hq.1) h

theorem spn6 (W : World) (a : Int) (b : Int) (hgo : GOk W []) (ia : InR .i64 a) (ib : InR .i64 b) :
    Calls Tryd.prog 19 #[.int .i64 a, .int .i64 b] W fun e w' => e = .returned (.bool (g19_0 a b)) ∧ Below W.heap.size W w' := by
  have h := con19.down rfl W (a, b, ()) [.int .i64 a, .int .i64 b] [[], []] hgo trivial ⟨_, _, _, _, rfl, rfl, ⟨rfl, rfl, ia⟩, ⟨_, _, _, _, rfl, rfl, ⟨rfl, rfl, ib⟩, ⟨rfl, rfl⟩⟩⟩ (by simp)
  refine h.mono ?_
  rintro e w' ⟨rs, ubs, rbs, rfl, hk, ⟨u, s, b1, bs1, cs, rfl, rfl, ho, hv, rfl, rfl⟩, _⟩
  obtain ⟨ho, _⟩ := ho
  have hv : cs = [u] := hv
  rw [ho] at hv
  cases hv
  exact ⟨rfl, hk.below⟩

theorem inn6 (W : World) (a : Int) (hgo : GOk W []) (ia : InR .i64 a) :
    Calls Tryd.prog 20 #[.int .i64 a, .int .i64 1, .int .i64 12] W fun e w' => e = .returned (.bool (g20_0 a 1 12)) ∧ Below W.heap.size W w' := by
  have h := con20.down rfl W (a, 1, 12, ()) [.int .i64 a, .int .i64 1, .int .i64 12] [[], [], []] hgo trivial ⟨_, _, _, _, rfl, rfl, ⟨rfl, rfl, ia⟩, ⟨_, _, _, _, rfl, rfl, ⟨rfl, rfl, show InR .i64 1 by rw [i64_iff]; omega⟩, ⟨_, _, _, _, rfl, rfl, ⟨rfl, rfl, show InR .i64 12 by rw [i64_iff]; omega⟩, ⟨rfl, rfl⟩⟩⟩⟩ (by simp)
  refine h.mono ?_
  rintro e w' ⟨rs, ubs, rbs, rfl, hk, ⟨u, s, b1, bs1, cs, rfl, rfl, ho, hv, rfl, rfl⟩, _⟩
  obtain ⟨ho, _⟩ := ho
  have hv : cs = [u] := hv
  rw [ho] at hv
  cases hv
  exact ⟨rfl, hk.below⟩

theorem stf6 (W : World) (x0 : List TW6) (v : Value) (b : Bool) (hgo : GOk W []) (ha : Lst6 W x0 v) :
    Calls Tryd.prog 18 #[v, .bool b] W fun e w' => e = .returned (.int .i64 (g18_0 x0 b)) ∧ Below W.heap.size W w' := by
  have h := con18.down rfl W (x0, b, ()) [v, .bool b] [[], []] hgo trivial ⟨_, _, _, _, rfl, rfl, ⟨rfl, ha⟩, ⟨_, _, _, _, rfl, rfl, ⟨rfl, rfl, trivial⟩, ⟨rfl, rfl⟩⟩⟩ (by simp)
  refine h.mono ?_
  rintro e w' ⟨rs, ubs, rbs, rfl, hk, ⟨u, s, b1, bs1, cs, rfl, rfl, ho, hv, rfl, rfl⟩, _⟩
  obtain ⟨ho, _⟩ := ho
  have hv : cs = [u] := hv
  rw [ho] at hv
  cases hv
  exact ⟨rfl, hk.below⟩

theorem siz6 (W : World) (xs : List Int) (v : Value) (hgo : GOk W []) (ha : SlAt W (Am.Good W []) (RepC W (Am.Good W []) (.int .i64)) 1 xs v) :
    Calls Tryd.prog 21 #[v] W fun e w' => e = .returned (.int .i64 (g21_0 xs)) ∧ Below W.heap.size W w' := by
  have h := con21.down rfl W (xs, ()) [v] [[]] hgo (by first | exact trivial | exact ⟨trivial, trivial⟩) ⟨_, _, _, _, rfl, rfl, ⟨rfl, ha⟩, ⟨rfl, rfl⟩⟩ (by simp)
  refine h.mono ?_
  rintro e w' ⟨rs, ubs, rbs, rfl, hk, ⟨u, s, b1, bs1, cs, rfl, rfl, ho, hv, rfl, rfl⟩, _⟩
  obtain ⟨ho, _⟩ := ho
  have hv : cs = [u] := hv
  rw [ho] at hv
  cases hv
  exact ⟨rfl, hk.below⟩

theorem at6 (W : World) (x0 : List TW6) (v : Value) (m : Int) (hgo : GOk W []) (ha : Lst6 W x0 v) (im : InR .i64 m) (hl : x0.length ≤ 1000) :
    Calls Tryd.prog 22 #[v, .int .i64 m] W fun e w' => ∃ ad cap, e = .returned (.slice ad (atL m 0 x0).length cap) ∧ Below W.heap.size W w' ∧ SlAt w' (Am.Good w' []) (RepC w' (Am.Good w' []) (.int .i64)) 1 (atL m 0 x0) (.slice ad (atL m 0 x0).length cap) := by
  have h := con22.down rfl W (x0, m, ()) [v, .int .i64 m] [[], []] hgo hl ⟨_, _, _, _, rfl, rfl, ⟨rfl, ha⟩, _, _, _, _, rfl, rfl, ⟨rfl, rfl, im⟩, rfl, rfl⟩ (by simp)
  refine h.mono ?_
  rintro e w' ⟨rs, ubs, rbs, rfl, hk, ⟨u, s, b1, bs1, cs, rfl, rfl, ho, hv, rfl, rfl⟩, _⟩
  have hv : cs = [u] := hv
  subst hv
  have ho : OwnC w' (.sl (.int .i64)) (atL m 0 x0) [u] b1 := ho
  have hr : RepC w' (Am.Good w' []) (.sl (.int .i64)) (atL m 0 x0) [u] := OwnC.read (fun b hb => ⟨OwnC.lt ho b hb, by simp⟩) ho
  obtain ⟨u', he, hs⟩ := hr
  cases he
  have hs : SlAt w' (Am.Good w' []) (RepC w' (Am.Good w' []) (.int .i64)) 1 (atL m 0 x0) u := hs
  obtain ⟨ad, cap, rfl⟩ : ∃ ad cap, u = .slice ad (atL m 0 x0).length cap := by
    rcases (own_flat (t := .int .i64) rfl ho).2.2 with ⟨ad, rfl, h0, _⟩ | ⟨b, off, cap, _, _, _, rfl, _⟩
    · rw [h0]; exact ⟨ad, 0, rfl⟩
    · exact ⟨_, _, rfl⟩
  exact ⟨ad, cap, rfl, hk.below, hs⟩

def bad6 (x0 : List TW6) (x3 : Int) (m : Int) : Bool := decide (((atL m 0 x0).length : Int) < x3)
def ask6 (x0 : List TW6) (x1 x2 x3 : Int) : Int := g18_0 x0 (if g19_0 x1 x2 = true then g20_0 x3 1 12 else false)
def g6_0 (x0 : List TW6) (x1 x2 x3 : Int) : List (List Int) := if ask6 x0 x1 x2 x3 = 0 then aRun (bad6 x0 x3) x1 (x2 - x1).toNat else []
def g6_1 (x0 : List TW6) (x1 x2 x3 : Int) : Int := ask6 x0 x1 x2 x3
def P6 (x0 : List TW6) (x1 x2 x3 : Int) : Prop := x0.length ≤ 1000

theorem own6 {w W : World} {v : Value} {xs : List (List Int)} {row : List Value} {bl : List Nat} {n : Nat} (h : Pg6 w W v xs row bl) (hn : xs.length = n) : W.ownsRow w.heap.size 30 1 v n row := hn ▸ h.own

theorem alc6 (w : World) (a b : Obj) : ((w.alloc a).alloc b).heap[w.heap.size + 1]? = some b := by
  have e : (w.alloc a).heap.size = w.heap.size + 1 := by simp
  have := heap_alloc_new (w.alloc a) b
  rw [e] at this
  exact this

set_option maxHeartbeats 4000000 in
theorem bad16 (w : World) (x0 : List TW6) (v : Value) (x1 x2 x3 c : Int) (hgo : GOk w []) (ha : Lst6 w x0 v) (i1 : InR .i64 x1) (i2 : InR .i64 x2) (i3 : InR .i64 x3) (hs : g19_0 x1 x2 = true) (h1 : g18_0 x0 (g20_0 x3 1 12) = c) (hc : (c == 0) = false) (hc2 : (c != 0) = true) :
    Calls Tryd.prog 6 #[v, .int .i64 x1, .int .i64 x2, .int .i64 x3] w fun e w' => e = .returned (.tuple #[.slice none 0 0, .int .i64 c]) ∧ Below w.heap.size w w' := by
  have HA : Aside (Lst6 w x0 v) := ha
  clear ha
  have mixed := mixed
  go_enter Tryd.func6, Tryd.ntmps6
  go_wp2_with (go_at_call 19; refine (spn6 _ _ _ hgo i1 i2).mono ?_; rintro e w1 ⟨rfl, b1⟩; rw [hs])
  go_wp2_with (go_at_call 20; refine (inn6 _ _ (gok6 hgo b1) i3).mono ?_; rintro e w2 ⟨rfl, b2⟩)
  go_wp2_with (go_at_call 18; refine (stf6 _ x0 _ _ (gok6 (gok6 hgo b1) b2) (arg6 b2 (arg6 b1 HA.out))).mono ?_; rintro e w3 ⟨rfl, b3⟩; rw [h1])
  go_ret2
  exact ⟨rfl, (b1.trans (b2.mono b1.size)).trans (b3.mono (Nat.le_trans b1.size b2.size))⟩

set_option maxHeartbeats 4000000 in
theorem bad26 (w : World) (x0 : List TW6) (v : Value) (x1 x2 x3 c : Int) (hgo : GOk w []) (ha : Lst6 w x0 v) (i1 : InR .i64 x1) (i2 : InR .i64 x2) (i3 : InR .i64 x3) (hs : g19_0 x1 x2 = false) (h1 : g18_0 x0 false = c) (hc : (c == 0) = false) (hc2 : (c != 0) = true) :
    Calls Tryd.prog 6 #[v, .int .i64 x1, .int .i64 x2, .int .i64 x3] w fun e w' => e = .returned (.tuple #[.slice none 0 0, .int .i64 c]) ∧ Below w.heap.size w w' := by
  have HA : Aside (Lst6 w x0 v) := ha
  clear ha
  have mixed := mixed
  go_enter Tryd.func6, Tryd.ntmps6
  go_wp2_with (go_at_call 19; refine (spn6 _ _ _ hgo i1 i2).mono ?_; rintro e w1 ⟨rfl, b1⟩; rw [hs])
  go_wp2_with (go_at_call 18; refine (stf6 _ x0 _ _ (gok6 hgo b1) (arg6 b1 HA.out)).mono ?_; rintro e w3 ⟨rfl, b3⟩; rw [h1])
  go_ret2
  exact ⟨rfl, b1.trans (b3.mono b1.size)⟩

set_option maxHeartbeats 8000000 in
theorem walk6 (w : World) (x0 : List TW6) (v : Value) (x1 x2 x3 : Int) (hgo : GOk w []) (ha : Lst6 w x0 v) (i1 : InR .i64 x1) (i2 : InR .i64 x2) (i3 : InR .i64 x3) (hs : g19_0 x1 x2 = true) (h1 : g18_0 x0 (g20_0 x3 1 12) = 0) (hl : x0.length ≤ 1000) (hb : 0 ≤ x1 ∧ x1 ≤ x2 ∧ x2 ≤ 1440) :
    Calls Tryd.prog 6 #[v, .int .i64 x1, .int .i64 x2, .int .i64 x3] w fun e w' => ∃ u row bl, e = .returned (.tuple #[u, .int .i64 0]) ∧ Pg6 w w' u (aRun (bad6 x0 x3) x1 (x2 - x1).toNat) row bl := by
  have HA : Aside (Lst6 w x0 v) := ha
  clear ha
  have mixed := mixed
  go_enter Tryd.func6, Tryd.ntmps6
  go_wp2_with (go_at_call 19; refine (spn6 _ _ _ hgo i1 i2).mono ?_; rintro e w1 ⟨rfl, b1⟩; rw [hs])
  go_wp2_with (go_at_call 20; refine (inn6 _ _ (gok6 hgo b1) i3).mono ?_; rintro e w2 ⟨rfl, b2⟩)
  go_wp2_with (go_at_call 18; refine (stf6 _ x0 _ _ (gok6 (gok6 hgo b1) b2) (arg6 b2 (arg6 b1 HA.out))).mono ?_; rintro e w3 ⟨rfl, b3⟩; rw [h1])
  have bb : Below w.heap.size w w3 := (b1.trans (b2.mono b1.size)).trans (b3.mono (Nat.le_trans b1.size b2.size))
  clear b1 b2 b3
  go_loopw [12, 11] (fun i u wr => ∃ (k : Nat) (row : List Value) (bl : List Nat), i = .int .i64 (x1 + (k : Int)) ∧ x1 + (k : Int) ≤ x2 ∧ Pg6 w wr u (aRun (bad6 x0 x3) x1 k) row bl) (fun i _ _ => (x2 - intOf i).toNat)
  case atStart => exact ⟨0, [], [], by simp, by omega, nil6 bb⟩
  case round =>
    obtain ⟨k, row, bl, rfl, hk, hp⟩ := hrel
    have HP : Aside (Pg6 w wr u11 (aRun (bad6 x0 x3) x1 k) row bl) := hp
    have bl0 := hp.low
    obtain ⟨ad, cp, rfl, hG⟩ := form6 hp.own
    obtain ⟨hok, _, hlen⟩ := arun_ok (bad6 x0 x3) x1 k
    have HOK : Aside (AOk (bad6 x0 x3) x1 (x1 + (k : Int)) (aRun (bad6 x0 x3) x1 k)) := hok
    clear hp hok
    have G4 : Aside (GOk wr []) := gok6 hgo bl0
    have A4 : Aside (Lst6 wr x0 v) := arg6 bl0 HA.out
    have im : InR .i64 (x1 + (k : Int)) := by rw [i64_iff]; omega
    have hq : IntKind.i64.wrap (x1 + (k : Int) + 1) = x1 + (k : Int) + 1 := by rw [IntKind.wrap_i64]; omega
    have hlt0 : x1 + (k : Int) ≤ 1440 := by omega
    generalize hm : x1 + (k : Int) = m at *
    by_cases hlt : m < x2
    · have HS : Aside (aRun (bad6 x0 x3) x1 (k + 1) = aSt (bad6 x0 x3 m) m (aRun (bad6 x0 x3) x1 k)) := by
        show _ = _
        rw [← hm]
        rfl
      by_cases hbad : ((atL m 0 x0).length : Int) < x3
      · have HB : Aside (bad6 x0 x3 m = true) := decide_eq_true hbad
        rw [show bad6 x0 x3 m = true from HB.out] at HS
        have hAT : Aside (∀ W, GOk W [] → Lst6 W x0 v → Calls Tryd.prog 22 #[v, .int .i64 m] W fun e w' => ∃ ad cap, e = .returned (.slice ad (atL m 0 x0).length cap) ∧ Below W.heap.size W w' ∧ Aside (Calls Tryd.prog 21 #[.slice ad (atL m 0 x0).length cap] w' fun e2 w2 => e2 = .returned (.int .i64 ((atL m 0 x0).length : Int)) ∧ Below w'.heap.size w' w2)) := fun W h1 h2 => (at6 W x0 v _ h1 h2 im hl).mono (by rintro e w' ⟨ad, cap, h, b, s⟩; exact ⟨ad, cap, h, b, siz6 w' _ _ (gok6 h1 b) s⟩)
        have HI : Aside (TIOk Tryd.prog 27 (tabGet tab 27)) := tabOk 27
        generalize (atL m 0 x0).length = L at *
        generalize hps : aRun (bad6 x0 x3) x1 k = ps at *
        rcases List.eq_nil_or_concat ps with hnil | ⟨l, z, hcon⟩
        · have HN : Aside (ps.length = 0) := by show _ = _; rw [hnil]; rfl
          rw [show ps.length = 0 from HN.out] at HP ⊢
          have HS2 : Aside (aRun (bad6 x0 x3) x1 (k + 1) = ps ++ [[m, m + 1]]) := by
            show _ = _
            rw [HS.out, hnil, aSt_nil]
            rfl
          clear hnil
          go_wp2_with (first
            | (go_at_call 22; refine (hAT.out _ G4.out A4.out).mono ?_; rintro e w40 ⟨ad4, cap4, rfl, b40, HSZ⟩)
            | (go_at_call 21; refine HSZ.out.mono ?_; rintro e w4 ⟨rfl, b5⟩; have b4 : Below wr.heap.size wr w4 := b40.trans (b5.mono b40.size); have HP4 : Aside (Pg6 w w4 _ ps row bl) := HP.out.keep (gb6 b4); have HPB : Aside (Pg6 w ((w4.alloc (Obj.cells #[Value.int .i64 m, Value.int .i64 (m + 1)] 2)).alloc (Obj.cells #[Value.slice (some ⟨w4.heap.size, 0, none⟩) 2 2] 30)) _ ps row bl) := HP4.out.keep (gb6 (((Below.refl _ w4).alloc (Nat.le_refl _) _).alloc (by simp) _)); have HH : Aside (((w4.alloc (Obj.cells #[Value.int .i64 m, Value.int .i64 (m + 1)] 2)).alloc (Obj.cells #[Value.slice (some ⟨w4.heap.size, 0, none⟩) 2 2] 30)).heap[w4.heap.size + 1]? = some (.cells #[.slice (some ⟨w4.heap.size, 0, none⟩) 2 2] 30)) := alc6 w4 _ _)
            | (at_builtin; refine app6 HI.out w.heap.size (own6 HPB.out HN.out) (w4.heap.size + 1) 0 1 [.slice (some ⟨w4.heap.size, 0, none⟩) 2 2] rfl (fun j u hj => by
              rcases j with _ | j
              · simp at hj; subst hj
                unfold World.cell?
                rw [show ((w4.alloc (Obj.cells #[Value.int .i64 m, Value.int .i64 (m + 1)] 2)).alloc (Obj.cells #[Value.slice (some ⟨w4.heap.size, 0, none⟩) 2 2] 30)).heap[(⟨w4.heap.size + 1, 0 + 0, none⟩ : Addr).block]? = _ from HH.out]
                rfl
              · simp at hj) (by simp [Value.oneCell']) (by omega) (by have := bl0.size; have := b4.size; simp; omega) rfl rfl rfl rfl ?_; intro v' wq hown hgrow))
          have hnw := nw6 HP4.out m (m + 1) (by rw [HN.out]; exact hown) hgrow
          exact ⟨⟨k + 1, _, _, by simp; omega, by omega, by rw [HS2.out]; exact hnw⟩, by simp [intOf]; omega⟩
        · rw [List.concat_eq_append] at hcon
          have hN : ps.length = l.length + 1 := by rw [hcon]; simp
          obtain ⟨p, q, y1, y2, y3, y4, y5, y6⟩ := HOK.out l.length (by omega)
          have hz : z = [p, q] := by rw [hcon] at y1; simpa using y1
          subst hz
          clear y6
          have HX : Aside (ps.getD l.length [] = [p, q]) := by show _ = _; rw [hcon]; simp [List.getD_eq_getElem?_getD]
          have HSET : Aside (∀ y, ps.set l.length [p, y] = l ++ [[p, y]]) := fun y => by rw [hcon]; simp
          have HSN : Aside (aRun (bad6 x0 x3) x1 (k + 1) = if q = m then l ++ [[p, m + 1]] else l ++ [[p, q], [m, m + 1]]) := by
            show _ = _
            rw [HS.out, hcon, aSt_snoc]
          have HCN : Aside (ps = l ++ [[p, q]]) := hcon
          have HN : Aside (ps.length = l.length + 1) := hN
          obtain ⟨G, rfl⟩ := hG (by omega)
          rw [hN] at HP ⊢
          have hM : l.length + 1 ≤ k := by omega
          clear hN hcon y1 hG hlen
          generalize l.length = M at *
          have hq1 : IntKind.i64.wrap ((M : Int) + 1 - 1) = (M : Int) := by rw [IntKind.wrap_i64]; omega
          have hq2 : (0 : Int) ≤ (M : Int) := by omega
          have hq3 : (M : Int) < (M : Int) + 1 := by omega
          by_cases hqm : q = m
          · subst hqm
            have HFIN : Aside (∀ W, Pg6 w W (.slice (some ⟨G, 0, none⟩) (M + 1) cp) (ps.set M [p, q + 1]) row bl → Pg6 w W (.slice (some ⟨G, 0, none⟩) (M + 1) cp) (aRun (bad6 x0 x3) x1 (k + 1)) row bl) := fun W h => by
              rw [HSN.out, if_pos rfl, ← HSET.out (q + 1)]
              exact h
            clear HSN HSET
            go_wp2_with (first
            | (go_at_call 22; refine (hAT.out _ G4.out A4.out).mono ?_; rintro e w40 ⟨ad4, cap4, rfl, b40, HSZ⟩)
            | (go_at_call 21; refine HSZ.out.mono ?_; rintro e w4 ⟨rfl, b5⟩; have b4 : Below wr.heap.size wr w4 := b40.trans (b5.mono b40.size); have HP4 : Aside (Pg6 w w4 _ ps row bl) := HP.out.keep (gb6 b4); obtain ⟨g, c0, p1, p2, pf, gl, Gl, HPUT⟩ := fx6 HP4.out (show ps.length = M + 1 from HN.out) HX.out))
            exact ⟨⟨k + 1, row, bl, by simp; omega, by omega, HFIN.out _ (HPUT.out (q + 1))⟩, by simp [intOf]; omega⟩
          · have hb0 : (q == m) = false := by simpa using hqm
            go_wp2_with (first
            | (go_at_call 22; refine (hAT.out _ G4.out A4.out).mono ?_; rintro e w40 ⟨ad4, cap4, rfl, b40, HSZ⟩)
            | (go_at_call 21; refine HSZ.out.mono ?_; rintro e w4 ⟨rfl, b5⟩; have b4 : Below wr.heap.size wr w4 := b40.trans (b5.mono b40.size); have HP4 : Aside (Pg6 w w4 _ ps row bl) := HP.out.keep (gb6 b4); have HPB : Aside (Pg6 w ((w4.alloc (Obj.cells #[Value.int .i64 m, Value.int .i64 (m + 1)] 2)).alloc (Obj.cells #[Value.slice (some ⟨w4.heap.size, 0, none⟩) 2 2] 30)) _ ps row bl) := HP4.out.keep (gb6 (((Below.refl _ w4).alloc (Nat.le_refl _) _).alloc (by simp) _)); have HH : Aside (((w4.alloc (Obj.cells #[Value.int .i64 m, Value.int .i64 (m + 1)] 2)).alloc (Obj.cells #[Value.slice (some ⟨w4.heap.size, 0, none⟩) 2 2] 30)).heap[w4.heap.size + 1]? = some (.cells #[.slice (some ⟨w4.heap.size, 0, none⟩) 2 2] 30)) := alc6 w4 _ _; obtain ⟨g, c0, p1, p2, pf, gl, Gl, HPUT⟩ := fx6 HP4.out (show ps.length = M + 1 from HN.out) HX.out)
            | (at_builtin; refine app6 HI.out w.heap.size (own6 HPB.out HN.out) (w4.heap.size + 1) 0 1 [.slice (some ⟨w4.heap.size, 0, none⟩) 2 2] rfl (fun j u hj => by
              rcases j with _ | j
              · simp at hj; subst hj
                unfold World.cell?
                rw [show ((w4.alloc (Obj.cells #[Value.int .i64 m, Value.int .i64 (m + 1)] 2)).alloc (Obj.cells #[Value.slice (some ⟨w4.heap.size, 0, none⟩) 2 2] 30)).heap[(⟨w4.heap.size + 1, 0 + 0, none⟩ : Addr).block]? = _ from HH.out]
                rfl
              · simp at hj) (by simp [Value.oneCell']) (by omega) (by have := bl0.size; have := b4.size; simp; omega) rfl rfl rfl rfl ?_; intro v' wq hown hgrow))
            have hnw := nw6 HP4.out m (m + 1) (by rw [HN.out]; exact hown) hgrow
            have HSF : aRun (bad6 x0 x3) x1 (k + 1) = ps ++ [[m, m + 1]] := by rw [HSN.out, if_neg hqm, HCN.out]; simp
            exact ⟨⟨k + 1, _, _, by simp; omega, by omega, by rw [HSF]; exact hnw⟩, by simp [intOf]; omega⟩
      · have HB : Aside (bad6 x0 x3 m = false) := decide_eq_false hbad
        rw [show bad6 x0 x3 m = false from HB.out] at HS
        have hAT : Aside (∀ W, GOk W [] → Lst6 W x0 v → Calls Tryd.prog 22 #[v, .int .i64 m] W fun e w' => ∃ ad cap, e = .returned (.slice ad (atL m 0 x0).length cap) ∧ Below W.heap.size W w' ∧ Aside (Calls Tryd.prog 21 #[.slice ad (atL m 0 x0).length cap] w' fun e2 w2 => e2 = .returned (.int .i64 ((atL m 0 x0).length : Int)) ∧ Below w'.heap.size w' w2)) := fun W h1 h2 => (at6 W x0 v _ h1 h2 im hl).mono (by rintro e w' ⟨ad, cap, h, b, s⟩; exact ⟨ad, cap, h, b, siz6 w' _ _ (gok6 h1 b) s⟩)
        generalize (atL m 0 x0).length = L at *
        generalize hps : aRun (bad6 x0 x3) x1 k = ps at *
        go_wp2_with (first
            | (go_at_call 22; refine (hAT.out _ G4.out A4.out).mono ?_; rintro e w40 ⟨ad4, cap4, rfl, b40, HSZ⟩)
            | (go_at_call 21; refine HSZ.out.mono ?_; rintro e w4 ⟨rfl, b5⟩; have b4 : Below wr.heap.size wr w4 := b40.trans (b5.mono b40.size)))
        exact ⟨⟨k + 1, row, bl, by simp; omega, by omega, by rw [HS.out]; show Pg6 w w4 _ (aSt false _ ps) row bl; unfold aSt; rw [if_neg (by decide)]; exact HP.out.keep (gb6 b4)⟩, by simp [intOf]; omega⟩
    · have e : (x2 - x1).toNat = k := by omega
      have HQ : Aside (Pg6 w wr (.slice ad (aRun (bad6 x0 x3) x1 k).length cp) (aRun (bad6 x0 x3) x1 (x2 - x1).toNat) row bl) := by
        rw [e]
        exact HP.out
      go_wp2
      go_ret2
      first | exact ⟨_, row, bl, rfl, HQ.out⟩ | exact ⟨_, rfl, row, bl, HQ.out⟩ | exact ⟨_, rfl, row, bl, HP.out⟩ | exact ⟨row, bl, HP.out⟩

theorem mem6 (f : Int → Bool) (a : Int) (n : Nat) (h0 : 0 ≤ a) (h1 : a + (n : Int) ≤ 1440) : ∀ x ∈ aRun f a n, x.length ≤ maxLen ∧ ∀ y ∈ x, Wf (.int .i64) y := fun x hx => by
  obtain ⟨i, hi, rfl⟩ := List.mem_iff_getElem.1 hx
  obtain ⟨p, q, h2, h3, h4, h5, _⟩ := (arun_ok f a n).1 i hi
  rw [List.getElem?_eq_getElem hi] at h2
  obtain h2 := Option.some.inj h2
  rw [h2]
  refine ⟨by simp [maxLen], fun y hy => ?_⟩
  simp only [List.mem_cons, List.mem_nil_iff, or_false] at hy
  show InR .i64 y
  rw [i64_iff]
  rcases hy with rfl | rfl <;> omega

def kds6 : List RK := [.frz]
def sig6 : List AT := [AT.v (Ty.sl WY6), AT.v (Ty.int .i64), AT.v (Ty.int .i64), AT.v (Ty.int .i64)]
def S6 : Am.Spec := { sig := sig6, pre := fun ⟨x0, x1, x2, x3, _⟩ => P6 x0 x1 x2 x3, res := fun ⟨x0, x1, x2, x3, _⟩ => [⟨.sl (.sl (.int .i64)), g6_0 x0 x1 x2 x3⟩, ⟨.int .i64, g6_1 x0 x1 x2 x3⟩], kds := kds6 }

theorem upf6 {P : Program} {f : FuncId} {S : Am.Spec} (hp : plainSig S.sig = true) (hk : S.kds = [.frz]) (hr : ∀ x, ∃ d d2, S.res x = [d, d2] ∧ d2.t.flat = true) (h : Contract0 P f S) : Contract P f S := by
  intro w G G0 x vs bss hg hG hG0 hpre ha hn
  have hl := args_len ha
  refine (h w x vs bss hg hpre (ha.mono hG hp) hn).mono ?_
  rintro e w' ⟨rs, ubs, rbs, h1, h2, h3, h4, h5, h6⟩
  obtain ⟨d, d2, he, hf⟩ := hr x
  rw [he] at h3
  obtain ⟨v, s, b, bs, cs, rfl, rfl, o1, j1, v2, s2, b2, bs2, cs2, rfl, rfl, o2, j2, rfl, rfl⟩ := h3
  obtain rfl : b2 = [] := (OwnC.flat (G := fun _ => False) (w' := w') hf o2).2
  refine ⟨[v, v2], ubs, [[], []], fun k => k ∈ b, h1, h2, ?_, h4.toK (n0 := ()) hp hl, ?_, fun k hk => h6 k ?_, fun k hk => ⟨OwnC.lt o1 k hk, h6 k ?_, ?_⟩⟩
  · rw [hk, he]
    exact ⟨_, _, _, _, rfl, rfl, ⟨rfl, cs, OwnC.read (fun k hk => .inr hk) o1, j1⟩, _, _, _, _, rfl, rfl, ⟨cs2, o2, j2⟩, rfl, rfl⟩
  · have := h5
    simp only [List.flatten_cons, List.flatten_nil, List.append_nil] at this ⊢
    exact (List.nodup_append.1 this).1
  · simp only [List.flatten_cons, List.flatten_nil, List.append_nil] at hk ⊢
    exact List.mem_append_left _ hk
  · simp only [List.flatten_cons, List.flatten_nil, List.append_nil]
    exact List.mem_append_right _ hk
  · simp only [List.flatten_cons, List.flatten_nil, List.append_nil] at h5 ⊢
    exact fun hu => (List.nodup_append.1 h5).2.2 k hu k hk rfl

theorem core6 (w : World) (x0 : List TW6) (v : Value) (x1 x2 x3 : Int) (hgo : GOk w []) (ho : Lst6 w x0 v) (hl : x0.length ≤ 1000) (i1 : InR .i64 x1) (i2 : InR .i64 x2) (i3 : InR .i64 x3) :
    Calls Tryd.prog 6 #[v, .int .i64 x1, .int .i64 x2, .int .i64 x3] w fun e w' => ∃ rs ubs rbs, e = .returned (packV rs) ∧ Kept [] w w' ∧ ResRep w' [⟨.sl (.sl (.int .i64)), g6_0 x0 x1 x2 x3⟩, ⟨.int .i64, g6_1 x0 x1 x2 x3⟩] rs rbs ∧ UpdRep w' [] [] ubs ∧ (ubs.flatten ++ rbs.flatten).Nodup ∧ ∀ b ∈ ubs.flatten ++ rbs.flatten, ¬ Am.Good w [] b := by
  have fin : ∀ (w' : World) (v : Value) (row : List Value) (bl : List Nat) (ps : List (List Int)) (c : Int), Pg6 w w' v ps row bl → ps.length ≤ maxLen → (∀ p ∈ ps, p.length ≤ maxLen ∧ ∀ y ∈ p, Wf (.int .i64) y) → InR .i64 c →
      ∃ rs ubs rbs, Ending.returned (.tuple #[v, .int .i64 c]) = .returned (packV rs) ∧ Kept [] w w' ∧ ResRep w' [⟨.sl (.sl (.int .i64)), ps⟩, ⟨.int .i64, c⟩] rs rbs ∧ UpdRep w' [] [] ubs ∧ (ubs.flatten ++ rbs.flatten).Nodup ∧ ∀ b ∈ ubs.flatten ++ rbs.flatten, ¬ Am.Good w [] b := fun w' v row bl ps c h hm hw' hc => by
    obtain ⟨bs, k1, k2, k3⟩ := h.done hm hw'
    refine ⟨[v, .int .i64 c], [], [bs, []], rfl, Kept.of_below h.low, ⟨_, _, _, _, _, rfl, rfl, k1, rfl, _, _, _, _, _, rfl, rfl, ⟨rfl, hc, rfl⟩, rfl, rfl, rfl⟩, ⟨rfl, rfl⟩, by simpa using k2, fun b hb hg => ?_⟩
    have hb : b ∈ bs := by simpa using hb
    have := k3 b hb
    have := hg.1
    omega
  have z : ∀ c : Int, 0 ≤ c → c ≤ 2 → InR .i64 c := fun c h1 h2 => by rw [i64_iff]; omega
  have good : 0 ≤ x1 ∧ x1 ≤ x2 ∧ x2 ≤ 1440 → (Calls Tryd.prog 6 #[v, .int .i64 x1, .int .i64 x2, .int .i64 x3] w fun e w' => ∃ u row bl, e = .returned (.tuple #[u, .int .i64 0]) ∧ Pg6 w w' u (aRun (bad6 x0 x3) x1 (x2 - x1).toNat) row bl) → ask6 x0 x1 x2 x3 = 0 →
      Calls Tryd.prog 6 #[v, .int .i64 x1, .int .i64 x2, .int .i64 x3] w fun e w' => ∃ rs ubs rbs, e = .returned (packV rs) ∧ Kept [] w w' ∧ ResRep w' [⟨.sl (.sl (.int .i64)), g6_0 x0 x1 x2 x3⟩, ⟨.int .i64, g6_1 x0 x1 x2 x3⟩] rs rbs ∧ UpdRep w' [] [] ubs ∧ (ubs.flatten ++ rbs.flatten).Nodup ∧ ∀ b ∈ ubs.flatten ++ rbs.flatten, ¬ Am.Good w [] b := fun hb hc ha => by
    unfold g6_0 g6_1
    rw [if_pos ha, ha]
    refine hc.mono ?_
    rintro e w' ⟨v, row, bl, rfl, h⟩
    have hn := (arun_ok (bad6 x0 x3) x1 (x2 - x1).toNat).2.2
    obtain ⟨q1, q2, q3⟩ := hb
    have q4 : ((x2 - x1).toNat : Int) = x2 - x1 := Int.toNat_of_nonneg (by omega)
    exact fin w' v row bl _ 0 h (by unfold maxLen; omega) (mem6 _ _ _ q1 (by omega)) (z 0 (by decide) (by decide))
  have evil : ∀ c : Int, 0 < c → c ≤ 2 → ask6 x0 x1 x2 x3 = c → (Calls Tryd.prog 6 #[v, .int .i64 x1, .int .i64 x2, .int .i64 x3] w fun e w' => e = .returned (.tuple #[.slice none 0 0, .int .i64 c]) ∧ Below w.heap.size w w') →
      Calls Tryd.prog 6 #[v, .int .i64 x1, .int .i64 x2, .int .i64 x3] w fun e w' => ∃ rs ubs rbs, e = .returned (packV rs) ∧ Kept [] w w' ∧ ResRep w' [⟨.sl (.sl (.int .i64)), g6_0 x0 x1 x2 x3⟩, ⟨.int .i64, g6_1 x0 x1 x2 x3⟩] rs rbs ∧ UpdRep w' [] [] ubs ∧ (ubs.flatten ++ rbs.flatten).Nodup ∧ ∀ b ∈ ubs.flatten ++ rbs.flatten, ¬ Am.Good w [] b := fun c h0 h2 ha hc => by
    unfold g6_0 g6_1
    rw [if_neg (by omega), ha]
    refine hc.mono ?_
    rintro e w' ⟨rfl, hb⟩
    exact fin w' _ [] [] [] c (nil6 hb) (by simp) (fun p hp => by cases hp) (z c (by omega) h2)
  have hk := staffed_le x0 (g20_0 x3 1 12)
  have hk2 := staffed_le x0 false
  unfold ask6 at good evil
  cases hsp : g19_0 x1 x2 with
  | true =>
    rw [hsp, if_pos rfl] at good evil
    have hb := span_of hsp
    by_cases hs : g18_0 x0 (g20_0 x3 1 12) = 0
    · exact good (by omega) (walk6 w x0 v x1 x2 x3 hgo ho i1 i2 i3 hsp hs hl (by omega)) hs
    · exact evil _ (by omega) (by omega) rfl (bad16 w x0 v x1 x2 x3 _ hgo ho i1 i2 i3 hsp rfl (by simpa using hs) (by simpa using hs))
  | false =>
    rw [hsp, if_neg (by decide)] at evil
    have hs : g18_0 x0 false ≠ 0 := fun h => by
      have := (staffed_of h).2
      cases this
    exact evil _ (by omega) (by omega) rfl (bad26 w x0 v x1 x2 x3 _ hgo ho i1 i2 i3 hsp rfl (by simpa using hs) (by simpa using hs))

theorem con6 : Contract Tryd.prog 6 S6 := by
  refine upf6 rfl rfl (fun x => ⟨_, _, rfl, rfl⟩) ?_
  rintro w ⟨x0, x1, x2, x3, u⟩ vs bss hgo hp ⟨v, s, b, bs, rfl, rfl, ⟨rfl, ho⟩, v1, s1, b1, bs1, rfl, rfl, ⟨rfl, h1⟩, v2, s2, b2, bs2, rfl, rfl, ⟨rfl, h2⟩, v3, s3, b3, bs3, rfl, rfl, ⟨rfl, h3⟩, rfl, rfl⟩ hnd
  obtain ⟨rfl, i1⟩ : v1 = .int .i64 x1 ∧ InR .i64 x1 := h1
  obtain ⟨rfl, i2⟩ : v2 = .int .i64 x2 ∧ InR .i64 x2 := h2
  obtain ⟨rfl, i3⟩ : v3 = .int .i64 x3 ∧ InR .i64 x3 := h3
  exact core6 w x0 v x1 x2 x3 hgo ho hp i1 i2 i3

end Go.Proofs.YtobhoepkgkmddaaDoor

/- Function 52 (spec.l01Small): its runs between cut points. Written by a program of this repo (gen). -/
set_option linter.unusedVariables false
set_option linter.unusedSimpArgs false
set_option maxRecDepth 100000
namespace Go.Proofs.YtobhoepkgkmddaaDoor
open Go Go.Am Go.Proofs
noncomputable section
def ext52 : Ext := []
theorem ext52Ok : ExtOk Tryd.prog ext52 := trivial

noncomputable def b52 : Code := bodyOf Tryd.f52
theorem hb52 : Tryd.f52.body = some b52 := by kernel_rfl
def sig52 : List AT := [AT.v (Ty.int IntKind.u8)]
def tys52 : List Ty := [Ty.bool]
def kds52 : List RK := []
def oks52 : List AT := owns sig52
def P52 (x0 : Int) : Prop := True
def g52_0 (x0 : Int) : Bool := (if (Decidable.decide (x0 ≥ 97)) = true then Decidable.decide (x0 ≤ 122) else Bool.false)
theorem at52 (x0 : Int) (h : P52 x0) (K : Ctx) (q : Nat → Value) : AtV Tryd.prog 52 (PostR kds52 oks52 [⟨Ty.bool, g52_0 x0⟩] [] [] q K) 9 K q [] [.code b52] (entE 0 0 sig52 (x0, ())) (entL sig52 (x0, ())) := by
  unfold P52 at h
  unfold g52_0
  by_cases b0 : (Decidable.decide (x0 ≥ 97)) = true
  · try simp only [if_pos b0] at h ⊢
    exact AtV.ret Tryd.func52 tabOk ext52Ok mixed false [] tys52 [true] (a1 b0 trivial) (by kernel_rfl)
  · try simp only [if_neg b0] at h ⊢
    replace b0 := Bool.eq_false_iff.2 b0
    exact AtV.ret Tryd.func52 tabOk ext52Ok mixed false [] tys52 [false] (a1 b0 trivial) (by kernel_rfl)

def S52 : Am.Spec := { sig := sig52, pre := fun ⟨x0, _⟩ => P52 x0, res := fun ⟨x0, _⟩ => [⟨Ty.bool, g52_0 x0⟩], kds := kds52 }
theorem con52 : Contract Tryd.prog 52 S52 := contract_of Tryd.func52 hb52 (Nat.le_of_ble_eq_true (by kernel_rfl)) (fun ⟨x0, _⟩ h _ K q => at52 x0 h K q)


end
end Go.Proofs.YtobhoepkgkmddaaDoor

/- Function 53 (spec.l01Digit): its runs between cut points. Written by a program of this repo (gen). -/
set_option linter.unusedVariables false
set_option linter.unusedSimpArgs false
set_option maxRecDepth 100000
namespace Go.Proofs.YtobhoepkgkmddaaDoor
open Go Go.Am Go.Proofs
noncomputable section
def ext53 : Ext := []
theorem ext53Ok : ExtOk Tryd.prog ext53 := trivial

noncomputable def b53 : Code := bodyOf Tryd.f53
theorem hb53 : Tryd.f53.body = some b53 := by kernel_rfl
def sig53 : List AT := [AT.v (Ty.int IntKind.u8)]
def tys53 : List Ty := [Ty.bool]
def kds53 : List RK := []
def oks53 : List AT := owns sig53
def P53 (x0 : Int) : Prop := True
def g53_0 (x0 : Int) : Bool := (if (Decidable.decide (x0 ≥ 48)) = true then Decidable.decide (x0 ≤ 57) else Bool.false)
theorem at53 (x0 : Int) (h : P53 x0) (K : Ctx) (q : Nat → Value) : AtV Tryd.prog 53 (PostR kds53 oks53 [⟨Ty.bool, g53_0 x0⟩] [] [] q K) 9 K q [] [.code b53] (entE 0 0 sig53 (x0, ())) (entL sig53 (x0, ())) := by
  unfold P53 at h
  unfold g53_0
  by_cases b0 : (Decidable.decide (x0 ≥ 48)) = true
  · try simp only [if_pos b0] at h ⊢
    exact AtV.ret Tryd.func53 tabOk ext53Ok mixed false [] tys53 [true] (a1 b0 trivial) (by kernel_rfl)
  · try simp only [if_neg b0] at h ⊢
    replace b0 := Bool.eq_false_iff.2 b0
    exact AtV.ret Tryd.func53 tabOk ext53Ok mixed false [] tys53 [false] (a1 b0 trivial) (by kernel_rfl)

def S53 : Am.Spec := { sig := sig53, pre := fun ⟨x0, _⟩ => P53 x0, res := fun ⟨x0, _⟩ => [⟨Ty.bool, g53_0 x0⟩], kds := kds53 }
theorem con53 : Contract Tryd.prog 53 S53 := contract_of Tryd.func53 hb53 (Nat.le_of_ble_eq_true (by kernel_rfl)) (fun ⟨x0, _⟩ h _ K q => at53 x0 h K q)


end
end Go.Proofs.YtobhoepkgkmddaaDoor

/- Function 45 (spec.l01Name): its runs between cut points. Written by a program of this repo (gen). -/
set_option linter.unusedVariables false
set_option linter.unusedSimpArgs false
set_option maxRecDepth 100000
namespace Go.Proofs.YtobhoepkgkmddaaDoor
open Go Go.Am Go.Proofs
noncomputable section
def ext45 : Ext := [(52, S52), (53, S53)]
theorem call45_52 : Callable Tryd.prog 52 := ⟨Tryd.f52, Tryd.func52, by kernel_rfl, by kernel_rfl⟩
theorem call45_53 : Callable Tryd.prog 53 := ⟨Tryd.f53, Tryd.func53, by kernel_rfl, by kernel_rfl⟩
theorem ext45Ok : ExtOk Tryd.prog ext45 := ⟨⟨call45_52, con52⟩, ⟨call45_53, con53⟩, trivial⟩

noncomputable def b45 : Code := bodyOf Tryd.f45
theorem hb45 : Tryd.f45.body = some b45 := by kernel_rfl
def sig45 : List AT := [AT.v (Ty.str)]
def tys45 : List Ty := [Ty.bool]
def kds45 : List RK := []
def oks45 : List AT := owns sig45
def E45_4 (v3 : Int) (x0 : ByteArray) : Env := [(0, PV.a (Atom.val (Value.string x0))), (3, PV.a (Atom.val (Value.int IntKind.i64 v3)))]
def L45_4 (v3 : Int) (x0 : ByteArray) : Heap := []
mutual
def R45 : Nat → ByteArray → List Dyn → Prop
  | 0, _, _ => False
  | n + 1, x0, ds => (if (ByteArray.toList x0 == ByteArray.toList (ByteArray.mk #[])) = true then (ds = [Dyn.mk Ty.bool Bool.false]) else (if (Decidable.decide ((↑(ByteArray.size x0) : Int) > 10)) = true then (ds = [Dyn.mk Ty.bool Bool.false]) else ((0 < (↑(ByteArray.size x0) : Int)) ∧ (if (!g52_0 (↑(UInt8.toNat (List.getD (Array.toList (ByteArray.data x0)) 0 0)) : Int)) = true then (ds = [Dyn.mk Ty.bool Bool.false]) else (R45_4 n (0) (x0) ds)))))
def R45_4 : Nat → Int → ByteArray → List Dyn → Prop
  | 0, _, _, _ => False
  | n + 1, v3, x0, ds => (if (Decidable.decide (v3 < (↑(ByteArray.size x0) : Int))) = true then ((0 ≤ v3) ∧ (v3 < (↑(ByteArray.size x0) : Int)) ∧ (if (!g52_0 (↑(UInt8.toNat (List.getD (Array.toList (ByteArray.data x0)) (Int.toNat v3) 0)) : Int)) = true then ((0 ≤ v3) ∧ (v3 < (↑(ByteArray.size x0) : Int)) ∧ (if (!g53_0 (↑(UInt8.toNat (List.getD (Array.toList (ByteArray.data x0)) (Int.toNat v3) 0)) : Int)) = true then (ds = [Dyn.mk Ty.bool Bool.false]) else ((InR IntKind.i64 (v3 + 1)) ∧ (R45_4 n (v3 + 1) (x0) ds)))) else ((InR IntKind.i64 (v3 + 1)) ∧ (R45_4 n (v3 + 1) (x0) ds)))) else (ds = [Dyn.mk Ty.bool Bool.true]))
end
theorem snd45 : ∀ n, (∀ (x0 : ByteArray) ds, R45 n x0 ds → ∀ K q, AtV Tryd.prog 45 (PostR kds45 oks45 ds [] [] q K) 35 K q [] [.code b45] (entE 0 0 sig45 (x0, ())) (entL sig45 (x0, ()))) ∧ (∀ (v3 : Int) (x0 : ByteArray) ds, R45_4 n v3 x0 ds → ∀ K q, AtV Tryd.prog 45 (PostR kds45 oks45 ds [] [] q K) 35 K q [] (cutAt b45 4) (E45_4 v3 x0) (L45_4 v3 x0)) := by
  intro n
  induction n with
  | zero => exact ⟨fun _ _ h => by simp only [R45] at h, fun _ _ _ h => by simp only [R45_4] at h⟩
  | succ n ih =>
  obtain ⟨ih, ih4⟩ := ih
  refine ⟨?_, ?_⟩
  · intro x0 ds h K q
    rw [R45] at h
    by_cases b0 : (ByteArray.toList x0 == ByteArray.toList (ByteArray.mk #[])) = true
    · rw [if_pos b0] at h
      subst h
      exact AtV.ret Tryd.func45 tabOk ext45Ok mixed false [] tys45 [true, true, true] (a1 b0 (a1 (rfl : Bool.true = Bool.true) (a1 (rfl : Bool.true = Bool.true) trivial))) (by kernel_rfl)
    · rw [if_neg b0] at h
      replace b0 := Bool.eq_false_iff.2 b0
      by_cases b1 : (Decidable.decide ((↑(ByteArray.size x0) : Int) > 10)) = true
      · rw [if_pos b1] at h
        subst h
        exact AtV.ret Tryd.func45 tabOk ext45Ok mixed false [] tys45 [false, true, true] (a1 b0 (a1 b1 (a1 (rfl : Bool.true = Bool.true) trivial))) (by kernel_rfl)
      · rw [if_neg b1] at h
        replace b1 := Bool.eq_false_iff.2 b1
        obtain ⟨s0, h⟩ := h
        by_cases b2 : (!g52_0 (↑(UInt8.toNat (List.getD (Array.toList (ByteArray.data x0)) 0 0)) : Int)) = true
        · rw [if_pos b2] at h
          subst h
          exact AtV.ret Tryd.func45 tabOk ext45Ok mixed false [] tys45 [false, false, true] (a1 b0 (a1 b1 (a1 ((by decide) : (0 : Int) ≤ (0 : Int)) (a1 s0 (a1 trivial (a1 b2 trivial)))))) (by kernel_rfl)
        · rw [if_neg b2] at h
          replace b2 := Bool.eq_false_iff.2 b2
          exact AtV.go tabOk ext45Ok mixed false [] [] [0, 3] [] [false, false, false] (a1 b0 (a1 b1 (a1 ((by decide) : (0 : Int) ≤ (0 : Int)) (a1 s0 (a1 trivial (a1 b2 trivial)))))) (ih4 _ _ _ h K q) (by kernel_rfl)

  · intro v3 x0 ds h K q
    rw [R45_4] at h
    by_cases b0 : (Decidable.decide (v3 < (↑(ByteArray.size x0) : Int))) = true
    · rw [if_pos b0] at h
      obtain ⟨s0, s1, h⟩ := h
      by_cases b1 : (!g52_0 (↑(UInt8.toNat (List.getD (Array.toList (ByteArray.data x0)) (Int.toNat v3) 0)) : Int)) = true
      · rw [if_pos b1] at h
        obtain ⟨s2, s3, h⟩ := h
        by_cases b2 : (!g53_0 (↑(UInt8.toNat (List.getD (Array.toList (ByteArray.data x0)) (Int.toNat v3) 0)) : Int)) = true
        · rw [if_pos b2] at h
          subst h
          exact AtV.ret Tryd.func45 tabOk ext45Ok mixed false [] tys45 [true, true, true] (a1 b0 (a1 s0 (a1 s1 (a1 trivial (a1 b1 (a1 s2 (a1 s3 (a1 trivial (a1 b2 trivial))))))))) (by kernel_rfl)
        · rw [if_neg b2] at h
          replace b2 := Bool.eq_false_iff.2 b2
          obtain ⟨s4, h⟩ := h
          exact AtV.go tabOk ext45Ok mixed false [] [] [0, 3] [] [true, true, false] (a1 b0 (a1 s0 (a1 s1 (a1 trivial (a1 b1 (a1 s2 (a1 s3 (a1 trivial (a1 b2 (a1 s4 trivial)))))))))) (ih4 _ _ _ h K q) (by kernel_rfl)
      · rw [if_neg b1] at h
        replace b1 := Bool.eq_false_iff.2 b1
        obtain ⟨s2, h⟩ := h
        exact AtV.go tabOk ext45Ok mixed false [] [] [0, 3] [] [true, false, false] (a1 b0 (a1 s0 (a1 s1 (a1 trivial (a1 b1 (a1 (rfl : Bool.false = Bool.false) (a1 s2 trivial))))))) (ih4 _ _ _ h K q) (by kernel_rfl)
    · rw [if_neg b0] at h
      replace b0 := Bool.eq_false_iff.2 b0
      subst h
      exact AtV.ret Tryd.func45 tabOk ext45Ok mixed false [] tys45 [false] (a1 b0 trivial) (by kernel_rfl)



def g45_0 (x0 : ByteArray) : Bool := decide (1 ≤ x0.size) && decide (x0.size ≤ 10) && g52_0 ((bytesOf x0).getD 0 0) && (bytesOf x0).all fun b => g52_0 b || g53_0 b
def P45 (x0 : ByteArray) : Prop := True

theorem top45 (x0 : ByteArray) (hw : Wf .str x0) : R45 (x0.size + 1 + 1) x0 [⟨.bool, g45_0 x0⟩] := by
  have hl := bytesOf_length x0
  rw [R45]
  by_cases h0 : x0 = ByteArray.mk #[]
  · rw [if_pos ((bytes_eq _ _).2 h0)]
    subst h0
    rfl
  · rw [if_neg (fun h => h0 ((bytes_eq _ _).1 h))]
    have hs : 1 ≤ x0.size := by
      rcases Nat.lt_or_ge 0 x0.size with h | h
      · exact h
      · exact absurd (bytesOf_inj (s := x0) (t := ByteArray.mk #[]) (List.eq_nil_of_length_eq_zero (by rw [hl]; omega))) h0
    by_cases h1 : (x0.size : Int) > 10
    · rw [if_pos (by simpa using h1)]
      have : ¬ x0.size ≤ 10 := by omega
      simp [g45_0, this]
    · rw [if_neg (by simpa using h1)]
      refine ⟨by omega, ?_⟩
      rw [byte_get]
      cases h2 : g52_0 ((bytesOf x0).getD 0 0) with
      | false =>
        rw [if_pos (by simp)]
        simp [g45_0, h2, -List.getD_eq_getElem?_getD]
      | true =>
        rw [if_neg (by simp)]
        have key := loop_test (bytesOf x0) 0 (fun b => g52_0 b || g53_0 b) [(⟨.bool, false⟩ : Dyn)] [⟨.bool, true⟩] (fun n i ds => R45_4 n i x0 ds) (fun n => ?_) (fun n i hi hok ds hr => ?_) (fun n i hi hok => ?_)
        · rw [hl] at key
          have e : g45_0 x0 = (bytesOf x0).all fun b => g52_0 b || g53_0 b := by
            have : x0.size ≤ 10 := by omega
            unfold g45_0
            simp only [hs, this, decide_true, Bool.true_and, h2]
          rw [e]
          cases h : (bytesOf x0).all fun b => g52_0 b || g53_0 b with
          | true => rw [if_pos h] at key; exact key
          | false => rw [if_neg (by rw [h]; simp)] at key; exact key
        · show R45_4 (n + 1) ((bytesOf x0).length : Int) x0 _
          rw [R45_4, hl, if_neg (by simp)]
        · rw [R45_4, if_pos (by simp; omega)]
          simp only [Int.toNat_natCast, byte_get]
          generalize (bytesOf x0).getD i 0 = c at *
          refine ⟨by omega, by omega, ?_⟩
          have hu := inR_up (xs := bytesOf x0) (by rw [hl]; exact hw) hi
          cases h3 : g52_0 c with
          | true => rw [if_neg (by simp)]; exact ⟨hu, hr⟩
          | false =>
            rw [if_pos (by simp)]
            rw [h3, Bool.false_or] at hok
            refine ⟨by omega, by omega, ?_⟩
            rw [if_neg (by rw [hok]; simp)]
            exact ⟨hu, hr⟩
        · simp only [Bool.or_eq_false_iff] at hok
          rw [R45_4, if_pos (by simp; omega)]
          simp only [Int.toNat_natCast, byte_get]
          refine ⟨by omega, by omega, ?_⟩
          rw [if_pos (by rw [hok.1]; rfl)]
          refine ⟨by omega, by omega, ?_⟩
          rw [if_pos (by rw [hok.2]; rfl)] <;> trivial

def S45 : Am.Spec := { sig := sig45, pre := fun ⟨x0, _⟩ => P45 x0, res := fun ⟨x0, _⟩ => [⟨Ty.bool, g45_0 x0⟩] }
theorem con45 : Contract Tryd.prog 45 S45 := contract_of Tryd.func45 hb45 (Nat.le_of_ble_eq_true (by kernel_rfl)) (fun ⟨x0, _⟩ h hwf K q =>
  (snd45 _).1 x0 _ (top45 x0 hwf.1) K q)

end
end Go.Proofs.YtobhoepkgkmddaaDoor

/- Function 29 (spec.l00In): its runs between cut points. Written by a program of this repo (gen). -/
set_option linter.unusedVariables false
set_option linter.unusedSimpArgs false
set_option maxRecDepth 100000
namespace Go.Proofs.YtobhoepkgkmddaaDoor
open Go Go.Am Go.Proofs
noncomputable section
def ext29 : Ext := []
theorem ext29Ok : ExtOk Tryd.prog ext29 := trivial

noncomputable def b29 : Code := bodyOf Tryd.f29
theorem hb29 : Tryd.f29.body = some b29 := by kernel_rfl
def sig29 : List AT := [AT.v (Ty.int IntKind.i64), AT.v (Ty.int IntKind.i64), AT.v (Ty.int IntKind.i64)]
def tys29 : List Ty := [Ty.bool]
def kds29 : List RK := []
def oks29 : List AT := owns sig29
def P29 (x0 : Int) (x1 : Int) (x2 : Int) : Prop := True
def g29_0 (x0 : Int) (x1 : Int) (x2 : Int) : Bool := (if (Decidable.decide (x0 ≥ x1)) = true then Decidable.decide (x0 ≤ x2) else Bool.false)
theorem at29 (x0 : Int) (x1 : Int) (x2 : Int) (h : P29 x0 x1 x2) (K : Ctx) (q : Nat → Value) : AtV Tryd.prog 29 (PostR kds29 oks29 [⟨Ty.bool, g29_0 x0 x1 x2⟩] [] [] q K) 15 K q [] [.code b29] (entE 0 0 sig29 (x0, x1, x2, ())) (entL sig29 (x0, x1, x2, ())) := by
  unfold P29 at h
  unfold g29_0
  by_cases b0 : (Decidable.decide (x0 ≥ x1)) = true
  · try simp only [if_pos b0] at h ⊢
    exact AtV.ret Tryd.func29 tabOk ext29Ok mixed false [] tys29 [true] (a1 b0 trivial) (by kernel_rfl)
  · try simp only [if_neg b0] at h ⊢
    replace b0 := Bool.eq_false_iff.2 b0
    exact AtV.ret Tryd.func29 tabOk ext29Ok mixed false [] tys29 [false] (a1 b0 trivial) (by kernel_rfl)

def S29 : Am.Spec := { sig := sig29, pre := fun ⟨x0, x1, x2, _⟩ => P29 x0 x1 x2, res := fun ⟨x0, x1, x2, _⟩ => [⟨Ty.bool, g29_0 x0 x1 x2⟩], kds := kds29 }
theorem con29 : Contract Tryd.prog 29 S29 := contract_of Tryd.func29 hb29 (Nat.le_of_ble_eq_true (by kernel_rfl)) (fun ⟨x0, x1, x2, _⟩ h _ K q => at29 x0 x1 x2 h K q)


end
end Go.Proofs.YtobhoepkgkmddaaDoor

/- Function 24 (spec.l14Minute): its runs between cut points. Written by a program of this repo (gen). -/
set_option linter.unusedVariables false
set_option linter.unusedSimpArgs false
set_option maxRecDepth 100000
namespace Go.Proofs.YtobhoepkgkmddaaDoor
open Go Go.Am Go.Proofs
noncomputable section
def ext24 : Ext := [(29, S29)]
theorem call24_29 : Callable Tryd.prog 29 := ⟨Tryd.f29, Tryd.func29, by kernel_rfl, by kernel_rfl⟩
theorem ext24Ok : ExtOk Tryd.prog ext24 := ⟨⟨call24_29, con29⟩, trivial⟩

noncomputable def b24 : Code := bodyOf Tryd.f24
theorem hb24 : Tryd.f24.body = some b24 := by kernel_rfl
def sig24 : List AT := [AT.v (Ty.int IntKind.i64)]
def tys24 : List Ty := [Ty.bool]
def kds24 : List RK := []
def oks24 : List AT := owns sig24
def P24 (x0 : Int) : Prop := True
def g24_0 (x0 : Int) : Bool := g29_0 x0 0 1440
theorem at24 (x0 : Int) (h : P24 x0) (K : Ctx) (q : Nat → Value) : AtV Tryd.prog 24 (PostR kds24 oks24 [⟨Ty.bool, g24_0 x0⟩] [] [] q K) 5 K q [] [.code b24] (entE 0 0 sig24 (x0, ())) (entL sig24 (x0, ())) := by
  unfold P24 at h
  unfold g24_0
  exact AtV.ret Tryd.func24 tabOk ext24Ok mixed false [] tys24 [] (a1 trivial trivial) (by kernel_rfl)

def S24 : Am.Spec := { sig := sig24, pre := fun ⟨x0, _⟩ => P24 x0, res := fun ⟨x0, _⟩ => [⟨Ty.bool, g24_0 x0⟩], kds := kds24 }
theorem con24 : Contract Tryd.prog 24 S24 := contract_of Tryd.func24 hb24 (Nat.le_of_ble_eq_true (by kernel_rfl)) (fun ⟨x0, _⟩ h _ K q => at24 x0 h K q)


end
end Go.Proofs.YtobhoepkgkmddaaDoor

/- Function 38 (spec.l14Worker): its runs between cut points. Written by a program of this repo (gen). -/
set_option linter.unusedVariables false
set_option linter.unusedSimpArgs false
set_option maxRecDepth 100000
namespace Go.Proofs.YtobhoepkgkmddaaDoor
open Go Go.Am Go.Proofs
noncomputable section
def ext38 : Ext := [(45, S45), (24, S24)]
theorem call38_45 : Callable Tryd.prog 45 := ⟨Tryd.f45, Tryd.func45, by kernel_rfl, by kernel_rfl⟩
theorem call38_24 : Callable Tryd.prog 24 := ⟨Tryd.f24, Tryd.func24, by kernel_rfl, by kernel_rfl⟩
theorem ext38Ok : ExtOk Tryd.prog ext38 := ⟨⟨call38_45, con45⟩, ⟨call38_24, con24⟩, trivial⟩

noncomputable def b38 : Code := bodyOf Tryd.f38
theorem hb38 : Tryd.f38.body = some b38 := by kernel_rfl
def sig38 : List AT := [AT.p (Ty.cons Ty.str (Ty.cons (Ty.int IntKind.i64) (Ty.cons (Ty.int IntKind.i64) Ty.unit)))]
def tys38 : List Ty := [Ty.bool]
def kds38 : List RK := []
def oks38 : List AT := owns sig38
def P38 (x0 : ByteArray × Int × Int × Unit) : Prop := True
def g38_0 (x0 : ByteArray × Int × Int × Unit) : Bool := (if (g45_0 (Prod.fst x0)) = true then (if (g24_0 (Prod.fst (Prod.snd x0))) = true then (if (g24_0 (Prod.fst (Prod.snd (Prod.snd x0)))) = true then Decidable.decide (Prod.fst (Prod.snd x0) < Prod.fst (Prod.snd (Prod.snd x0))) else Bool.false) else Bool.false) else Bool.false)
theorem at38 (x0 : ByteArray × Int × Int × Unit) (h : P38 x0) (K : Ctx) (q : Nat → Value) : AtV Tryd.prog 38 (PostR kds38 oks38 [⟨Ty.bool, g38_0 x0⟩] [] [] q K) 33 K q [] [.code b38] (entE 0 0 sig38 (x0, ())) (entL sig38 (x0, ())) := by
  unfold P38 at h
  unfold g38_0
  by_cases b0 : (g45_0 (Prod.fst x0)) = true
  · try simp only [if_pos b0] at h ⊢
    by_cases b1 : (g24_0 (Prod.fst (Prod.snd x0))) = true
    · try simp only [if_pos b1] at h ⊢
      by_cases b2 : (g24_0 (Prod.fst (Prod.snd (Prod.snd x0)))) = true
      · try simp only [if_pos b2] at h ⊢
        exact AtV.ret Tryd.func38 tabOk ext38Ok mixed false [] tys38 [true, true, true] (a1 trivial (a1 b0 (a1 trivial (a1 b1 (a1 trivial (a1 b2 trivial)))))) (by kernel_rfl)
      · try simp only [if_neg b2] at h ⊢
        replace b2 := Bool.eq_false_iff.2 b2
        exact AtV.ret Tryd.func38 tabOk ext38Ok mixed false [] tys38 [true, true, false] (a1 trivial (a1 b0 (a1 trivial (a1 b1 (a1 trivial (a1 b2 trivial)))))) (by kernel_rfl)
    · try simp only [if_neg b1] at h ⊢
      replace b1 := Bool.eq_false_iff.2 b1
      exact AtV.ret Tryd.func38 tabOk ext38Ok mixed false [] tys38 [true, false, false] (a1 trivial (a1 b0 (a1 trivial (a1 b1 (a1 (rfl : Bool.false = Bool.false) trivial))))) (by kernel_rfl)
  · try simp only [if_neg b0] at h ⊢
    replace b0 := Bool.eq_false_iff.2 b0
    exact AtV.ret Tryd.func38 tabOk ext38Ok mixed false [] tys38 [false, false, false] (a1 trivial (a1 b0 (a1 (rfl : Bool.false = Bool.false) (a1 (rfl : Bool.false = Bool.false) trivial)))) (by kernel_rfl)

def S38 : Am.Spec := { sig := sig38, pre := fun ⟨x0, _⟩ => P38 x0, res := fun ⟨x0, _⟩ => [⟨Ty.bool, g38_0 x0⟩], kds := kds38 }
theorem con38 : Contract Tryd.prog 38 S38 := contract_of Tryd.func38 hb38 (Nat.le_of_ble_eq_true (by kernel_rfl)) (fun ⟨x0, _⟩ h _ K q => at38 x0 h K q)


end
end Go.Proofs.YtobhoepkgkmddaaDoor

/- Function 23 (spec.l14Workers): its runs between cut points. Written by a program of this repo (gen). -/
set_option linter.unusedVariables false
set_option linter.unusedSimpArgs false
set_option maxRecDepth 100000
namespace Go.Proofs.YtobhoepkgkmddaaDoor
open Go Go.Am Go.Proofs
noncomputable section
def ext23 : Ext := [(38, S38)]
theorem call23_38 : Callable Tryd.prog 38 := ⟨Tryd.f38, Tryd.func38, by kernel_rfl, by kernel_rfl⟩
theorem ext23Ok : ExtOk Tryd.prog ext23 := ⟨⟨call23_38, con38⟩, trivial⟩

noncomputable def b23 : Code := bodyOf Tryd.f23
theorem hb23 : Tryd.f23.body = some b23 := by kernel_rfl
def sig23 : List AT := [AT.v (Ty.sl (Ty.cons Ty.str (Ty.cons (Ty.int IntKind.i64) (Ty.cons (Ty.int IntKind.i64) Ty.unit))))]
def tys23 : List Ty := [Ty.bool]
def kds23 : List RK := []
def oks23 : List AT := owns sig23
def E23_2 (v3 : Int) (x0 : List (ByteArray × Int × Int × Unit)) : Env := [(0, PV.a (Atom.sl (Ty.cons Ty.str (Ty.cons (Ty.int IntKind.i64) (Ty.cons (Ty.int IntKind.i64) Ty.unit))) x0)), (3, PV.a (Atom.val (Value.int IntKind.i64 v3)))]
def L23_2 (v3 : Int) (x0 : List (ByteArray × Int × Int × Unit)) : Heap := []
mutual
def R23 : Nat → List (ByteArray × Int × Int × Unit) → List Dyn → Prop
  | 0, _, _ => False
  | n + 1, x0, ds => (R23_2 n (0) (x0) ds)
def R23_2 : Nat → Int → List (ByteArray × Int × Int × Unit) → List Dyn → Prop
  | 0, _, _, _ => False
  | n + 1, v3, x0, ds => (if (Decidable.decide (v3 < (↑(List.length x0) : Int))) = true then ((0 ≤ v3) ∧ (v3 < (↑(List.length x0) : Int)) ∧ (if (!g38_0 (List.getD x0 (Int.toNat v3) (ByteArray.empty, 0, 0, ()))) = true then (ds = [Dyn.mk Ty.bool Bool.false]) else (if (Decidable.decide (v3 > 0)) = true then ((InR IntKind.i64 (v3 - 1)) ∧ ((0 ≤ v3 - 1) ∧ (v3 - 1 < (↑(List.length x0) : Int)) ∧ ((0 ≤ v3) ∧ (v3 < (↑(List.length x0) : Int)) ∧ (if (!Op.bytesLess (ByteArray.toList (Prod.fst (List.getD x0 (Int.toNat (v3 - 1)) (ByteArray.empty, 0, 0, ())))) (ByteArray.toList (Prod.fst (List.getD x0 (Int.toNat v3) (ByteArray.empty, 0, 0, ()))))) = true then (ds = [Dyn.mk Ty.bool Bool.false]) else ((InR IntKind.i64 (v3 + 1)) ∧ (R23_2 n (v3 + 1) (x0) ds)))))) else ((InR IntKind.i64 (v3 + 1)) ∧ (R23_2 n (v3 + 1) (x0) ds))))) else (ds = [Dyn.mk Ty.bool (Decidable.decide ((↑(List.length x0) : Int) ≤ 12))]))
end
theorem snd23 : ∀ n, (∀ (x0 : List (ByteArray × Int × Int × Unit)) ds, R23 n x0 ds → ∀ K q, AtV Tryd.prog 23 (PostR kds23 oks23 ds [] [] q K) 36 K q [] [.code b23] (entE 0 0 sig23 (x0, ())) (entL sig23 (x0, ()))) ∧ (∀ (v3 : Int) (x0 : List (ByteArray × Int × Int × Unit)) ds, R23_2 n v3 x0 ds → ∀ K q, AtV Tryd.prog 23 (PostR kds23 oks23 ds [] [] q K) 36 K q [] (cutAt b23 2) (E23_2 v3 x0) (L23_2 v3 x0)) := by
  intro n
  induction n with
  | zero => exact ⟨fun _ _ h => by simp only [R23] at h, fun _ _ _ h => by simp only [R23_2] at h⟩
  | succ n ih =>
  obtain ⟨ih, ih2⟩ := ih
  refine ⟨?_, ?_⟩
  · intro x0 ds h K q
    rw [R23] at h
    exact AtV.go tabOk ext23Ok mixed false [] [] [0, 3] [] [] trivial (ih2 _ _ _ h K q) (by kernel_rfl)

  · intro v3 x0 ds h K q
    rw [R23_2] at h
    by_cases b0 : (Decidable.decide (v3 < (↑(List.length x0) : Int))) = true
    · rw [if_pos b0] at h
      obtain ⟨s0, s1, h⟩ := h
      by_cases b1 : (!g38_0 (List.getD x0 (Int.toNat v3) (ByteArray.empty, 0, 0, ()))) = true
      · rw [if_pos b1] at h
        subst h
        exact AtV.ret Tryd.func23 tabOk ext23Ok mixed false [] tys23 [true, true, true] (a1 b0 (a1 s0 (a1 s1 (a1 trivial (a1 b1 (a1 (rfl : Bool.true = Bool.true) trivial)))))) (by kernel_rfl)
      · rw [if_neg b1] at h
        replace b1 := Bool.eq_false_iff.2 b1
        by_cases b2 : (Decidable.decide (v3 > 0)) = true
        · rw [if_pos b2] at h
          obtain ⟨s2, h⟩ := h
          obtain ⟨s3, s4, h⟩ := h
          obtain ⟨s5, s6, h⟩ := h
          by_cases b3 : (!Op.bytesLess (ByteArray.toList (Prod.fst (List.getD x0 (Int.toNat (v3 - 1)) (ByteArray.empty, 0, 0, ())))) (ByteArray.toList (Prod.fst (List.getD x0 (Int.toNat v3) (ByteArray.empty, 0, 0, ()))))) = true
          · rw [if_pos b3] at h
            subst h
            exact AtV.ret Tryd.func23 tabOk ext23Ok mixed false [] tys23 [true, false, true, true] (a1 b0 (a1 s0 (a1 s1 (a1 trivial (a1 b1 (a1 b2 (a1 s2 (a1 s3 (a1 s4 (a1 s5 (a1 s6 (a1 b3 trivial)))))))))))) (by kernel_rfl)
          · rw [if_neg b3] at h
            replace b3 := Bool.eq_false_iff.2 b3
            obtain ⟨s7, h⟩ := h
            exact AtV.go tabOk ext23Ok mixed false [] [] [0, 3] [] [true, false, true, false] (a1 b0 (a1 s0 (a1 s1 (a1 trivial (a1 b1 (a1 b2 (a1 s2 (a1 s3 (a1 s4 (a1 s5 (a1 s6 (a1 b3 (a1 s7 trivial))))))))))))) (ih2 _ _ _ h K q) (by kernel_rfl)
        · rw [if_neg b2] at h
          replace b2 := Bool.eq_false_iff.2 b2
          obtain ⟨s2, h⟩ := h
          exact AtV.go tabOk ext23Ok mixed false [] [] [0, 3] [] [true, false, false, false] (a1 b0 (a1 s0 (a1 s1 (a1 trivial (a1 b1 (a1 b2 (a1 (rfl : Bool.false = Bool.false) (a1 s2 trivial)))))))) (ih2 _ _ _ h K q) (by kernel_rfl)
    · rw [if_neg b0] at h
      replace b0 := Bool.eq_false_iff.2 b0
      subst h
      exact AtV.ret Tryd.func23 tabOk ext23Ok mixed false [] tys23 [false] (a1 b0 trivial) (by kernel_rfl)



def ok23 (x0 : List (ByteArray × Int × Int × Unit)) (i : Nat) (x : (ByteArray × Int × Int × Unit)) : Bool :=
  g38_0 x && (i == 0 || Op.bytesLess (ByteArray.toList (x0.getD (i - 1) (ByteArray.empty, (0 : Int), (0 : Int), ())).1) (ByteArray.toList x.1))
def g23_0 (x0 : List (ByteArray × Int × Int × Unit)) : Bool := allI (ok23 x0) 0 x0 && decide (x0.length ≤ 12)
def P23 (x0 : List (ByteArray × Int × Int × Unit)) : Prop := True

theorem step23 (n i : Nat) (x0 : List (ByteArray × Int × Int × Unit)) (hm : x0.length ≤ maxLen) (hi : i < x0.length) (ds : List Dyn) :
    (if ok23 x0 i (x0.getD i (ByteArray.empty, (0 : Int), (0 : Int), ())) = true then R23_2 n ((i : Int) + 1) x0 ds else ds = [⟨.bool, false⟩]) → R23_2 (n + 1) (i : Int) x0 ds := by
  intro h
  have hu := inR_up hm hi
  rw [R23_2, if_pos (by simp; omega)]
  refine ⟨by omega, by omega, ?_⟩
  simp only [Int.toNat_natCast]
  unfold ok23 at h
  cases h1 : g38_0 (x0.getD i (ByteArray.empty, (0 : Int), (0 : Int), ())) with
  | false =>
    rw [h1] at h
    rw [if_pos (by rfl)]
    simpa using h
  | true =>
    rw [h1] at h
    rw [if_neg (by simp)]
    by_cases h0 : (i : Int) > 0
    · rw [if_pos (by simpa using h0)]
      have hi0 : (i == 0) = false := by simp; omega
      have e : ((i : Int) - 1).toNat = i - 1 := by omega
      refine ⟨by rw [i64_iff]; have : maxLen ≤ 9223372036854775807 := by decide
                 omega, by omega, by omega, by omega, by omega, ?_⟩
      rw [e]
      by_cases h2 : Op.bytesLess (ByteArray.toList (x0.getD (i - 1) (ByteArray.empty, (0 : Int), (0 : Int), ())).1) (ByteArray.toList (x0.getD i (ByteArray.empty, (0 : Int), (0 : Int), ())).1) = true
      · rw [h2, hi0] at h
        rw [if_neg (by rw [h2]; simp)]
        exact ⟨hu, by simpa using h⟩
      · have h2 := Bool.eq_false_iff.2 h2
        rw [h2, hi0] at h
        rw [if_pos (by rw [h2]; rfl)]
        simpa using h
    · rw [if_neg (by simpa using h0)]
      have hi0 : (i == 0) = true := by simp; omega
      rw [hi0] at h
      exact ⟨hu, by simpa using h⟩

theorem top23 (x0 : List (ByteArray × Int × Int × Unit)) (hw : x0.length ≤ maxLen) : R23 (x0.length + 1 + 1) x0 [⟨.bool, g23_0 x0⟩] := by
  rw [R23]
  have key := loop_testI x0 (ByteArray.empty, (0 : Int), (0 : Int), ()) (ok23 x0) [(⟨.bool, false⟩ : Dyn)] [⟨.bool, decide (x0.length ≤ 12)⟩] (fun n i ds => R23_2 n i x0 ds) (fun n => ?_) (fun n i hi hok ds hr => ?_) (fun n i hi hok => ?_)
  · unfold g23_0
    cases h : allI (ok23 x0) 0 x0 with
    | true => rw [if_pos h] at key; simpa using key
    | false => rw [if_neg (by rw [h]; simp)] at key; simpa using key
  · rw [R23_2, if_neg (by simp)]
    have hc : decide ((x0.length : Int) ≤ 12) = decide (x0.length ≤ 12) := by
      congr 1; exact propext ⟨fun h => by omega, fun h => by omega⟩
    rw [hc]
  · exact step23 n i x0 hw hi ds (by rw [if_pos hok]; exact hr)
  · exact step23 n i x0 hw hi _ (by rw [if_neg (by rw [hok]; simp)])

def S23 : Am.Spec := { sig := sig23, pre := fun ⟨x0, _⟩ => P23 x0, res := fun ⟨x0, _⟩ => [⟨Ty.bool, g23_0 x0⟩] }
theorem con23 : Contract Tryd.prog 23 S23 := contract_of Tryd.func23 hb23 (Nat.le_of_ble_eq_true (by kernel_rfl)) (fun ⟨x0, _⟩ h hwf K q =>
  (snd23 _).1 x0 _ (top23 x0 hwf.1.1) K q)

end
end Go.Proofs.YtobhoepkgkmddaaDoor

/- Function 25 (spec.l14At): its runs between cut points. Written by a program of this repo (gen). -/
set_option linter.unusedVariables false
set_option linter.unusedSimpArgs false
set_option maxRecDepth 100000
namespace Go.Proofs.YtobhoepkgkmddaaDoor
open Go Go.Am Go.Proofs
noncomputable section
def ext25 : Ext := []
theorem ext25Ok : ExtOk Tryd.prog ext25 := trivial

noncomputable def b25 : Code := bodyOf Tryd.f25
theorem hb25 : Tryd.f25.body = some b25 := by kernel_rfl
def sig25 : List AT := [AT.v (Ty.sl (Ty.cons Ty.str (Ty.cons (Ty.int IntKind.i64) (Ty.cons (Ty.int IntKind.i64) Ty.unit)))), AT.v (Ty.int IntKind.i64)]
def tys25 : List Ty := [Ty.sl (Ty.int IntKind.i64)]
def kds25 : List RK := []
def oks25 : List AT := owns sig25
def E25_3 (v6 : Int) (h0 : List Int) (x0 : List (ByteArray × Int × Int × Unit)) (x1 : Int) : Env := [(0, PV.a (Atom.sl (Ty.cons Ty.str (Ty.cons (Ty.int IntKind.i64) (Ty.cons (Ty.int IntKind.i64) Ty.unit))) x0)), (1, PV.a (Atom.val (Value.int IntKind.i64 x1))), (5, PV.a (Atom.osl 0 Option.none)), (6, PV.a (Atom.val (Value.int IntKind.i64 v6)))]
def L25_3 (v6 : Int) (h0 : List Int) (x0 : List (ByteArray × Int × Int × Unit)) (x1 : Int) : Heap := [Option.some (Arr.mk (Ty.int IntKind.i64) h0 Bool.false Option.none Option.none)]
mutual
def R25 : Nat → List (ByteArray × Int × Int × Unit) → Int → List Dyn → Prop
  | 0, _, _, _ => False
  | n + 1, x0, x1, ds => (R25_3 n (0) ([]) (x0) (x1) ds)
def R25_3 : Nat → Int → List Int → List (ByteArray × Int × Int × Unit) → Int → List Dyn → Prop
  | 0, _, _, _, _, _ => False
  | n + 1, v6, h0, x0, x1, ds => (if (Decidable.decide (v6 < (↑(List.length x0) : Int))) = true then ((0 ≤ v6) ∧ (v6 < (↑(List.length x0) : Int)) ∧ (if (Decidable.decide (Prod.fst (Prod.snd (List.getD x0 (Int.toNat v6) (ByteArray.empty, 0, 0, ()))) ≤ x1)) = true then ((0 ≤ v6) ∧ (v6 < (↑(List.length x0) : Int)) ∧ (if (Decidable.decide (Prod.fst (Prod.snd (Prod.snd (List.getD x0 (Int.toNat v6) (ByteArray.empty, 0, 0, ())))) > x1)) = true then (((List.length h0 + 1) * 8 ≤ 140737488355328) ∧ ((InR IntKind.i64 (v6 + 1)) ∧ (R25_3 n (v6 + 1) (h0 ++ [v6]) (x0) (x1) ds))) else ((InR IntKind.i64 (v6 + 1)) ∧ (R25_3 n (v6 + 1) (h0) (x0) (x1) ds)))) else ((InR IntKind.i64 (v6 + 1)) ∧ (R25_3 n (v6 + 1) (h0) (x0) (x1) ds)))) else (ds = [Dyn.mk (Ty.sl (Ty.int IntKind.i64)) h0]))
end
theorem snd25 : ∀ n, (∀ (x0 : List (ByteArray × Int × Int × Unit)) (x1 : Int) ds, R25 n x0 x1 ds → ∀ K q, AtV Tryd.prog 25 (PostR kds25 oks25 ds [] [] q K) 35 K q [] [.code b25] (entE 0 0 sig25 (x0, x1, ())) (entL sig25 (x0, x1, ()))) ∧ (∀ (v6 : Int) (h0 : List Int) (x0 : List (ByteArray × Int × Int × Unit)) (x1 : Int) ds, R25_3 n v6 h0 x0 x1 ds → ∀ K q, AtV Tryd.prog 25 (PostR kds25 oks25 ds [] [] q K) 35 K q [] (cutAt b25 3) (E25_3 v6 h0 x0 x1) (L25_3 v6 h0 x0 x1)) := by
  intro n
  induction n with
  | zero => exact ⟨fun _ _ _ h => by simp only [R25] at h, fun _ _ _ _ _ h => by simp only [R25_3] at h⟩
  | succ n ih =>
  obtain ⟨ih, ih3⟩ := ih
  refine ⟨?_, ?_⟩
  · intro x0 x1 ds h K q
    rw [R25] at h
    exact AtV.go tabOk ext25Ok mixed false [] [] [0, 1, 5, 6] [0] [] trivial (ih3 _ _ _ _ _ h K q) (by kernel_rfl)

  · intro v6 h0 x0 x1 ds h K q
    rw [R25_3] at h
    by_cases b0 : (Decidable.decide (v6 < (↑(List.length x0) : Int))) = true
    · rw [if_pos b0] at h
      obtain ⟨s0, s1, h⟩ := h
      by_cases b1 : (Decidable.decide (Prod.fst (Prod.snd (List.getD x0 (Int.toNat v6) (ByteArray.empty, 0, 0, ()))) ≤ x1)) = true
      · rw [if_pos b1] at h
        obtain ⟨s2, s3, h⟩ := h
        by_cases b2 : (Decidable.decide (Prod.fst (Prod.snd (Prod.snd (List.getD x0 (Int.toNat v6) (ByteArray.empty, 0, 0, ())))) > x1)) = true
        · rw [if_pos b2] at h
          obtain ⟨s4, h⟩ := h
          obtain ⟨s5, h⟩ := h
          exact AtV.go tabOk ext25Ok mixed false [] [] [0, 1, 5, 6] [0] [true, true, true] (a1 b0 (a1 s0 (a1 s1 (a1 b1 (a1 s2 (a1 s3 (a1 b2 (a1 s4 (a1 s5 trivial))))))))) (ih3 _ _ _ _ _ h K q) (by kernel_rfl)
        · rw [if_neg b2] at h
          replace b2 := Bool.eq_false_iff.2 b2
          obtain ⟨s4, h⟩ := h
          exact AtV.go tabOk ext25Ok mixed false [] [] [0, 1, 5, 6] [0] [true, true, false] (a1 b0 (a1 s0 (a1 s1 (a1 b1 (a1 s2 (a1 s3 (a1 b2 (a1 s4 trivial)))))))) (ih3 _ _ _ _ _ h K q) (by kernel_rfl)
      · rw [if_neg b1] at h
        replace b1 := Bool.eq_false_iff.2 b1
        obtain ⟨s2, h⟩ := h
        exact AtV.go tabOk ext25Ok mixed false [] [] [0, 1, 5, 6] [0] [true, false, false] (a1 b0 (a1 s0 (a1 s1 (a1 b1 (a1 (rfl : Bool.false = Bool.false) (a1 s2 trivial)))))) (ih3 _ _ _ _ _ h K q) (by kernel_rfl)
    · rw [if_neg b0] at h
      replace b0 := Bool.eq_false_iff.2 b0
      subst h
      exact AtV.ret Tryd.func25 tabOk ext25Ok mixed false [] tys25 [false] (a1 b0 trivial) (by kernel_rfl)



def g25_0 (x0 : List (ByteArray × Int × Int × Unit)) (x1 : Int) : List Int := atL x1 0 x0
def P25 (x0 : List (ByteArray × Int × Int × Unit)) (x1 : Int) : Prop := x0.length ≤ 1000

theorem loop25 (x0 : List (ByteArray × Int × Int × Unit)) (x1 : Int) (hl : x0.length ≤ 1000) : ∀ (k i : Nat) (h : List Int), i + k = x0.length → h.length ≤ i → R25_3 (k + 1) (i : Int) h x0 x1 [⟨.sl (.int .i64), h ++ atL x1 i (x0.drop i)⟩] := by
  intro k
  induction k with
  | zero =>
    intro i h hi hh
    rw [R25_3, if_neg (by simp only [decide_eq_true_eq]; omega), List.drop_eq_nil_of_le (by omega)]
    simp [atL]
  | succ k ih =>
    intro i h hi hh
    have hlt : i < x0.length := by omega
    have ii : InR .i64 ((i : Int) + 1) := by rw [i64_iff]; omega
    have hn : ((i : Int) + 1) = ((i + 1 : Nat) : Int) := by omega
    rw [R25_3, if_pos (by simp only [decide_eq_true_eq]; omega)]
    refine ⟨by omega, by omega, ?_⟩
    simp only [Int.toNat_natCast, getD_lt x0 i _ hlt]
    rw [List.drop_eq_getElem_cons hlt]
    unfold atL
    by_cases h1 : x0[i].2.1 ≤ x1
    · rw [if_pos (by simpa using h1)]
      refine ⟨by omega, by omega, ?_⟩
      by_cases h2 : x1 < x0[i].2.2.1
      · rw [if_pos (by simpa using h2), if_pos ⟨h1, h2⟩]
        refine ⟨by omega, ii, ?_⟩
        have := ih (i + 1) (h ++ [(i : Int)]) (by omega) (by simp; omega)
        rw [hn]
        simpa using this
      · rw [if_neg (by simpa using h2), if_neg (fun hh => h2 hh.2)]
        refine ⟨ii, ?_⟩
        rw [hn]
        exact ih (i + 1) h (by omega) (by omega)
    · rw [if_neg (by simpa using h1), if_neg (fun hh => h1 hh.1)]
      refine ⟨ii, ?_⟩
      rw [hn]
      exact ih (i + 1) h (by omega) (by omega)

theorem top25 (x0 : List (ByteArray × Int × Int × Unit)) (x1 : Int) (hl : x0.length ≤ 1000) : R25 (x0.length + 1 + 1) x0 x1 [⟨.sl (.int .i64), g25_0 x0 x1⟩] := by
  rw [R25]
  exact loop25 x0 x1 hl x0.length 0 [] (by omega) (by simp)

def S25 : Am.Spec := { sig := sig25, pre := fun ⟨x0, x1, _⟩ => P25 x0 x1, res := fun ⟨x0, x1, _⟩ => [⟨.sl (.int .i64), g25_0 x0 x1⟩] }
theorem con25 : Contract Tryd.prog 25 S25 := contract_of Tryd.func25 hb25 (Nat.le_of_ble_eq_true (by kernel_rfl)) (fun ⟨x0, x1, _⟩ h hwf K q =>
  (snd25 _).1 x0 x1 _ (top25 x0 x1 h) K q)

end
end Go.Proofs.YtobhoepkgkmddaaDoor

/- Function 7 (spec.WorkersAt): its runs between cut points. Written by a program of this repo (gen). -/
set_option linter.unusedVariables false
set_option linter.unusedSimpArgs false
set_option maxRecDepth 100000
namespace Go.Proofs.YtobhoepkgkmddaaDoor
open Go Go.Am Go.Proofs
noncomputable section
def ext7 : Ext := [(23, S23), (24, S24), (25, S25)]
theorem call7_23 : Callable Tryd.prog 23 := ⟨Tryd.f23, Tryd.func23, by kernel_rfl, by kernel_rfl⟩
theorem call7_24 : Callable Tryd.prog 24 := ⟨Tryd.f24, Tryd.func24, by kernel_rfl, by kernel_rfl⟩
theorem call7_25 : Callable Tryd.prog 25 := ⟨Tryd.f25, Tryd.func25, by kernel_rfl, by kernel_rfl⟩
theorem ext7Ok : ExtOk Tryd.prog ext7 := ⟨⟨call7_23, con23⟩, ⟨call7_24, con24⟩, ⟨call7_25, con25⟩, trivial⟩

noncomputable def b7 : Code := bodyOf Tryd.f7
theorem hb7 : Tryd.f7.body = some b7 := by kernel_rfl
def sig7 : List AT := [AT.v (Ty.sl (Ty.cons Ty.str (Ty.cons (Ty.int IntKind.i64) (Ty.cons (Ty.int IntKind.i64) Ty.unit)))), AT.v (Ty.int IntKind.i64)]
def tys7 : List Ty := [Ty.sl (Ty.int IntKind.i64), Ty.int IntKind.i64]
def kds7 : List RK := []
def oks7 : List AT := owns sig7
def P7 (x0 : List (ByteArray × Int × Int × Unit)) (x1 : Int) : Prop := (if (!g23_0 x0) = true then True else (if (!g24_0 x1) = true then True else ((P25 x0 x1) ∧ True)))
def g7_0 (x0 : List (ByteArray × Int × Int × Unit)) (x1 : Int) : List Int := (if (!g23_0 x0) = true then [] else (if (!g24_0 x1) = true then [] else g25_0 x0 x1))
def g7_1 (x0 : List (ByteArray × Int × Int × Unit)) (x1 : Int) : Int := (if (!g23_0 x0) = true then 1 else (if (!g24_0 x1) = true then 2 else 0))
theorem at7 (x0 : List (ByteArray × Int × Int × Unit)) (x1 : Int) (h : P7 x0 x1) (K : Ctx) (q : Nat → Value) : AtV Tryd.prog 7 (PostR kds7 oks7 [⟨Ty.sl (Ty.int IntKind.i64), g7_0 x0 x1⟩, ⟨Ty.int IntKind.i64, g7_1 x0 x1⟩] [] [] q K) 15 K q [] [.code b7] (entE 0 0 sig7 (x0, x1, ())) (entL sig7 (x0, x1, ())) := by
  unfold P7 at h
  unfold g7_0 g7_1
  by_cases b0 : (!g23_0 x0) = true
  · try simp only [if_pos b0] at h ⊢
    exact AtV.ret Tryd.func7 tabOk ext7Ok mixed false [] tys7 [true] (a1 trivial (a1 b0 trivial)) (by kernel_rfl)
  · try simp only [if_neg b0] at h ⊢
    replace b0 := Bool.eq_false_iff.2 b0
    by_cases b1 : (!g24_0 x1) = true
    · try simp only [if_pos b1] at h ⊢
      exact AtV.ret Tryd.func7 tabOk ext7Ok mixed false [] tys7 [false, true] (a1 trivial (a1 b0 (a1 trivial (a1 b1 trivial)))) (by kernel_rfl)
    · try simp only [if_neg b1] at h ⊢
      replace b1 := Bool.eq_false_iff.2 b1
      obtain ⟨s0, h⟩ := h
      exact AtV.ret Tryd.func7 tabOk ext7Ok mixed false [] tys7 [false, false] (a1 trivial (a1 b0 (a1 trivial (a1 b1 (a1 s0 trivial))))) (by kernel_rfl)

def S7 : Am.Spec := { sig := sig7, pre := fun ⟨x0, x1, _⟩ => P7 x0 x1, res := fun ⟨x0, x1, _⟩ => [⟨Ty.sl (Ty.int IntKind.i64), g7_0 x0 x1⟩, ⟨Ty.int IntKind.i64, g7_1 x0 x1⟩], kds := kds7 }
theorem con7 : Contract Tryd.prog 7 S7 := contract_of Tryd.func7 hb7 (Nat.le_of_ble_eq_true (by kernel_rfl)) (fun ⟨x0, x1, _⟩ h _ K q => at7 x0 x1 h K q)


end
end Go.Proofs.YtobhoepkgkmddaaDoor

/- Function 8 (impl.WorkersAt): its runs between cut points. Written by a program of this repo (gen). -/
set_option linter.unusedVariables false
set_option linter.unusedSimpArgs false
set_option maxRecDepth 100000
namespace Go.Proofs.YtobhoepkgkmddaaDoor
open Go Go.Am Go.Proofs
noncomputable section
def ext8 : Ext := [(26, S26), (18, S18), (22, S22)]
theorem call8_26 : Callable Tryd.prog 26 := ⟨Tryd.f26, Tryd.func26, by kernel_rfl, by kernel_rfl⟩
theorem call8_18 : Callable Tryd.prog 18 := ⟨Tryd.f18, Tryd.func18, by kernel_rfl, by kernel_rfl⟩
theorem call8_22 : Callable Tryd.prog 22 := ⟨Tryd.f22, Tryd.func22, by kernel_rfl, by kernel_rfl⟩
theorem ext8Ok : ExtOk Tryd.prog ext8 := ⟨⟨call8_26, con26⟩, ⟨call8_18, con18⟩, ⟨call8_22, con22⟩, trivial⟩

noncomputable def b8 : Code := bodyOf Tryd.f8
theorem hb8 : Tryd.f8.body = some b8 := by kernel_rfl
def sig8 : List AT := [AT.v (Ty.sl (Ty.cons Ty.str (Ty.cons (Ty.int IntKind.i64) (Ty.cons (Ty.int IntKind.i64) Ty.unit)))), AT.v (Ty.int IntKind.i64)]
def tys8 : List Ty := [Ty.sl (Ty.int IntKind.i64), Ty.int IntKind.i64]
def kds8 : List RK := []
def oks8 : List AT := owns sig8
def P8 (x0 : List (ByteArray × Int × Int × Unit)) (x1 : Int) : Prop := (if (g18_0 x0 (g26_0 x1) != 0) = true then True else ((P22 x0 x1) ∧ True))
def g8_0 (x0 : List (ByteArray × Int × Int × Unit)) (x1 : Int) : List Int := (if (g18_0 x0 (g26_0 x1) != 0) = true then [] else g22_0 x0 x1)
def g8_1 (x0 : List (ByteArray × Int × Int × Unit)) (x1 : Int) : Int := (if (g18_0 x0 (g26_0 x1) != 0) = true then g18_0 x0 (g26_0 x1) else 0)
theorem at8 (x0 : List (ByteArray × Int × Int × Unit)) (x1 : Int) (h : P8 x0 x1) (K : Ctx) (q : Nat → Value) : AtV Tryd.prog 8 (PostR kds8 oks8 [⟨Ty.sl (Ty.int IntKind.i64), g8_0 x0 x1⟩, ⟨Ty.int IntKind.i64, g8_1 x0 x1⟩] [] [] q K) 17 K q [] [.code b8] (entE 0 0 sig8 (x0, x1, ())) (entL sig8 (x0, x1, ())) := by
  unfold P8 at h
  unfold g8_0 g8_1
  by_cases b0 : (g18_0 x0 (g26_0 x1) != 0) = true
  · try simp only [if_pos b0] at h ⊢
    exact AtV.ret Tryd.func8 tabOk ext8Ok mixed false [] tys8 [true] (a1 trivial (a1 trivial (a1 b0 trivial))) (by kernel_rfl)
  · try simp only [if_neg b0] at h ⊢
    replace b0 := Bool.eq_false_iff.2 b0
    obtain ⟨s0, h⟩ := h
    exact AtV.ret Tryd.func8 tabOk ext8Ok mixed false [] tys8 [false] (a1 trivial (a1 trivial (a1 b0 (a1 s0 trivial)))) (by kernel_rfl)

def S8 : Am.Spec := { sig := sig8, pre := fun ⟨x0, x1, _⟩ => P8 x0 x1, res := fun ⟨x0, x1, _⟩ => [⟨Ty.sl (Ty.int IntKind.i64), g8_0 x0 x1⟩, ⟨Ty.int IntKind.i64, g8_1 x0 x1⟩], kds := kds8 }
theorem con8 : Contract Tryd.prog 8 S8 := contract_of Tryd.func8 hb8 (Nat.le_of_ble_eq_true (by kernel_rfl)) (fun ⟨x0, x1, _⟩ h _ K q => at8 x0 x1 h K q)


end
end Go.Proofs.YtobhoepkgkmddaaDoor

/- Function 9 (spec.DrawFewestWorkers): its runs between cut points. Written by a program of this repo (gen). -/
set_option linter.unusedVariables false
set_option linter.unusedSimpArgs false
set_option maxRecDepth 100000
namespace Go.Proofs.YtobhoepkgkmddaaDoor
open Go Go.Am Go.Proofs
noncomputable section
def ext9 : Ext := [(14, S14), (15, S15), (16, S16), (27, S27), (17, S17)]
theorem call9_14 : Callable Tryd.prog 14 := ⟨Tryd.f14, Tryd.func14, by kernel_rfl, by kernel_rfl⟩
theorem call9_15 : Callable Tryd.prog 15 := ⟨Tryd.f15, Tryd.func15, by kernel_rfl, by kernel_rfl⟩
theorem call9_16 : Callable Tryd.prog 16 := ⟨Tryd.f16, Tryd.func16, by kernel_rfl, by kernel_rfl⟩
theorem call9_27 : Callable Tryd.prog 27 := ⟨Tryd.f27, Tryd.func27, by kernel_rfl, by kernel_rfl⟩
theorem call9_17 : Callable Tryd.prog 17 := ⟨Tryd.f17, Tryd.func17, by kernel_rfl, by kernel_rfl⟩
theorem ext9Ok : ExtOk Tryd.prog ext9 := ⟨⟨call9_14, con14⟩, ⟨call9_15, con15⟩, ⟨call9_16, con16⟩, ⟨call9_27, con27⟩, ⟨call9_17, con17⟩, trivial⟩

noncomputable def b9 : Code := bodyOf Tryd.f9
theorem hb9 : Tryd.f9.body = some b9 := by kernel_rfl
def sig9 : List AT := [AT.v (Ty.sl (Ty.int IntKind.u8))]
def tys9 : List Ty := [Ty.sl (Ty.cons Ty.str (Ty.cons (Ty.int IntKind.i64) (Ty.cons (Ty.int IntKind.i64) Ty.unit))), Ty.int IntKind.i64, Ty.int IntKind.i64]
def kds9 : List RK := []
def oks9 : List AT := owns sig9
def P9 (x0 : List Int) : Prop := ((P15 (g14_0 x0)) ∧ ((P16 (u15_0 (g14_0 x0))) ∧ (if (Decidable.decide ((↑(List.length (g15_0 (g14_0 x0))) : Int) > 0)) = true then ((P27 (u16_0 (u15_0 (g14_0 x0))) 3) ∧ (if (!g27_0 (u16_0 (u15_0 (g14_0 x0))) 3) = true then ((0 < (↑(List.length (g15_0 (g14_0 x0))) : Int)) ∧ ((P17 (u27_0 (u16_0 (u15_0 (g14_0 x0))) 3) [0, 1, 60, 300, 600, -1]) ∧ ((InR IntKind.i64 (Prod.fst (Prod.snd (List.getD (g15_0 (g14_0 x0)) 0 (ByteArray.empty, 0, 0, ()))) + g17_0 (u27_0 (u16_0 (u15_0 (g14_0 x0))) 3) [0, 1, 60, 300, 600, -1])) ∧ True))) else ((P17 (u27_0 (u16_0 (u15_0 (g14_0 x0))) 3) [0, 1, 60, 300, 600, -1]) ∧ ((InR IntKind.i64 (g16_0 (u15_0 (g14_0 x0)) + g17_0 (u27_0 (u16_0 (u15_0 (g14_0 x0))) 3) [0, 1, 60, 300, 600, -1])) ∧ True)))) else ((P17 (u16_0 (u15_0 (g14_0 x0))) [0, 1, 60, 300, 600, -1]) ∧ ((InR IntKind.i64 (g16_0 (u15_0 (g14_0 x0)) + g17_0 (u16_0 (u15_0 (g14_0 x0))) [0, 1, 60, 300, 600, -1])) ∧ True)))))
def g9_0 (x0 : List Int) : List (ByteArray × Int × Int × Unit) := (if (Decidable.decide ((↑(List.length (g15_0 (g14_0 x0))) : Int) > 0)) = true then (if (!g27_0 (u16_0 (u15_0 (g14_0 x0))) 3) = true then g15_0 (g14_0 x0) else g15_0 (g14_0 x0)) else g15_0 (g14_0 x0))
def g9_1 (x0 : List Int) : Int := (if (Decidable.decide ((↑(List.length (g15_0 (g14_0 x0))) : Int) > 0)) = true then (if (!g27_0 (u16_0 (u15_0 (g14_0 x0))) 3) = true then Prod.fst (Prod.snd (List.getD (g15_0 (g14_0 x0)) 0 (ByteArray.empty, 0, 0, ()))) else g16_0 (u15_0 (g14_0 x0))) else g16_0 (u15_0 (g14_0 x0)))
def g9_2 (x0 : List Int) : Int := (if (Decidable.decide ((↑(List.length (g15_0 (g14_0 x0))) : Int) > 0)) = true then (if (!g27_0 (u16_0 (u15_0 (g14_0 x0))) 3) = true then Prod.fst (Prod.snd (List.getD (g15_0 (g14_0 x0)) 0 (ByteArray.empty, 0, 0, ()))) + g17_0 (u27_0 (u16_0 (u15_0 (g14_0 x0))) 3) [0, 1, 60, 300, 600, -1] else g16_0 (u15_0 (g14_0 x0)) + g17_0 (u27_0 (u16_0 (u15_0 (g14_0 x0))) 3) [0, 1, 60, 300, 600, -1]) else g16_0 (u15_0 (g14_0 x0)) + g17_0 (u16_0 (u15_0 (g14_0 x0))) [0, 1, 60, 300, 600, -1])
theorem at9 (x0 : List Int) (h : P9 x0) (K : Ctx) (q : Nat → Value) : AtV Tryd.prog 9 (PostR kds9 oks9 [⟨Ty.sl (Ty.cons Ty.str (Ty.cons (Ty.int IntKind.i64) (Ty.cons (Ty.int IntKind.i64) Ty.unit))), g9_0 x0⟩, ⟨Ty.int IntKind.i64, g9_1 x0⟩, ⟨Ty.int IntKind.i64, g9_2 x0⟩] [] [] q K) 33 K q [] [.code b9] (entE 0 0 sig9 (x0, ())) (entL sig9 (x0, ())) := by
  unfold P9 at h
  unfold g9_0 g9_1 g9_2
  obtain ⟨s0, h⟩ := h
  obtain ⟨s1, h⟩ := h
  by_cases b0 : (Decidable.decide ((↑(List.length (g15_0 (g14_0 x0))) : Int) > 0)) = true
  · try simp only [if_pos b0] at h ⊢
    obtain ⟨s2, h⟩ := h
    by_cases b1 : (!g27_0 (u16_0 (u15_0 (g14_0 x0))) 3) = true
    · try simp only [if_pos b1] at h ⊢
      obtain ⟨s3, h⟩ := h
      obtain ⟨s4, h⟩ := h
      obtain ⟨s5, h⟩ := h
      exact AtV.ret Tryd.func9 tabOk ext9Ok mixed false [] tys9 [true, true] (a1 trivial (a1 s0 (a1 s1 (a1 b0 (a1 s2 (a1 b1 (a1 ((by decide) : (0 : Int) ≤ (0 : Int)) (a1 s3 (a1 s4 (a1 s5 trivial)))))))))) (by kernel_rfl)
    · try simp only [if_neg b1] at h ⊢
      replace b1 := Bool.eq_false_iff.2 b1
      obtain ⟨s3, h⟩ := h
      obtain ⟨s4, h⟩ := h
      exact AtV.ret Tryd.func9 tabOk ext9Ok mixed false [] tys9 [true, false] (a1 trivial (a1 s0 (a1 s1 (a1 b0 (a1 s2 (a1 b1 (a1 s3 (a1 s4 trivial)))))))) (by kernel_rfl)
  · try simp only [if_neg b0] at h ⊢
    replace b0 := Bool.eq_false_iff.2 b0
    obtain ⟨s2, h⟩ := h
    obtain ⟨s3, h⟩ := h
    exact AtV.ret Tryd.func9 tabOk ext9Ok mixed false [] tys9 [false, false] (a1 trivial (a1 s0 (a1 s1 (a1 b0 (a1 (rfl : Bool.false = Bool.false) (a1 s2 (a1 s3 trivial))))))) (by kernel_rfl)

def S9 : Am.Spec := { sig := sig9, pre := fun ⟨x0, _⟩ => P9 x0, res := fun ⟨x0, _⟩ => [⟨Ty.sl (Ty.cons Ty.str (Ty.cons (Ty.int IntKind.i64) (Ty.cons (Ty.int IntKind.i64) Ty.unit))), g9_0 x0⟩, ⟨Ty.int IntKind.i64, g9_1 x0⟩, ⟨Ty.int IntKind.i64, g9_2 x0⟩], kds := kds9 }
theorem con9 : Contract Tryd.prog 9 S9 := contract_of Tryd.func9 hb9 (Nat.le_of_ble_eq_true (by kernel_rfl)) (fun ⟨x0, _⟩ h _ K q => at9 x0 h K q)


end
end Go.Proofs.YtobhoepkgkmddaaDoor

/- Function 10 (impl.FewestWorkers): its runs between cut points. Written by a program of this repo (gen). -/
set_option linter.unusedVariables false
set_option linter.unusedSimpArgs false
set_option maxRecDepth 100000
namespace Go.Proofs.YtobhoepkgkmddaaDoor
open Go Go.Am Go.Proofs
noncomputable section
def ext10 : Ext := [(19, S19), (18, S18), (22, S22)]
theorem call10_19 : Callable Tryd.prog 19 := ⟨Tryd.f19, Tryd.func19, by kernel_rfl, by kernel_rfl⟩
theorem call10_18 : Callable Tryd.prog 18 := ⟨Tryd.f18, Tryd.func18, by kernel_rfl, by kernel_rfl⟩
theorem call10_22 : Callable Tryd.prog 22 := ⟨Tryd.f22, Tryd.func22, by kernel_rfl, by kernel_rfl⟩
theorem ext10Ok : ExtOk Tryd.prog ext10 := ⟨⟨call10_19, con19⟩, ⟨call10_18, con18⟩, ⟨call10_22, con22⟩, trivial⟩

noncomputable def b10 : Code := bodyOf Tryd.f10
theorem hb10 : Tryd.f10.body = some b10 := by kernel_rfl
def sig10 : List AT := [AT.v (Ty.sl (Ty.cons Ty.str (Ty.cons (Ty.int IntKind.i64) (Ty.cons (Ty.int IntKind.i64) Ty.unit)))), AT.v (Ty.int IntKind.i64), AT.v (Ty.int IntKind.i64)]
def tys10 : List Ty := [Ty.sl (Ty.int IntKind.i64), Ty.int IntKind.i64]
def kds10 : List RK := []
def oks10 : List AT := owns sig10
def E10_6 (h0 : List Int) (x0 : List (ByteArray × Int × Int × Unit)) (x2 : Int) (x1 : Int) : Env := [(0, PV.a (Atom.sl (Ty.cons Ty.str (Ty.cons (Ty.int IntKind.i64) (Ty.cons (Ty.int IntKind.i64) Ty.unit))) x0)), (2, PV.a (Atom.val (Value.int IntKind.i64 x2))), (9, PV.a (Atom.osl 0 Option.none)), (10, PV.a (Atom.val (Value.int IntKind.i64 x1)))]
def L10_6 (h0 : List Int) (x0 : List (ByteArray × Int × Int × Unit)) (x2 : Int) (x1 : Int) : Heap := [Option.some (Arr.mk (Ty.int IntKind.i64) h0 Bool.false Option.none Option.none)]
def E10_9 (v11 : Int) (v30 : Int) (x0 : List (ByteArray × Int × Int × Unit)) (x2 : Int) (x1 : Int) (h0 : List Int) : Env := [(0, PV.a (Atom.sl (Ty.cons Ty.str (Ty.cons (Ty.int IntKind.i64) (Ty.cons (Ty.int IntKind.i64) Ty.unit))) x0)), (2, PV.a (Atom.val (Value.int IntKind.i64 x2))), (9, PV.a (Atom.osl 0 Option.none)), (11, PV.a (Atom.val (Value.int IntKind.i64 v11))), (28, PV.a (Atom.osl 1 Option.none)), (29, PV.a (Atom.val (Value.int IntKind.i64 (↑(List.length (g22_0 x0 x1)) : Int)))), (30, PV.a (Atom.val (Value.int IntKind.i64 v30)))]
def L10_9 (v11 : Int) (v30 : Int) (x0 : List (ByteArray × Int × Int × Unit)) (x2 : Int) (x1 : Int) (h0 : List Int) : Heap := [Option.some (Arr.mk (Ty.int IntKind.i64) h0 Bool.false Option.none Option.none), Option.some (Arr.mk (Ty.int IntKind.i64) (g22_0 x0 x1) Bool.false Option.none Option.none)]
mutual
def R10 : Nat → List (ByteArray × Int × Int × Unit) → Int → Int → List Dyn → Prop
  | 0, _, _, _, _ => False
  | n + 1, x0, x1, x2, ds => (if (g18_0 x0 (g19_0 x1 x2) != 0) = true then (ds = [Dyn.mk (Ty.sl (Ty.int IntKind.i64)) [], Dyn.mk (Ty.int IntKind.i64) (g18_0 x0 (g19_0 x1 x2))]) else (R10_6 n ([]) (x0) (x2) (x1) ds))
def R10_6 : Nat → List Int → List (ByteArray × Int × Int × Unit) → Int → Int → List Dyn → Prop
  | 0, _, _, _, _, _ => False
  | n + 1, h0, x0, x2, x1, ds => (if (Decidable.decide (x1 < x2)) = true then ((P22 x0 x1) ∧ (R10_9 n (-1) (0) (x0) (x2) (x1) (h0) ds)) else (ds = [Dyn.mk (Ty.sl (Ty.int IntKind.i64)) h0, Dyn.mk (Ty.int IntKind.i64) 0]))
def R10_9 : Nat → Int → Int → List (ByteArray × Int × Int × Unit) → Int → Int → List Int → List Dyn → Prop
  | 0, _, _, _, _, _, _, _ => False
  | n + 1, v11, v30, x0, x2, x1, h0, ds => (if (Decidable.decide (v30 < (↑(List.length (g22_0 x0 x1)) : Int))) = true then ((0 ≤ v30) ∧ (v30 < (↑(List.length (g22_0 x0 x1)) : Int)) ∧ (if (Decidable.decide (v11 < 0)) = true then ((InR IntKind.i64 (v30 + 1)) ∧ (R10_9 n (List.getD (g22_0 x0 x1) (Int.toNat v30) 0) (v30 + 1) (x0) (x2) (x1) (h0) ds)) else ((0 ≤ List.getD (g22_0 x0 x1) (Int.toNat v30) 0) ∧ (List.getD (g22_0 x0 x1) (Int.toNat v30) 0 < (↑(List.length x0) : Int)) ∧ ((0 ≤ v11) ∧ (v11 < (↑(List.length x0) : Int)) ∧ (if (Decidable.decide (Prod.fst (Prod.snd (Prod.snd (List.getD x0 (Int.toNat (List.getD (g22_0 x0 x1) (Int.toNat v30) 0)) (ByteArray.empty, 0, 0, ())))) > Prod.fst (Prod.snd (Prod.snd (List.getD x0 (Int.toNat v11) (ByteArray.empty, 0, 0, ())))))) = true then ((InR IntKind.i64 (v30 + 1)) ∧ (R10_9 n (List.getD (g22_0 x0 x1) (Int.toNat v30) 0) (v30 + 1) (x0) (x2) (x1) (h0) ds)) else ((InR IntKind.i64 (v30 + 1)) ∧ (R10_9 n (v11) (v30 + 1) (x0) (x2) (x1) (h0) ds))))))) else (if (Decidable.decide (v11 < 0)) = true then (ds = [Dyn.mk (Ty.sl (Ty.int IntKind.i64)) [], Dyn.mk (Ty.int IntKind.i64) 3]) else (((List.length h0 + 1) * 8 ≤ 140737488355328) ∧ ((0 ≤ v11) ∧ (v11 < (↑(List.length x0) : Int)) ∧ (R10_6 n (h0 ++ [v11]) (x0) (x2) (Prod.fst (Prod.snd (Prod.snd (List.getD x0 (Int.toNat v11) (ByteArray.empty, 0, 0, ()))))) ds)))))
end
theorem snd10 : ∀ n, (∀ (x0 : List (ByteArray × Int × Int × Unit)) (x1 : Int) (x2 : Int) ds, R10 n x0 x1 x2 ds → ∀ K q, AtV Tryd.prog 10 (PostR kds10 oks10 ds [] [] q K) 63 K q [] [.code b10] (entE 0 0 sig10 (x0, x1, x2, ())) (entL sig10 (x0, x1, x2, ()))) ∧ (∀ (h0 : List Int) (x0 : List (ByteArray × Int × Int × Unit)) (x2 : Int) (x1 : Int) ds, R10_6 n h0 x0 x2 x1 ds → ∀ K q, AtV Tryd.prog 10 (PostR kds10 oks10 ds [] [] q K) 63 K q [] (cutAt b10 6) (E10_6 h0 x0 x2 x1) (L10_6 h0 x0 x2 x1)) ∧ (∀ (v11 : Int) (v30 : Int) (x0 : List (ByteArray × Int × Int × Unit)) (x2 : Int) (x1 : Int) (h0 : List Int) ds, R10_9 n v11 v30 x0 x2 x1 h0 ds → ∀ K q, AtV Tryd.prog 10 (PostR kds10 oks10 ds [] [] q K) 63 K q [] (cutAt b10 9) (E10_9 v11 v30 x0 x2 x1 h0) (L10_9 v11 v30 x0 x2 x1 h0)) := by
  intro n
  induction n with
  | zero => exact ⟨fun _ _ _ _ h => by simp only [R10] at h, fun _ _ _ _ _ h => by simp only [R10_6] at h, fun _ _ _ _ _ _ _ h => by simp only [R10_9] at h⟩
  | succ n ih =>
  obtain ⟨ih, ih6, ih9⟩ := ih
  refine ⟨?_, ?_, ?_⟩
  · intro x0 x1 x2 ds h K q
    rw [R10] at h
    by_cases b0 : (g18_0 x0 (g19_0 x1 x2) != 0) = true
    · rw [if_pos b0] at h
      subst h
      exact AtV.ret Tryd.func10 tabOk ext10Ok mixed false [] tys10 [true] (a1 trivial (a1 trivial (a1 b0 trivial))) (by kernel_rfl)
    · rw [if_neg b0] at h
      replace b0 := Bool.eq_false_iff.2 b0
      exact AtV.go tabOk ext10Ok mixed false [] [(9, Ty.int IntKind.i64)] [0, 2, 9, 10] [0] [false] (a1 trivial (a1 trivial (a1 b0 trivial))) (ih6 _ _ _ _ _ h K q) (by kernel_rfl)

  · intro h0 x0 x2 x1 ds h K q
    rw [R10_6] at h
    by_cases b0 : (Decidable.decide (x1 < x2)) = true
    · rw [if_pos b0] at h
      obtain ⟨s0, h⟩ := h
      exact AtV.go tabOk ext10Ok mixed false [] [] [0, 2, 9, 11, 28, 29, 30] [0, 1] [true] (a1 b0 (a1 s0 trivial)) (ih9 _ _ _ _ _ _ _ h K q) (by kernel_rfl)
    · rw [if_neg b0] at h
      replace b0 := Bool.eq_false_iff.2 b0
      subst h
      exact AtV.ret Tryd.func10 tabOk ext10Ok mixed false [] tys10 [false] (a1 b0 trivial) (by kernel_rfl)

  · intro v11 v30 x0 x2 x1 h0 ds h K q
    rw [R10_9] at h
    by_cases b0 : (Decidable.decide (v30 < (↑(List.length (g22_0 x0 x1)) : Int))) = true
    · rw [if_pos b0] at h
      obtain ⟨s0, s1, h⟩ := h
      by_cases b1 : (Decidable.decide (v11 < 0)) = true
      · rw [if_pos b1] at h
        obtain ⟨s2, h⟩ := h
        exact AtV.go tabOk ext10Ok mixed false [] [] [0, 2, 9, 11, 28, 29, 30] [0, 1] [true, true, true] (a1 b0 (a1 s0 (a1 s1 (a1 b1 (a1 (rfl : Bool.true = Bool.true) (a1 s2 trivial)))))) (ih9 _ _ _ _ _ _ _ h K q) (by kernel_rfl)
      · rw [if_neg b1] at h
        replace b1 := Bool.eq_false_iff.2 b1
        obtain ⟨s2, s3, h⟩ := h
        obtain ⟨s4, s5, h⟩ := h
        by_cases b2 : (Decidable.decide (Prod.fst (Prod.snd (Prod.snd (List.getD x0 (Int.toNat (List.getD (g22_0 x0 x1) (Int.toNat v30) 0)) (ByteArray.empty, 0, 0, ())))) > Prod.fst (Prod.snd (Prod.snd (List.getD x0 (Int.toNat v11) (ByteArray.empty, 0, 0, ())))))) = true
        · rw [if_pos b2] at h
          obtain ⟨s6, h⟩ := h
          exact AtV.go tabOk ext10Ok mixed false [] [] [0, 2, 9, 11, 28, 29, 30] [0, 1] [true, false, true] (a1 b0 (a1 s0 (a1 s1 (a1 b1 (a1 s2 (a1 s3 (a1 s4 (a1 s5 (a1 b2 (a1 s6 trivial)))))))))) (ih9 _ _ _ _ _ _ _ h K q) (by kernel_rfl)
        · rw [if_neg b2] at h
          replace b2 := Bool.eq_false_iff.2 b2
          obtain ⟨s6, h⟩ := h
          exact AtV.go tabOk ext10Ok mixed false [] [] [0, 2, 9, 11, 28, 29, 30] [0, 1] [true, false, false] (a1 b0 (a1 s0 (a1 s1 (a1 b1 (a1 s2 (a1 s3 (a1 s4 (a1 s5 (a1 b2 (a1 s6 trivial)))))))))) (ih9 _ _ _ _ _ _ _ h K q) (by kernel_rfl)
    · rw [if_neg b0] at h
      replace b0 := Bool.eq_false_iff.2 b0
      by_cases b1 : (Decidable.decide (v11 < 0)) = true
      · rw [if_pos b1] at h
        subst h
        exact AtV.ret Tryd.func10 tabOk ext10Ok mixed false [] tys10 [false, true] (a1 b0 (a1 b1 trivial)) (by kernel_rfl)
      · rw [if_neg b1] at h
        replace b1 := Bool.eq_false_iff.2 b1
        obtain ⟨s0, h⟩ := h
        obtain ⟨s1, s2, h⟩ := h
        exact AtV.go tabOk ext10Ok mixed false [] [(9, Ty.int IntKind.i64)] [0, 2, 9, 10] [0] [false, false] (a1 b0 (a1 b1 (a1 s0 (a1 s1 (a1 s2 trivial))))) (ih6 _ _ _ _ _ h K q) (by kernel_rfl)



def g10_1 (x0 : List (ByteArray × Int × Int × Unit)) (x1 x2 : Int) : Int := if g18_0 x0 (g19_0 x1 x2) ≠ 0 then g18_0 x0 (g19_0 x1 x2) else match fewL x0 x2 (x2 - x1).toNat x1 with | some _ => 0 | none => 3
def g10_0 (x0 : List (ByteArray × Int × Int × Unit)) (x1 x2 : Int) : List Int := if g18_0 x0 (g19_0 x1 x2) ≠ 0 then [] else (fewL x0 x2 (x2 - x1).toNat x1).getD []
def P10 (x0 : List (ByteArray × Int × Int × Unit)) (x1 x2 : Int) : Prop := x0.length ≤ 1000

theorem inner10 (x0 : List (ByteArray × Int × Int × Unit)) (x2 x1 : Int) (h0 : List Int) (hl : x0.length ≤ 1000) (ds : List Dyn) (hN : ∃ N, R10_9 N (bestL x0 (-1) (atL x1 0 x0)) ((atL x1 0 x0).length : Int) x0 x2 x1 h0 ds) :
    ∀ (k i : Nat) (v : Int), i + k = (atL x1 0 x0).length → (v = -1 ∨ (0 ≤ v ∧ v < (x0.length : Int))) → v = bestL x0 (-1) ((atL x1 0 x0).take i) → ∃ n, R10_9 n v (i : Int) x0 x2 x1 h0 ds := by
  have hll := atL_len x1 x0 0
  have hall : ∀ j ∈ atL x1 0 x0, 0 ≤ j ∧ j < (x0.length : Int) := fun j hj => by
    obtain ⟨q, h1, rfl, _⟩ := atL_mem.1 hj
    omega
  intro k
  induction k with
  | zero =>
    intro i v hi hv hb
    obtain rfl : i = (atL x1 0 x0).length := by omega
    rw [List.take_length] at hb
    rw [hb]
    exact hN
  | succ k ih =>
    intro i v hi hv hb
    have hlt : i < (atL x1 0 x0).length := by omega
    have en : (i : Int) + 1 = ((i + 1 : Nat) : Int) := by omega
    have ii : InR .i64 ((i : Int) + 1) := by rw [i64_iff]; omega
    have hj := hall _ (List.getElem_mem hlt)
    have et : bestL x0 (-1) ((atL x1 0 x0).take (i + 1)) = if v < 0 ∨ (wkAt x0 v.toNat).2.2.1 < (wkAt x0 ((atL x1 0 x0)[i]).toNat).2.2.1 then (atL x1 0 x0)[i] else v := by
      rw [List.take_add_one, List.getElem?_eq_getElem hlt]
      unfold bestL
      rw [List.foldl_append]
      show (if (bestL x0 (-1) ((atL x1 0 x0).take i)) < 0 ∨ (wkAt x0 (bestL x0 (-1) ((atL x1 0 x0).take i)).toNat).2.2.1 < _ then _ else (bestL x0 (-1) ((atL x1 0 x0).take i))) = _
      rw [← hb]
    have eg : g22_0 x0 x1 = atL x1 0 x0 := rfl
    by_cases hv0 : v < 0
    · obtain ⟨n, hn⟩ := ih (i + 1) ((atL x1 0 x0)[i]) (by omega) (.inr hj) (by rw [et, if_pos (.inl hv0)])
      refine ⟨n + 1, ?_⟩
      rw [R10_9, eg, if_pos (by simp only [decide_eq_true_eq]; omega)]
      refine ⟨by omega, by omega, ?_⟩
      simp only [Int.toNat_natCast, getD_lt (atL x1 0 x0) i _ hlt]
      rw [if_pos (by simpa using hv0)]
      refine ⟨ii, ?_⟩
      rw [en]
      exact hn
    · by_cases hc : (wkAt x0 v.toNat).2.2.1 < (wkAt x0 ((atL x1 0 x0)[i]).toNat).2.2.1
      · obtain ⟨n, hn⟩ := ih (i + 1) ((atL x1 0 x0)[i]) (by omega) (.inr hj) (by rw [et, if_pos (.inr hc)])
        refine ⟨n + 1, ?_⟩
        rw [R10_9, eg, if_pos (by simp only [decide_eq_true_eq]; omega)]
        refine ⟨by omega, by omega, ?_⟩
        simp only [Int.toNat_natCast, getD_lt (atL x1 0 x0) i _ hlt]
        rw [if_neg (by simpa using hv0)]
        refine ⟨hj.1, hj.2, by omega, by omega, ?_⟩
        refine Eq.mpr (if_pos (show _ = true from decide_eq_true hc)) ⟨ii, ?_⟩
        rw [en]
        exact hn
      · obtain ⟨n, hn⟩ := ih (i + 1) v (by omega) hv (by rw [et, if_neg (by rintro (h | h) <;> contradiction)])
        refine ⟨n + 1, ?_⟩
        rw [R10_9, eg, if_pos (by simp only [decide_eq_true_eq]; omega)]
        refine ⟨by omega, by omega, ?_⟩
        simp only [Int.toNat_natCast, getD_lt (atL x1 0 x0) i _ hlt]
        rw [if_neg (by simpa using hv0)]
        refine ⟨hj.1, hj.2, by omega, by omega, ?_⟩
        refine Eq.mpr (if_neg (fun h => hc (of_decide_eq_true h))) ⟨ii, ?_⟩
        rw [en]
        exact hn

def res10 (h0 : List Int) : Option (List Int) → List Dyn
  | some l => [⟨.sl (.int .i64), h0 ++ l⟩, ⟨.int .i64, (0 : Int)⟩]
  | none => [⟨.sl (.int .i64), ([] : List Int)⟩, ⟨.int .i64, (3 : Int)⟩]

theorem outer10 (x0 : List (ByteArray × Int × Int × Unit)) (x2 : Int) (hl : x0.length ≤ 1000) : ∀ (k : Nat) (x1 : Int) (h0 : List Int), x2 - x1 ≤ (k : Int) → h0.length + k ≤ 2000 →
    ∃ n, R10_6 n h0 x0 x2 x1 (res10 h0 (fewL x0 x2 k x1)) := by
  intro k
  induction k with
  | zero =>
    intro x1 h0 hk hh
    refine ⟨1, ?_⟩
    rw [R10_6, if_neg (by simp only [decide_eq_true_eq]; omega)]
    show [(⟨.sl (.int .i64), h0 ++ ([] : List Int)⟩ : Dyn), ⟨.int .i64, (0 : Int)⟩] = _
    rw [List.append_nil]
  | succ k ih =>
    intro x1 h0 hk hh
    by_cases hm : x1 < x2
    case neg =>
      refine ⟨1, ?_⟩
      rw [R10_6, if_neg (by simpa using hm)]
      unfold fewL
      rw [if_neg hm]
      show [(⟨.sl (.int .i64), h0 ++ ([] : List Int)⟩ : Dyn), ⟨.int .i64, (0 : Int)⟩] = _
      rw [List.append_nil]
    case pos =>
      have eg : g22_0 x0 x1 = atL x1 0 x0 := rfl
      have key : ∃ N, R10_9 N (bestL x0 (-1) (atL x1 0 x0)) ((atL x1 0 x0).length : Int) x0 x2 x1 h0 (res10 h0 (fewL x0 x2 (k + 1) x1)) := by
        by_cases hb : bestL x0 (-1) (atL x1 0 x0) < 0
        · refine ⟨1, ?_⟩
          rw [R10_9, eg, if_neg (by simp only [decide_eq_true_eq]; omega), if_pos (by simpa using hb)]
          unfold fewL
          rw [if_pos hm, if_pos hb]
          rfl
        · obtain ⟨b, h1, h2, h3, h4, h5⟩ := best_at x0 x1 hb
          obtain ⟨n, hn⟩ := ih (wkAt x0 b).2.2.1 (h0 ++ [(b : Int)]) (by omega) (by rw [List.length_append, List.length_singleton]; omega)
          refine ⟨n + 1, ?_⟩
          rw [R10_9, eg, if_neg (by simp only [decide_eq_true_eq]; omega), if_neg (by simpa using hb)]
          unfold fewL
          rw [if_pos hm, if_neg hb, h1]
          simp only [Int.toNat_natCast]
          refine ⟨by omega, by omega, by omega, ?_⟩
          have e : res10 (h0 ++ [(b : Int)]) (fewL x0 x2 k (wkAt x0 b).2.2.1) = res10 h0 ((fewL x0 x2 k (wkAt x0 b).2.2.1).map ((b : Int) :: ·)) := by
            cases fewL x0 x2 k (wkAt x0 b).2.2.1 with
            | none => rfl
            | some l => simp [res10]
          rw [← e]
          exact hn
      obtain ⟨n, hn⟩ := inner10 x0 x2 x1 h0 hl _ key (atL x1 0 x0).length 0 (-1) (by omega) (.inl rfl) rfl
      refine ⟨n + 1, ?_⟩
      rw [R10_6, if_pos (by simpa using hm)]
      exact ⟨hl, hn⟩

theorem top10 (x0 : List (ByteArray × Int × Int × Unit)) (x1 x2 : Int) (hl : x0.length ≤ 1000) : ∃ n, R10 n x0 x1 x2 [⟨.sl (.int .i64), g10_0 x0 x1 x2⟩, ⟨.int .i64, g10_1 x0 x1 x2⟩] := by
  unfold g10_0 g10_1
  by_cases h : g18_0 x0 (g19_0 x1 x2) = 0
  · rw [if_neg (fun hh => hh h), if_neg (fun hh => hh h)]
    have hs : x2 - x1 ≤ 1440 := by
      have := span_of (staffed_of h).2
      omega
    obtain ⟨n, hn⟩ := outer10 x0 x2 hl (x2 - x1).toNat x1 [] (by omega) (by simp; omega)
    refine ⟨n + 1, ?_⟩
    rw [R10, if_neg (by rw [h]; decide)]
    cases hf : fewL x0 x2 (x2 - x1).toNat x1 with
    | none => rw [hf] at hn; exact hn
    | some l => rw [hf] at hn; exact hn
  · rw [if_pos h, if_pos h]
    refine ⟨1, ?_⟩
    rw [R10, if_pos (by simpa using h)]

def S10 : Am.Spec := { sig := sig10, pre := fun ⟨x0, x1, x2, _⟩ => P10 x0 x1 x2, res := fun ⟨x0, x1, x2, _⟩ => [⟨.sl (.int .i64), g10_0 x0 x1 x2⟩, ⟨.int .i64, g10_1 x0 x1 x2⟩] }
theorem con10 : Contract Tryd.prog 10 S10 := contract_of Tryd.func10 hb10 (Nat.le_of_ble_eq_true (by kernel_rfl)) (fun ⟨x0, x1, x2, _⟩ h hwf K q =>
  let ⟨n, hn⟩ := top10 x0 x1 x2 h
  (snd10 n).1 x0 x1 x2 _ hn K q)

end
end Go.Proofs.YtobhoepkgkmddaaDoor

/- Function 28 (spec.l14Span): its runs between cut points. Written by a program of this repo (gen). -/
set_option linter.unusedVariables false
set_option linter.unusedSimpArgs false
set_option maxRecDepth 100000
namespace Go.Proofs.YtobhoepkgkmddaaDoor
open Go Go.Am Go.Proofs
noncomputable section
def ext28 : Ext := [(23, S23), (24, S24)]
theorem call28_23 : Callable Tryd.prog 23 := ⟨Tryd.f23, Tryd.func23, by kernel_rfl, by kernel_rfl⟩
theorem call28_24 : Callable Tryd.prog 24 := ⟨Tryd.f24, Tryd.func24, by kernel_rfl, by kernel_rfl⟩
theorem ext28Ok : ExtOk Tryd.prog ext28 := ⟨⟨call28_23, con23⟩, ⟨call28_24, con24⟩, trivial⟩

noncomputable def b28 : Code := bodyOf Tryd.f28
theorem hb28 : Tryd.f28.body = some b28 := by kernel_rfl
def sig28 : List AT := [AT.v (Ty.sl (Ty.cons Ty.str (Ty.cons (Ty.int IntKind.i64) (Ty.cons (Ty.int IntKind.i64) Ty.unit)))), AT.v (Ty.int IntKind.i64), AT.v (Ty.int IntKind.i64)]
def tys28 : List Ty := [Ty.int IntKind.i64]
def kds28 : List RK := []
def oks28 : List AT := owns sig28
def P28 (x0 : List (ByteArray × Int × Int × Unit)) (x1 : Int) (x2 : Int) : Prop := True
def g28_0 (x0 : List (ByteArray × Int × Int × Unit)) (x1 : Int) (x2 : Int) : Int := (if (!g23_0 x0) = true then 1 else (if (!g24_0 x1) = true then 2 else (if (!g24_0 x2) = true then 2 else (if (Decidable.decide (x2 < x1)) = true then 2 else 0))))
theorem at28 (x0 : List (ByteArray × Int × Int × Unit)) (x1 : Int) (x2 : Int) (h : P28 x0 x1 x2) (K : Ctx) (q : Nat → Value) : AtV Tryd.prog 28 (PostR kds28 oks28 [⟨Ty.int IntKind.i64, g28_0 x0 x1 x2⟩] [] [] q K) 23 K q [] [.code b28] (entE 0 0 sig28 (x0, x1, x2, ())) (entL sig28 (x0, x1, x2, ())) := by
  unfold P28 at h
  unfold g28_0
  by_cases b0 : (!g23_0 x0) = true
  · try simp only [if_pos b0] at h ⊢
    exact AtV.ret Tryd.func28 tabOk ext28Ok mixed false [] tys28 [true] (a1 trivial (a1 b0 trivial)) (by kernel_rfl)
  · try simp only [if_neg b0] at h ⊢
    replace b0 := Bool.eq_false_iff.2 b0
    by_cases b1 : (!g24_0 x1) = true
    · try simp only [if_pos b1] at h ⊢
      exact AtV.ret Tryd.func28 tabOk ext28Ok mixed false [] tys28 [false, true, true, true] (a1 trivial (a1 b0 (a1 trivial (a1 b1 (a1 (rfl : Bool.true = Bool.true) (a1 (rfl : Bool.true = Bool.true) trivial)))))) (by kernel_rfl)
    · try simp only [if_neg b1] at h ⊢
      replace b1 := Bool.eq_false_iff.2 b1
      by_cases b2 : (!g24_0 x2) = true
      · try simp only [if_pos b2] at h ⊢
        exact AtV.ret Tryd.func28 tabOk ext28Ok mixed false [] tys28 [false, false, true, true] (a1 trivial (a1 b0 (a1 trivial (a1 b1 (a1 trivial (a1 b2 (a1 (rfl : Bool.true = Bool.true) trivial))))))) (by kernel_rfl)
      · try simp only [if_neg b2] at h ⊢
        replace b2 := Bool.eq_false_iff.2 b2
        by_cases b3 : (Decidable.decide (x2 < x1)) = true
        · try simp only [if_pos b3] at h ⊢
          exact AtV.ret Tryd.func28 tabOk ext28Ok mixed false [] tys28 [false, false, false, true] (a1 trivial (a1 b0 (a1 trivial (a1 b1 (a1 trivial (a1 b2 (a1 b3 trivial))))))) (by kernel_rfl)
        · try simp only [if_neg b3] at h ⊢
          replace b3 := Bool.eq_false_iff.2 b3
          exact AtV.ret Tryd.func28 tabOk ext28Ok mixed false [] tys28 [false, false, false, false] (a1 trivial (a1 b0 (a1 trivial (a1 b1 (a1 trivial (a1 b2 (a1 b3 trivial))))))) (by kernel_rfl)

def S28 : Am.Spec := { sig := sig28, pre := fun ⟨x0, x1, x2, _⟩ => P28 x0 x1 x2, res := fun ⟨x0, x1, x2, _⟩ => [⟨Ty.int IntKind.i64, g28_0 x0 x1 x2⟩], kds := kds28 }
theorem con28 : Contract Tryd.prog 28 S28 := contract_of Tryd.func28 hb28 (Nat.le_of_ble_eq_true (by kernel_rfl)) (fun ⟨x0, x1, x2, _⟩ h _ K q => at28 x0 x1 x2 h K q)


end
end Go.Proofs.YtobhoepkgkmddaaDoor

-- facts: alone fewest
/- Function 11 (spec.AloneMinutes): its contract, the times its own; by the kit's walk. -/
set_option linter.unusedVariables false
set_option linter.unusedSimpArgs false
set_option maxRecDepth 100000
namespace Go.Proofs.YtobhoepkgkmddaaDoor
open Go Go.Am Go.Proofs Go.RowKit

structure Pg11 (w wr : World) (v : Value) (xs : List (List Int)) (row : List Value) (bl : List Nat) : Prop where
  own : wr.ownsRow w.heap.size 30 1 v xs.length row
  len : bl.length = xs.length
  inn : ∀ j, j < xs.length → ∃ c, row[j]? = some (.slice (some ⟨bl.getD j 0, 0, none⟩) (xs.getD j []).length c) ∧
    wr.ownsRow w.heap.size 2 1 (.slice (some ⟨bl.getD j 0, 0, none⟩) (xs.getD j []).length c) (xs.getD j []).length (fcs (.int .i64) (xs.getD j []))
  inc : bl.Pairwise (· < ·)
  low : Below w.heap.size w wr

theorem obj11 {w : World} {lo : Nat} {e : TypeId} {v : Value} {n : Nat} {xs : List Value} (h : w.ownsRow lo e 1 v n xs) {g : Nat} (hg : v.ownBlock = some g) : ∃ cur, w.heap[g]? = some (.cells cur e (0, 0)) := by
  rcases h.2 with ⟨rfl, _⟩ | ⟨g', cap, cur, rfl, hb, hh, _⟩
  · cases hg
  · cases hg
    exact ⟨cur, hh⟩

theorem apart11 {w : World} {lo lo' : Nat} {e e' : TypeId} {v v' : Value} {n n' : Nat} {xs xs' : List Value} (h : w.ownsRow lo e 1 v n xs) (h' : w.ownsRow lo' e' 1 v' n' xs') (hne : e ≠ e') : v.ownBlock = none ∨ v.ownBlock ≠ v'.ownBlock := by
  cases hv : v.ownBlock with
  | none => exact .inl rfl
  | some g =>
    refine .inr fun he => ?_
    obtain ⟨c1, h1⟩ := obj11 h hv
    obtain ⟨c2, h2⟩ := obj11 h' he.symm
    rw [h1] at h2
    cases h2
    exact hne rfl

theorem Pg11.keep {w wr w2 : World} {v : Value} {xs : List (List Int)} {row : List Value} {bl : List Nat} (h : Pg11 w wr v xs row bl) (hg : wr.grownBy w2 none) : Pg11 w w2 v xs row bl where
  own := h.own.kept hg (by cases hv : v.ownBlock with | none => exact .inl rfl | some _ => exact .inr (by simp))
  len := h.len
  inn := fun j hj => by
    obtain ⟨c, h1, h2⟩ := h.inn j hj
    exact ⟨c, h1, h2.kept hg (.inr (by simp [Value.ownBlock]))⟩
  inc := h.inc
  low := h.low.grown hg h.low.size (fun q hq => by cases hq)

theorem Pg11.push {w wr w2 : World} {v v2 : Value} {xs : List (List Int)} {row : List Value} {bl : List Nat} {x : List Int} {g c : Nat} (h : Pg11 w wr v xs row bl) (hu : wr.ownsRow w.heap.size 2 1 (.slice (some ⟨g, 0, none⟩) x.length c) x.length (fcs (.int .i64) x))
    (hnew : ∀ q ∈ bl, q < g) (ho : w2.ownsRow w.heap.size 30 1 v2 (xs.length + 1) (row ++ [.slice (some ⟨g, 0, none⟩) x.length c])) (hg : wr.grownBy w2 v.ownBlock) : Pg11 w w2 v2 (xs ++ [x]) (row ++ [.slice (some ⟨g, 0, none⟩) x.length c]) (bl ++ [g]) where
  own := by rw [List.length_append]; exact ho
  len := by simp [h.len]
  inn := fun j hj => by
    have hrl : row.length = xs.length := by have := h.own.1; omega
    have hbl := h.len
    by_cases hjx : j < xs.length
    · obtain ⟨c, h1, h2⟩ := h.inn j hjx
      have e1 : (xs ++ [x]).getD j [] = xs.getD j [] := by rw [List.getD_eq_getElem?_getD, List.getElem?_append_left hjx, List.getD_eq_getElem?_getD]
      have e2 : (bl ++ [g]).getD j 0 = bl.getD j 0 := by rw [List.getD_eq_getElem?_getD, List.getElem?_append_left (by omega), List.getD_eq_getElem?_getD]
      rw [e1, e2]
      refine ⟨c, by rw [List.getElem?_append_left (by omega)]; exact h1, h2.kept hg ?_⟩
      exact apart11 h2 h.own (by decide)
    · have hjn : j = xs.length := by rw [List.length_append] at hj; simp at hj; omega
      subst hjn
      have e1 : (xs ++ [x]).getD xs.length [] = x := by simp [List.getD_eq_getElem?_getD]
      have e2 : (bl ++ [g]).getD xs.length 0 = g := by rw [← hbl]; simp [List.getD_eq_getElem?_getD]
      rw [e1, e2]
      refine ⟨c, by rw [← hrl]; simp, hu.kept hg ?_⟩
      exact apart11 hu h.own (by decide)
  inc := by
    rw [List.pairwise_append]
    exact ⟨h.inc, by simp, fun a ha b hb => by simp at hb; subst hb; exact hnew a ha⟩
  low := h.low.grown hg h.low.size (fun q hq => (h.own.lt q hq).1)

theorem Pg11.done {w wr : World} {v : Value} {xs : List (List Int)} {row : List Value} {bl : List Nat} (h : Pg11 w wr v xs row bl) (hm : xs.length ≤ maxLen) (hw : ∀ x ∈ xs, x.length ≤ maxLen ∧ ∀ y ∈ x, Wf (.int .i64) y) :
    ∃ bs, OwnC wr (.sl (.sl (.int .i64))) xs [v] bs ∧ bs.Nodup ∧ ∀ b ∈ bs, w.heap.size ≤ b := by
  rcases h.own.2 with ⟨rfl, hn⟩ | ⟨g, cap, cur, rfl, hb, hg, hnc, hcm, hcs, htake⟩
  · have : xs = [] := List.eq_nil_of_length_eq_zero hn
    subst this
    exact ⟨[], ⟨_, rfl, by simp, .inl ⟨_, rfl, rfl, rfl⟩⟩, List.nodup_nil, fun b hb => by cases hb⟩
  · have hflat : (bl.map fun q => [q]).flatten = bl := by
      clear hb hg hnc hcm hcs htake
      induction bl with
      | nil => rfl
      | cons a l ih => exact congrArg (a :: ·) (by
          have : ∀ l : List Nat, (l.map fun q => [q]).flatten = l := fun l => by
            induction l with
            | nil => rfl
            | cons a l ih => simp [ih]
          exact this l)
    have hin : ∀ q ∈ bl, w.heap.size ≤ q ∧ q ≠ g := fun q hq => by
      obtain ⟨j, hj, rfl⟩ := List.mem_iff_getElem.1 hq
      have hbl := h.len
      obtain ⟨c, h1, h2⟩ := h.inn j (by omega)
      have e : bl.getD j 0 = bl[j] := getD_lt bl j 0 hj
      rw [e] at h2
      refine ⟨(h2.lt _ rfl).1, fun he => ?_⟩
      rcases apart11 h2 h.own (by decide) with h3 | h3
      · cases h3
      · exact h3 (by show some bl[j] = some g; rw [he])
    refine ⟨g :: bl, ⟨_, rfl, hm, .inr ⟨_, 0, cap, cur, _, (0, 0), bl.map fun q => [q], rfl, hnc, hcm, ?_, hg, ?_, by simpa using h.len, by rw [hflat], fun i x bi hx hbi => ?_⟩⟩, ?_, ?_⟩
    · show 0 + cap * 1 ≤ cur.size
      omega
    · exact ⟨fun j _ hj => by have := hj.2; omega, .inl rfl⟩
    · have hi := (List.getElem?_eq_some_iff.1 hx).1
      obtain ⟨c, h1, h2⟩ := h.inn i hi
      have hxe : xs.getD i [] = x := by rw [List.getD_eq_getElem?_getD, hx]; rfl
      have hbl := h.len
      have hbe : [bl.getD i 0] = bi := by
        rw [List.getElem?_map, List.getElem?_eq_getElem (by omega)] at hbi
        rw [getD_lt bl i 0 (by omega)]
        simpa using hbi
      subst hbe
      rw [hxe] at h1 h2
      refine ⟨[.slice (some ⟨bl.getD i 0, 0, none⟩) x.length c], rfl, fun j c' hj => ?_, _, rfl, ?_⟩
      · have hj0 : j = 0 := by have := (List.getElem?_eq_some_iff.1 hj).1; simp at this; omega
        subst hj0
        simp at hj
        subst hj
        rw [← htake, List.getElem?_take, if_pos (by omega)] at h1
        show cur[0 + i * 1 + 0]? = some _
        rw [show 0 + i * 1 + 0 = i by omega]
        simpa using h1
      · obtain ⟨hxm, hxw⟩ := hw x (List.mem_of_getElem? hx)
        rcases h2.2 with ⟨h', _⟩ | ⟨g', cap', cur', h', hb', hg', hnc', hcm', hcs', htake'⟩
        · simp at h'
        · simp only [Value.slice.injEq, Option.some.injEq, Addr.mk.injEq, and_true, true_and] at h'
          obtain ⟨h3, rfl⟩ := h'
          rw [← h3] at hg'
          refine ⟨hxm, .inr ⟨_, 0, _, cur', _, (0, 0), x.map fun _ => [], rfl, hnc', hcm', ?_, hg', ?_, by simp, ?_, fun k y bj hy hbj => ?_⟩⟩
          · show 0 + _ * 1 ≤ cur'.size
            omega
          · exact ⟨fun j _ hj => by have := hj.2; omega, .inl rfl⟩
          · have : (x.map fun _ => ([] : List Nat)).flatten = [] := by
              clear hx hxm hxw h1 h2 htake' hxe
              induction x with
              | nil => rfl
              | cons a l ih => simp
            rw [this]
          · have hk := (List.getElem?_eq_some_iff.1 hy).1
            have hbj' : bj = [] := by
              rw [List.getElem?_map, hy] at hbj
              simpa using hbj.symm
            subst hbj'
            refine ⟨[.int .i64 y], rfl, fun j c' hj => ?_, rfl, hxw y (List.mem_of_getElem? hy), rfl⟩
            have hj0 : j = 0 := by have := (List.getElem?_eq_some_iff.1 hj).1; simp at this; omega
            subst hj0
            simp at hj
            subst hj
            have e : (fcs (.int .i64) x)[k]? = some (.int .i64 y) := by
              have : ∀ (x : List Int) (k : Nat) (y : Int), x[k]? = some y → (fcs (.int .i64) x)[k]? = some (.int .i64 y) := by
                intro x
                induction x with
                | nil => intro k y h; simp at h
                | cons a l ih =>
                  intro k y h
                  have e : fcs (.int .i64) (a :: l) = .int .i64 a :: fcs (.int .i64) l := rfl
                  rw [e]
                  cases k with
                  | zero => simp at h; subst h; rfl
                  | succ k => simpa using ih k y (by simpa using h)
              exact this x k y hy
            rw [← htake', List.getElem?_take, if_pos (by omega)] at e
            show cur'[0 + k * 1 + 0]? = some _
            rw [show 0 + k * 1 + 0 = k by omega]
            simpa using e
    · exact List.nodup_cons.2 ⟨fun hm' => (hin g hm').2 rfl, h.inc.imp fun hlt => Nat.ne_of_lt hlt⟩
    · intro b hb'
      rcases List.mem_cons.1 hb' with rfl | hb'
      · exact hb
      · exact (hin b hb').1

theorem form11 {w : World} {lo : Nat} {e : TypeId} {v : Value} {n : Nat} {xs : List Value} (h : w.ownsRow lo e 1 v n xs) : ∃ ad cap, v = .slice ad n cap ∧ (0 < n → ∃ G, ad = some ⟨G, 0, none⟩) := by
  rcases h.2 with ⟨rfl, rfl⟩ | ⟨g, cap, cur, rfl, _⟩
  · exact ⟨none, 0, rfl, fun h => absurd h (by decide)⟩
  · exact ⟨_, cap, rfl, fun _ => ⟨g, rfl⟩⟩
theorem gok11 {w W : World} (h : GOk w []) (hb : Below w.heap.size w W) : GOk W [] where
  inv := h.inv.keep fun b _ hs => hb.5 b hs
  size := Nat.le_trans h.size hb.4
  out := h.out

theorem Pg11.lt {w wr : World} {v : Value} {xs : List (List Int)} {row : List Value} {bl : List Nat} (h : Pg11 w wr v xs row bl) : ∀ q ∈ bl, q < wr.heap.size := fun q hq => by
  obtain ⟨j, hj, rfl⟩ := List.mem_iff_getElem.1 hq
  have hbl := h.len
  obtain ⟨c, h1, h2⟩ := h.inn j (by omega)
  have e : bl.getD j 0 = bl[j] := getD_lt bl j 0 hj
  rw [e] at h2
  exact (h2.lt _ rfl).2

theorem gb11 {w W : World} (h : Below w.heap.size w W) : w.grownBy W none := ⟨h.1, h.2, h.3, h.4, fun q hq _ => h.5 q hq⟩

theorem app11 (hinfo : TIOk Tryd.prog 27 (tabGet tab 27)) {wr : World} (base : Nat) {v : Value} {n : Nat} {xs : List Value} (ho : wr.ownsRow base 30 1 v n xs) (b' off' cap' : Nat) {m : Nat} (news : List Value) (hl : news.length = m * 1) (hc : ∀ j u, news[j]? = some u → wr.cell? ⟨b', off' + j, none⟩ = some u) (h1 : ∀ u ∈ news, u.oneCell' = true) (hnm : n + m ≤ 1048576) (hbase : base ≤ wr.heap.size)
    {ops : Array Oper} {rest : List Oper} {o : Oper} {a : Act} {Q : Exit → Act → World → Prop} {s x : Operand} (hgd : o.guard = none) (hop : o.op = .call { callee := .builtin .append, args := #[s, x], argTypes := #[27, 27] }) (hs : a.eval s = v) (hx : a.eval x = .slice (some ⟨b', off', none⟩) m cap')
    (h : ∀ v' w', w'.ownsRow base 30 1 v' (n + m) (xs ++ news) → wr.grownBy w' v.ownBlock → wpList Tryd.prog ops Q rest (a.put o.dst v') w') : wpList Tryd.prog ops Q (o :: rest) a wr := by
  obtain ⟨_, _, ⟨_, ⟨i0, hi0, hz1, z, hz0, hzs, _⟩⟩, hby⟩ := hinfo
  rw [hi0] at hby
  simp only [Option.map_some, Option.some.injEq] at hby
  have hzs' : z.cells.size = 1 := by rw [← Array.length_toList, hzs]; rfl
  have hb16 : i0.bytes = 24 := hby
  refine wpList_append_own _ hgd s x 27 hop base 30 i0 z 1 i0.bytes Tryd.underlying27 hi0 hz0 hz1 rfl hzs' (by decide) v n xs hs ho ⟨b', off', none⟩ m cap' news hx hl (fun j u hj => by rw [Addr.add_lit]; exact hc j u hj) h1 (by unfold maxLen; omega) (by rw [hb16]; omega) hbase (fun v' w' h1 h2 _ => h v' w' h1 h2)

theorem nil11 {w wr : World} (h : Below w.heap.size w wr) : Pg11 w wr (.slice none 0 0) [] [] [] where
  own := World.ownsRow_nil wr _ _ _
  len := rfl
  inn := fun j hj => by simp at hj
  inc := List.Pairwise.nil
  low := h


theorem setSame11 (xs : List (List Int)) (k j : Nat) (y : List Int) (hj : j < xs.length) : (xs.set k y).getD j [] = if k = j then y else xs.getD j [] := by
  rw [List.getD_eq_getElem?_getD, List.getElem?_set]
  by_cases h : k = j
  · rw [if_pos h, if_pos (by omega), if_pos h]
    rfl
  · rw [if_neg h, if_neg h, List.getD_eq_getElem?_getD]

theorem Pg11.bump {w wr : World} {v : Value} {xs : List (List Int)} {row : List Value} {bl : List Nat} {k : Nat} {p q y : Int} (h : Pg11 w wr v xs row bl) (hk : k < xs.length) (hx : xs.getD k [] = [p, q]) :
    Pg11 w (wr.setCell ⟨bl.getD k 0, 1, none⟩ (.int .i64 y)) v (xs.set k [p, y]) row bl := by
  have hbl := h.len
  obtain ⟨c0, i1, i2⟩ := h.inn k hk
  obtain ⟨o2, g2⟩ := i2.stored 1 (.int .i64 y)
  have ne := apart11 h.own i2 (by decide)
  refine ⟨by rw [List.length_set]; exact h.own.kept g2 ne, by rw [List.length_set]; exact hbl, fun j hj => ?_, h.inc, h.low.grown g2 h.low.size (fun r hr => by cases hr; exact (i2.lt _ rfl).1)⟩
  rw [List.length_set] at hj
  rw [setSame11 xs k j _ hj]
  by_cases hjk : k = j
  · subst hjk
    rw [if_pos rfl]
    rw [hx] at i1 o2
    exact ⟨c0, i1, o2⟩
  · rw [if_neg hjk]
    obtain ⟨c, h1, h2⟩ := h.inn j hj
    have hne : bl.getD j 0 ≠ bl.getD k 0 := by
      rw [getD_lt bl j 0 (by omega), getD_lt bl k 0 (by omega)]
      have hp := List.pairwise_iff_getElem.1 h.inc
      rcases Nat.lt_or_gt_of_ne hjk with hlt | hgt
      · exact fun e => Nat.ne_of_lt (hp k j (by omega) (by omega) hlt) e.symm
      · exact Nat.ne_of_lt (hp j k (by omega) (by omega) hgt)
    exact ⟨c, h1, h2.kept g2 (.inr (by show some (bl.getD j 0) ≠ some (bl.getD k 0); simpa using hne))⟩

theorem fx11 {w wr : World} {G cp m : Nat} {ps : List (List Int)} {row : List Value} {bl : List Nat} {p q : Int} (h : Pg11 w wr (.slice (some ⟨G, 0, none⟩) (m + 1) cp) ps row bl) (hm : ps.length = m + 1) (hx : ps.getD m [] = [p, q]) :
    ∃ g c0, wr.cell? ⟨G, m, none⟩ = some (.slice (some ⟨g, 0, none⟩) 2 c0) ∧ wr.cell? ⟨g, 1, none⟩ = some (.int .i64 q) ∧ wr.frozen? ⟨g, 1, none⟩ = false ∧ g < wr.heap.size ∧ G < wr.heap.size ∧
      Aside (∀ y, Pg11 w (wr.setCell ⟨g, 1, none⟩ (.int .i64 y)) (.slice (some ⟨G, 0, none⟩) (m + 1) cp) (ps.set m [p, y]) row bl) := by
  obtain ⟨c0, i1, i2⟩ := h.inn m (by omega)
  have ho : wr.ownsRow w.heap.size 30 1 (.slice (some ⟨G, 0, none⟩) (m + 1) cp) (m + 1) row := by
    have := h.own
    rw [hm] at this
    exact this
  rw [hx] at i1 i2
  refine ⟨bl.getD m 0, c0, ?_, ?_, i2.frozenAt 1, (i2.lt _ rfl).2, (ho.lt _ rfl).2, fun y => h.bump (by omega) hx⟩
  · rw [ho.cellAt m (by omega)]
    exact i1
  · rw [i2.cellAt 1 (by show 1 < 2 * 1; omega)]
    rfl

theorem lit11 (w wr : World) (hb : w.heap.size ≤ wr.heap.size) (x y : Int) (o : Obj) : ((wr.alloc (.cells #[.int .i64 x, .int .i64 y] 2)).alloc o).ownsRow w.heap.size 2 1 (.slice (some ⟨wr.heap.size, 0, none⟩) 2 2) 2 [.int .i64 x, .int .i64 y] :=
  World.ownsRow.alloc (World.ownsRow_lit (base := w.heap.size) wr #[.int .i64 x, .int .i64 y] 2 hb (by decide) rfl) o

theorem nw11 {w wr wq : World} {u v' : Value} {ps : List (List Int)} {row : List Value} {bl : List Nat} (h : Pg11 w wr u ps row bl) (x y : Int) (hown : wq.ownsRow w.heap.size 30 1 v' (ps.length + 1) (row ++ [.slice (some ⟨wr.heap.size, 0, none⟩) 2 2]))
    (hgrow : ((wr.alloc (.cells #[.int .i64 x, .int .i64 y] 2)).alloc (.cells #[.slice (some ⟨wr.heap.size, 0, none⟩) 2 2] 30)).grownBy wq u.ownBlock) :
    Pg11 w wq v' (ps ++ [[x, y]]) (row ++ [.slice (some ⟨wr.heap.size, 0, none⟩) 2 2]) (bl ++ [wr.heap.size]) := by
  have lowB : Below wr.heap.size wr ((wr.alloc (.cells #[.int .i64 x, .int .i64 y] 2)).alloc (.cells #[.slice (some ⟨wr.heap.size, 0, none⟩) 2 2] 30)) := ((Below.refl _ wr).alloc (Nat.le_refl _) _).alloc (by simp) _
  exact (h.keep (gb11 lowB)).push (x := [x, y]) (g := wr.heap.size) (c := 2) (lit11 w wr h.low.size x y _) h.lt hown hgrow

abbrev TW11 := ByteArray × Int × Int × Unit
abbrev WY11 : Ty := .cons .str (.cons (.int .i64) (.cons (.int .i64) .unit))
def Lst11 (W : World) (x0 : List TW11) (v : Value) : Prop := SlAt W (Am.Good W []) (RepC W (Am.Good W []) WY11) 3 x0 v

theorem arg11 {w W : World} {x0 : List TW11} {v : Value} (hb : Below w.heap.size w W) (h : Lst11 w x0 v) : Lst11 W x0 v :=
  SlAt.keep (fun _ _ => RepC.keep (fun q hq => ⟨Nat.lt_of_lt_of_le hq.1 hb.size, hq.2⟩) (fun q hq => hb.block q hq.1)) (fun q hq => ⟨Nat.lt_of_lt_of_le hq.1 hb.size, hq.2⟩) (fun q hq => hb.block q hq.1) h

theorem spn11 (W : World) (x0 : List TW11) (v : Value) (a : Int) (b : Int) (hgo : GOk W []) (ha : Lst11 W x0 v) (ia : InR .i64 a) (ib : InR .i64 b) :
    Calls Tryd.prog 28 #[v, .int .i64 a, .int .i64 b] W fun e w' => e = .returned (.int .i64 (g28_0 x0 a b)) ∧ Below W.heap.size W w' := by
  have h := con28.down rfl W (x0, a, b, ()) [v, .int .i64 a, .int .i64 b] [[], [], []] hgo trivial ⟨_, _, _, _, rfl, rfl, ⟨rfl, ha⟩, ⟨_, _, _, _, rfl, rfl, ⟨rfl, rfl, ia⟩, ⟨_, _, _, _, rfl, rfl, ⟨rfl, rfl, ib⟩, ⟨rfl, rfl⟩⟩⟩⟩ (by simp)
  refine h.mono ?_
  rintro e w' ⟨rs, ubs, rbs, rfl, hk, ⟨u, s, b1, bs1, cs, rfl, rfl, ho, hv, rfl, rfl⟩, _⟩
  obtain ⟨ho, _⟩ := ho
  have hv : cs = [u] := hv
  rw [ho] at hv
  cases hv
  exact ⟨rfl, hk.below⟩

theorem inn11 (W : World) (a : Int) (hgo : GOk W []) (ia : InR .i64 a) :
    Calls Tryd.prog 29 #[.int .i64 a, .int .i64 1, .int .i64 12] W fun e w' => e = .returned (.bool (g29_0 a 1 12)) ∧ Below W.heap.size W w' := by
  have h := con29.down rfl W (a, 1, 12, ()) [.int .i64 a, .int .i64 1, .int .i64 12] [[], [], []] hgo trivial ⟨_, _, _, _, rfl, rfl, ⟨rfl, rfl, ia⟩, ⟨_, _, _, _, rfl, rfl, ⟨rfl, rfl, show InR .i64 1 by rw [i64_iff]; omega⟩, ⟨_, _, _, _, rfl, rfl, ⟨rfl, rfl, show InR .i64 12 by rw [i64_iff]; omega⟩, ⟨rfl, rfl⟩⟩⟩⟩ (by simp)
  refine h.mono ?_
  rintro e w' ⟨rs, ubs, rbs, rfl, hk, ⟨u, s, b1, bs1, cs, rfl, rfl, ho, hv, rfl, rfl⟩, _⟩
  obtain ⟨ho, _⟩ := ho
  have hv : cs = [u] := hv
  rw [ho] at hv
  cases hv
  exact ⟨rfl, hk.below⟩

theorem at11 (W : World) (x0 : List TW11) (v : Value) (m : Int) (hgo : GOk W []) (ha : Lst11 W x0 v) (im : InR .i64 m) (hl : x0.length ≤ 1000) :
    Calls Tryd.prog 25 #[v, .int .i64 m] W fun e w' => ∃ ad cap, e = .returned (.slice ad (atL m 0 x0).length cap) ∧ Below W.heap.size W w' ∧ SlAt w' (Am.Good w' []) (RepC w' (Am.Good w' []) (.int .i64)) 1 (atL m 0 x0) (.slice ad (atL m 0 x0).length cap) := by
  have h := con25.down rfl W (x0, m, ()) [v, .int .i64 m] [[], []] hgo hl ⟨_, _, _, _, rfl, rfl, ⟨rfl, ha⟩, _, _, _, _, rfl, rfl, ⟨rfl, rfl, im⟩, rfl, rfl⟩ (by simp)
  refine h.mono ?_
  rintro e w' ⟨rs, ubs, rbs, rfl, hk, ⟨u, s, b1, bs1, cs, rfl, rfl, ho, hv, rfl, rfl⟩, _⟩
  have hv : cs = [u] := hv
  subst hv
  have ho : OwnC w' (.sl (.int .i64)) (atL m 0 x0) [u] b1 := ho
  have hr : RepC w' (Am.Good w' []) (.sl (.int .i64)) (atL m 0 x0) [u] := OwnC.read (fun b hb => ⟨OwnC.lt ho b hb, by simp⟩) ho
  obtain ⟨u', he, hs⟩ := hr
  cases he
  have hs : SlAt w' (Am.Good w' []) (RepC w' (Am.Good w' []) (.int .i64)) 1 (atL m 0 x0) u := hs
  obtain ⟨ad, cap, rfl⟩ : ∃ ad cap, u = .slice ad (atL m 0 x0).length cap := by
    rcases (own_flat (t := .int .i64) rfl ho).2.2 with ⟨ad, rfl, h0, _⟩ | ⟨b, off, cap, _, _, _, rfl, _⟩
    · rw [h0]; exact ⟨ad, 0, rfl⟩
    · exact ⟨_, _, rfl⟩
  exact ⟨ad, cap, rfl, hk.below, hs⟩

def bad11 (x0 : List TW11) (x3 : Int) (m : Int) : Bool := decide (((atL m 0 x0).length : Int) < x3)
def ask11 (x0 : List TW11) (x1 x2 x3 : Int) : Int := if g28_0 x0 x1 x2 = 0 then (if g29_0 x3 1 12 = true then 0 else 2) else g28_0 x0 x1 x2
def g11_0 (x0 : List TW11) (x1 x2 x3 : Int) : List (List Int) := if ask11 x0 x1 x2 x3 = 0 then aRun (bad11 x0 x3) x1 (x2 - x1).toNat else []
def g11_1 (x0 : List TW11) (x1 x2 x3 : Int) : Int := ask11 x0 x1 x2 x3
def P11 (x0 : List TW11) (x1 x2 x3 : Int) : Prop := x0.length ≤ 1000

theorem own11 {w W : World} {v : Value} {xs : List (List Int)} {row : List Value} {bl : List Nat} {n : Nat} (h : Pg11 w W v xs row bl) (hn : xs.length = n) : W.ownsRow w.heap.size 30 1 v n row := hn ▸ h.own

theorem alc11 (w : World) (a b : Obj) : ((w.alloc a).alloc b).heap[w.heap.size + 1]? = some b := by
  have e : (w.alloc a).heap.size = w.heap.size + 1 := by simp
  have := heap_alloc_new (w.alloc a) b
  rw [e] at this
  exact this

set_option maxHeartbeats 4000000 in
theorem bad111 (w : World) (x0 : List TW11) (v : Value) (x1 x2 x3 c : Int) (hgo : GOk w []) (ha : Lst11 w x0 v) (i1 : InR .i64 x1) (i2 : InR .i64 x2) (h1 : g28_0 x0 x1 x2 = c) (hc : (c == 0) = false) (hc2 : (c != 0) = true) :
    Calls Tryd.prog 11 #[v, .int .i64 x1, .int .i64 x2, .int .i64 x3] w fun e w' => e = .returned (.tuple #[.slice none 0 0, .int .i64 c]) ∧ Below w.heap.size w w' := by
  have HA : Aside (Lst11 w x0 v) := ha
  clear ha
  have mixed := mixed
  go_enter Tryd.func11, Tryd.ntmps11
  go_wp2_with (go_at_call 28; refine (spn11 _ x0 _ _ _ hgo HA.out i1 i2).mono ?_; rintro e w1 ⟨rfl, b1⟩; rw [h1])
  go_ret2
  exact ⟨rfl, b1⟩

set_option maxHeartbeats 4000000 in
theorem bad211 (w : World) (x0 : List TW11) (v : Value) (x1 x2 x3 : Int) (hgo : GOk w []) (ha : Lst11 w x0 v) (i1 : InR .i64 x1) (i2 : InR .i64 x2) (i3 : InR .i64 x3) (h1 : g28_0 x0 x1 x2 = 0) (h2 : g29_0 x3 1 12 = false) :
    Calls Tryd.prog 11 #[v, .int .i64 x1, .int .i64 x2, .int .i64 x3] w fun e w' => e = .returned (.tuple #[.slice none 0 0, .int .i64 2]) ∧ Below w.heap.size w w' := by
  have HA : Aside (Lst11 w x0 v) := ha
  clear ha
  have mixed := mixed
  go_enter Tryd.func11, Tryd.ntmps11
  go_wp2_with (go_at_call 28; refine (spn11 _ x0 _ _ _ hgo HA.out i1 i2).mono ?_; rintro e w1 ⟨rfl, b1⟩; rw [h1])
  go_wp2_with (go_at_call 29; refine (inn11 _ _ (gok11 hgo b1) i3).mono ?_; rintro e w2 ⟨rfl, b2⟩; rw [h2])
  go_ret2
  exact ⟨rfl, b1.trans (b2.mono b1.size)⟩

set_option maxHeartbeats 8000000 in
theorem walk11 (w : World) (x0 : List TW11) (v : Value) (x1 x2 x3 : Int) (hgo : GOk w []) (ha : Lst11 w x0 v) (i1 : InR .i64 x1) (i2 : InR .i64 x2) (i3 : InR .i64 x3) (h1 : g28_0 x0 x1 x2 = 0) (h2 : g29_0 x3 1 12 = true) (hl : x0.length ≤ 1000) (hb : 0 ≤ x1 ∧ x1 ≤ x2 ∧ x2 ≤ 1440) :
    Calls Tryd.prog 11 #[v, .int .i64 x1, .int .i64 x2, .int .i64 x3] w fun e w' => ∃ u row bl, e = .returned (.tuple #[u, .int .i64 0]) ∧ Pg11 w w' u (aRun (bad11 x0 x3) x1 (x2 - x1).toNat) row bl := by
  have HA : Aside (Lst11 w x0 v) := ha
  clear ha
  have mixed := mixed
  go_enter Tryd.func11, Tryd.ntmps11
  go_wp2_with (go_at_call 28; refine (spn11 _ x0 _ _ _ hgo HA.out i1 i2).mono ?_; rintro e w1 ⟨rfl, b1⟩; rw [h1])
  go_wp2_with (go_at_call 29; refine (inn11 _ _ (gok11 hgo b1) i3).mono ?_; rintro e w2 ⟨rfl, b2⟩; rw [h2])
  have bb : Below w.heap.size w w2 := b1.trans (b2.mono b1.size)
  clear b1 b2
  go_loopw [12, 11] (fun i u wr => ∃ (k : Nat) (row : List Value) (bl : List Nat), i = .int .i64 (x1 + (k : Int)) ∧ x1 + (k : Int) ≤ x2 ∧ Pg11 w wr u (aRun (bad11 x0 x3) x1 k) row bl) (fun i _ _ => (x2 - intOf i).toNat)
  case atStart => exact ⟨0, [], [], by simp, by omega, ⟨World.ownsRow_lit (base := w.heap.size) w2 #[] 0 bb.size (by simp) rfl, rfl, fun j hj => by simp [aRun] at hj, List.Pairwise.nil, bb.alloc bb.size _⟩⟩
  case round =>
    obtain ⟨k, row, bl, rfl, hk, hp⟩ := hrel
    have HP : Aside (Pg11 w wr u11 (aRun (bad11 x0 x3) x1 k) row bl) := hp
    have bl0 := hp.low
    obtain ⟨ad, cp, rfl, hG⟩ := form11 hp.own
    obtain ⟨hok, _, hlen⟩ := arun_ok (bad11 x0 x3) x1 k
    have HOK : Aside (AOk (bad11 x0 x3) x1 (x1 + (k : Int)) (aRun (bad11 x0 x3) x1 k)) := hok
    clear hp hok
    have G4 : Aside (GOk wr []) := gok11 hgo bl0
    have A4 : Aside (Lst11 wr x0 v) := arg11 bl0 HA.out
    have im : InR .i64 (x1 + (k : Int)) := by rw [i64_iff]; omega
    have hq : IntKind.i64.wrap (x1 + (k : Int) + 1) = x1 + (k : Int) + 1 := by rw [IntKind.wrap_i64]; omega
    have hlt0 : x1 + (k : Int) ≤ 1440 := by omega
    generalize hm : x1 + (k : Int) = m at *
    by_cases hlt : m < x2
    · have HS : Aside (aRun (bad11 x0 x3) x1 (k + 1) = aSt (bad11 x0 x3 m) m (aRun (bad11 x0 x3) x1 k)) := by
        show _ = _
        rw [← hm]
        rfl
      by_cases hbad : ((atL m 0 x0).length : Int) < x3
      · have HB : Aside (bad11 x0 x3 m = true) := decide_eq_true hbad
        rw [show bad11 x0 x3 m = true from HB.out] at HS
        have hAT : Aside (∀ W, GOk W [] → Lst11 W x0 v → Calls Tryd.prog 25 #[v, .int .i64 m] W fun e w' => ∃ ad cap, e = .returned (.slice ad (atL m 0 x0).length cap) ∧ Below W.heap.size W w') := fun W h1 h2 => (at11 W x0 v _ h1 h2 im hl).mono (by rintro e w' ⟨ad, cap, h, b, _⟩; exact ⟨ad, cap, h, b⟩)
        have HI : Aside (TIOk Tryd.prog 27 (tabGet tab 27)) := tabOk 27
        generalize (atL m 0 x0).length = L at *
        generalize hps : aRun (bad11 x0 x3) x1 k = ps at *
        rcases List.eq_nil_or_concat ps with hnil | ⟨l, z, hcon⟩
        · have HN : Aside (ps.length = 0) := by show _ = _; rw [hnil]; rfl
          rw [show ps.length = 0 from HN.out] at HP ⊢
          have HS2 : Aside (aRun (bad11 x0 x3) x1 (k + 1) = ps ++ [[m, m + 1]]) := by
            show _ = _
            rw [HS.out, hnil, aSt_nil]
            rfl
          clear hnil
          go_wp2_with (first
            | (go_at_call 25; refine (hAT.out _ G4.out A4.out).mono ?_; rintro e w4 ⟨ad4, cap4, rfl, b4⟩; have HP4 : Aside (Pg11 w w4 _ ps row bl) := HP.out.keep (gb11 b4); have HPB : Aside (Pg11 w ((w4.alloc (Obj.cells #[Value.int .i64 m, Value.int .i64 (m + 1)] 2)).alloc (Obj.cells #[Value.slice (some ⟨w4.heap.size, 0, none⟩) 2 2] 30)) _ ps row bl) := HP4.out.keep (gb11 (((Below.refl _ w4).alloc (Nat.le_refl _) _).alloc (by simp) _)); have HH : Aside (((w4.alloc (Obj.cells #[Value.int .i64 m, Value.int .i64 (m + 1)] 2)).alloc (Obj.cells #[Value.slice (some ⟨w4.heap.size, 0, none⟩) 2 2] 30)).heap[w4.heap.size + 1]? = some (.cells #[.slice (some ⟨w4.heap.size, 0, none⟩) 2 2] 30)) := alc11 w4 _ _)
            | (at_builtin; refine app11 HI.out w.heap.size (own11 HPB.out HN.out) (w4.heap.size + 1) 0 1 [.slice (some ⟨w4.heap.size, 0, none⟩) 2 2] rfl (fun j u hj => by
              rcases j with _ | j
              · simp at hj; subst hj
                unfold World.cell?
                rw [show ((w4.alloc (Obj.cells #[Value.int .i64 m, Value.int .i64 (m + 1)] 2)).alloc (Obj.cells #[Value.slice (some ⟨w4.heap.size, 0, none⟩) 2 2] 30)).heap[(⟨w4.heap.size + 1, 0 + 0, none⟩ : Addr).block]? = _ from HH.out]
                rfl
              · simp at hj) (by simp [Value.oneCell']) (by omega) (by have := bl0.size; have := b4.size; simp; omega) rfl rfl rfl rfl ?_; intro v' wq hown hgrow))
          have hnw := nw11 HP4.out m (m + 1) (by rw [HN.out]; exact hown) hgrow
          exact ⟨⟨k + 1, _, _, by simp; omega, by omega, by rw [HS2.out]; exact hnw⟩, by simp [intOf]; omega⟩
        · rw [List.concat_eq_append] at hcon
          have hN : ps.length = l.length + 1 := by rw [hcon]; simp
          obtain ⟨p, q, y1, y2, y3, y4, y5, y6⟩ := HOK.out l.length (by omega)
          have hz : z = [p, q] := by rw [hcon] at y1; simpa using y1
          subst hz
          clear y6
          have HX : Aside (ps.getD l.length [] = [p, q]) := by show _ = _; rw [hcon]; simp [List.getD_eq_getElem?_getD]
          have HSET : Aside (∀ y, ps.set l.length [p, y] = l ++ [[p, y]]) := fun y => by rw [hcon]; simp
          have HSN : Aside (aRun (bad11 x0 x3) x1 (k + 1) = if q = m then l ++ [[p, m + 1]] else l ++ [[p, q], [m, m + 1]]) := by
            show _ = _
            rw [HS.out, hcon, aSt_snoc]
          have HCN : Aside (ps = l ++ [[p, q]]) := hcon
          have HN : Aside (ps.length = l.length + 1) := hN
          obtain ⟨G, rfl⟩ := hG (by omega)
          rw [hN] at HP ⊢
          have hM : l.length + 1 ≤ k := by omega
          clear hN hcon y1 hG hlen
          generalize l.length = M at *
          have hq1 : IntKind.i64.wrap ((M : Int) + 1 - 1) = (M : Int) := by rw [IntKind.wrap_i64]; omega
          have hq2 : (0 : Int) ≤ (M : Int) := by omega
          have hq3 : (M : Int) < (M : Int) + 1 := by omega
          by_cases hqm : q = m
          · subst hqm
            have HFIN : Aside (∀ W, Pg11 w W (.slice (some ⟨G, 0, none⟩) (M + 1) cp) (ps.set M [p, q + 1]) row bl → Pg11 w W (.slice (some ⟨G, 0, none⟩) (M + 1) cp) (aRun (bad11 x0 x3) x1 (k + 1)) row bl) := fun W h => by
              rw [HSN.out, if_pos rfl, ← HSET.out (q + 1)]
              exact h
            clear HSN HSET
            go_wp2_with (first
            | (go_at_call 25; refine (hAT.out _ G4.out A4.out).mono ?_; rintro e w4 ⟨ad4, cap4, rfl, b4⟩; have HP4 : Aside (Pg11 w w4 _ ps row bl) := HP.out.keep (gb11 b4); obtain ⟨g, c0, p1, p2, pf, gl, Gl, HPUT⟩ := fx11 HP4.out (show ps.length = M + 1 from HN.out) HX.out))
            exact ⟨⟨k + 1, row, bl, by simp; omega, by omega, HFIN.out _ (HPUT.out (q + 1))⟩, by simp [intOf]; omega⟩
          · have hb0 : (q == m) = false := by simpa using hqm
            go_wp2_with (first
            | (go_at_call 25; refine (hAT.out _ G4.out A4.out).mono ?_; rintro e w4 ⟨ad4, cap4, rfl, b4⟩; have HP4 : Aside (Pg11 w w4 _ ps row bl) := HP.out.keep (gb11 b4); have HPB : Aside (Pg11 w ((w4.alloc (Obj.cells #[Value.int .i64 m, Value.int .i64 (m + 1)] 2)).alloc (Obj.cells #[Value.slice (some ⟨w4.heap.size, 0, none⟩) 2 2] 30)) _ ps row bl) := HP4.out.keep (gb11 (((Below.refl _ w4).alloc (Nat.le_refl _) _).alloc (by simp) _)); have HH : Aside (((w4.alloc (Obj.cells #[Value.int .i64 m, Value.int .i64 (m + 1)] 2)).alloc (Obj.cells #[Value.slice (some ⟨w4.heap.size, 0, none⟩) 2 2] 30)).heap[w4.heap.size + 1]? = some (.cells #[.slice (some ⟨w4.heap.size, 0, none⟩) 2 2] 30)) := alc11 w4 _ _; obtain ⟨g, c0, p1, p2, pf, gl, Gl, HPUT⟩ := fx11 HP4.out (show ps.length = M + 1 from HN.out) HX.out)
            | (at_builtin; refine app11 HI.out w.heap.size (own11 HPB.out HN.out) (w4.heap.size + 1) 0 1 [.slice (some ⟨w4.heap.size, 0, none⟩) 2 2] rfl (fun j u hj => by
              rcases j with _ | j
              · simp at hj; subst hj
                unfold World.cell?
                rw [show ((w4.alloc (Obj.cells #[Value.int .i64 m, Value.int .i64 (m + 1)] 2)).alloc (Obj.cells #[Value.slice (some ⟨w4.heap.size, 0, none⟩) 2 2] 30)).heap[(⟨w4.heap.size + 1, 0 + 0, none⟩ : Addr).block]? = _ from HH.out]
                rfl
              · simp at hj) (by simp [Value.oneCell']) (by omega) (by have := bl0.size; have := b4.size; simp; omega) rfl rfl rfl rfl ?_; intro v' wq hown hgrow))
            have hnw := nw11 HP4.out m (m + 1) (by rw [HN.out]; exact hown) hgrow
            have HSF : aRun (bad11 x0 x3) x1 (k + 1) = ps ++ [[m, m + 1]] := by rw [HSN.out, if_neg hqm, HCN.out]; simp
            exact ⟨⟨k + 1, _, _, by simp; omega, by omega, by rw [HSF]; exact hnw⟩, by simp [intOf]; omega⟩
      · have HB : Aside (bad11 x0 x3 m = false) := decide_eq_false hbad
        rw [show bad11 x0 x3 m = false from HB.out] at HS
        have hAT : Aside (∀ W, GOk W [] → Lst11 W x0 v → Calls Tryd.prog 25 #[v, .int .i64 m] W fun e w' => ∃ ad cap, e = .returned (.slice ad (atL m 0 x0).length cap) ∧ Below W.heap.size W w') := fun W h1 h2 => (at11 W x0 v _ h1 h2 im hl).mono (by rintro e w' ⟨ad, cap, h, b, _⟩; exact ⟨ad, cap, h, b⟩)
        generalize (atL m 0 x0).length = L at *
        generalize hps : aRun (bad11 x0 x3) x1 k = ps at *
        go_wp2_with (go_at_call 25; refine (hAT.out _ G4.out A4.out).mono ?_; rintro e w4 ⟨ad4, cap4, rfl, b4⟩)
        exact ⟨⟨k + 1, row, bl, by simp; omega, by omega, by rw [HS.out]; show Pg11 w w4 _ (aSt false _ ps) row bl; unfold aSt; rw [if_neg (by decide)]; exact HP.out.keep (gb11 b4)⟩, by simp [intOf]; omega⟩
    · have e : (x2 - x1).toNat = k := by omega
      have HQ : Aside (Pg11 w wr (.slice ad (aRun (bad11 x0 x3) x1 k).length cp) (aRun (bad11 x0 x3) x1 (x2 - x1).toNat) row bl) := by
        rw [e]
        exact HP.out
      go_wp2
      go_ret2
      first | exact ⟨_, row, bl, rfl, HQ.out⟩ | exact ⟨_, rfl, row, bl, HQ.out⟩ | exact ⟨_, rfl, row, bl, HP.out⟩ | exact ⟨row, bl, HP.out⟩

theorem spk11 (x0 : List TW11) (x1 x2 : Int) : 0 ≤ g28_0 x0 x1 x2 ∧ g28_0 x0 x1 x2 ≤ 2 := by
  unfold g28_0
  split
  · omega
  · split
    · omega
    · split
      · omega
      · split <;> omega

theorem min11 {x : Int} (h : ¬ (!g24_0 x) = true) : 0 ≤ x ∧ x ≤ 1440 := by
  have h : g24_0 x = true := by simpa using h
  unfold g24_0 g29_0 at h
  split at h
  · rename_i h1
    simp only [decide_eq_true_eq] at h h1
    exact ⟨h1, h⟩
  · cases h

theorem spb11 (x0 : List TW11) (x1 x2 : Int) (h : g28_0 x0 x1 x2 = 0) : 0 ≤ x1 ∧ x1 ≤ x2 ∧ x2 ≤ 1440 := by
  unfold g28_0 at h
  split at h
  · cases h
  · split at h
    · cases h
    · split at h
      · cases h
      · split at h
        · cases h
        · rename_i q1 q2 q3
          have := min11 q1
          have := min11 q2
          simp only [decide_eq_true_eq] at q3
          omega

theorem mem11 (f : Int → Bool) (a : Int) (n : Nat) (h0 : 0 ≤ a) (h1 : a + (n : Int) ≤ 1440) : ∀ x ∈ aRun f a n, x.length ≤ maxLen ∧ ∀ y ∈ x, Wf (.int .i64) y := fun x hx => by
  obtain ⟨i, hi, rfl⟩ := List.mem_iff_getElem.1 hx
  obtain ⟨p, q, h2, h3, h4, h5, _⟩ := (arun_ok f a n).1 i hi
  rw [List.getElem?_eq_getElem hi] at h2
  obtain h2 := Option.some.inj h2
  rw [h2]
  refine ⟨by simp [maxLen], fun y hy => ?_⟩
  simp only [List.mem_cons, List.mem_nil_iff, or_false] at hy
  show InR .i64 y
  rw [i64_iff]
  rcases hy with rfl | rfl <;> omega

def kds11 : List RK := [.frz]
def sig11 : List AT := [AT.v (Ty.sl WY11), AT.v (Ty.int .i64), AT.v (Ty.int .i64), AT.v (Ty.int .i64)]
def S11 : Am.Spec := { sig := sig11, pre := fun ⟨x0, x1, x2, x3, _⟩ => P11 x0 x1 x2 x3, res := fun ⟨x0, x1, x2, x3, _⟩ => [⟨.sl (.sl (.int .i64)), g11_0 x0 x1 x2 x3⟩, ⟨.int .i64, g11_1 x0 x1 x2 x3⟩], kds := kds11 }

theorem upf11 {P : Program} {f : FuncId} {S : Am.Spec} (hp : plainSig S.sig = true) (hk : S.kds = [.frz]) (hr : ∀ x, ∃ d d2, S.res x = [d, d2] ∧ d2.t.flat = true) (h : Contract0 P f S) : Contract P f S := by
  intro w G G0 x vs bss hg hG hG0 hpre ha hn
  have hl := args_len ha
  refine (h w x vs bss hg hpre (ha.mono hG hp) hn).mono ?_
  rintro e w' ⟨rs, ubs, rbs, h1, h2, h3, h4, h5, h6⟩
  obtain ⟨d, d2, he, hf⟩ := hr x
  rw [he] at h3
  obtain ⟨v, s, b, bs, cs, rfl, rfl, o1, j1, v2, s2, b2, bs2, cs2, rfl, rfl, o2, j2, rfl, rfl⟩ := h3
  obtain rfl : b2 = [] := (OwnC.flat (G := fun _ => False) (w' := w') hf o2).2
  refine ⟨[v, v2], ubs, [[], []], fun k => k ∈ b, h1, h2, ?_, h4.toK (n0 := ()) hp hl, ?_, fun k hk => h6 k ?_, fun k hk => ⟨OwnC.lt o1 k hk, h6 k ?_, ?_⟩⟩
  · rw [hk, he]
    exact ⟨_, _, _, _, rfl, rfl, ⟨rfl, cs, OwnC.read (fun k hk => .inr hk) o1, j1⟩, _, _, _, _, rfl, rfl, ⟨cs2, o2, j2⟩, rfl, rfl⟩
  · have := h5
    simp only [List.flatten_cons, List.flatten_nil, List.append_nil] at this ⊢
    exact (List.nodup_append.1 this).1
  · simp only [List.flatten_cons, List.flatten_nil, List.append_nil] at hk ⊢
    exact List.mem_append_left _ hk
  · simp only [List.flatten_cons, List.flatten_nil, List.append_nil]
    exact List.mem_append_right _ hk
  · simp only [List.flatten_cons, List.flatten_nil, List.append_nil] at h5 ⊢
    exact fun hu => (List.nodup_append.1 h5).2.2 k hu k hk rfl

theorem core11 (w : World) (x0 : List TW11) (v : Value) (x1 x2 x3 : Int) (hgo : GOk w []) (ho : Lst11 w x0 v) (hl : x0.length ≤ 1000) (i1 : InR .i64 x1) (i2 : InR .i64 x2) (i3 : InR .i64 x3) :
    Calls Tryd.prog 11 #[v, .int .i64 x1, .int .i64 x2, .int .i64 x3] w fun e w' => ∃ rs ubs rbs, e = .returned (packV rs) ∧ Kept [] w w' ∧ ResRep w' [⟨.sl (.sl (.int .i64)), g11_0 x0 x1 x2 x3⟩, ⟨.int .i64, g11_1 x0 x1 x2 x3⟩] rs rbs ∧ UpdRep w' [] [] ubs ∧ (ubs.flatten ++ rbs.flatten).Nodup ∧ ∀ b ∈ ubs.flatten ++ rbs.flatten, ¬ Am.Good w [] b := by
  have fin : ∀ (w' : World) (v : Value) (row : List Value) (bl : List Nat) (ps : List (List Int)) (c : Int), Pg11 w w' v ps row bl → ps.length ≤ maxLen → (∀ p ∈ ps, p.length ≤ maxLen ∧ ∀ y ∈ p, Wf (.int .i64) y) → InR .i64 c →
      ∃ rs ubs rbs, Ending.returned (.tuple #[v, .int .i64 c]) = .returned (packV rs) ∧ Kept [] w w' ∧ ResRep w' [⟨.sl (.sl (.int .i64)), ps⟩, ⟨.int .i64, c⟩] rs rbs ∧ UpdRep w' [] [] ubs ∧ (ubs.flatten ++ rbs.flatten).Nodup ∧ ∀ b ∈ ubs.flatten ++ rbs.flatten, ¬ Am.Good w [] b := fun w' v row bl ps c h hm hw' hc => by
    obtain ⟨bs, k1, k2, k3⟩ := h.done hm hw'
    refine ⟨[v, .int .i64 c], [], [bs, []], rfl, Kept.of_below h.low, ⟨_, _, _, _, _, rfl, rfl, k1, rfl, _, _, _, _, _, rfl, rfl, ⟨rfl, hc, rfl⟩, rfl, rfl, rfl⟩, ⟨rfl, rfl⟩, by simpa using k2, fun b hb hg => ?_⟩
    have hb : b ∈ bs := by simpa using hb
    have := k3 b hb
    have := hg.1
    omega
  have z : ∀ c : Int, 0 ≤ c → c ≤ 2 → InR .i64 c := fun c h1 h2 => by rw [i64_iff]; omega
  have good : 0 ≤ x1 ∧ x1 ≤ x2 ∧ x2 ≤ 1440 → (Calls Tryd.prog 11 #[v, .int .i64 x1, .int .i64 x2, .int .i64 x3] w fun e w' => ∃ u row bl, e = .returned (.tuple #[u, .int .i64 0]) ∧ Pg11 w w' u (aRun (bad11 x0 x3) x1 (x2 - x1).toNat) row bl) → ask11 x0 x1 x2 x3 = 0 →
      Calls Tryd.prog 11 #[v, .int .i64 x1, .int .i64 x2, .int .i64 x3] w fun e w' => ∃ rs ubs rbs, e = .returned (packV rs) ∧ Kept [] w w' ∧ ResRep w' [⟨.sl (.sl (.int .i64)), g11_0 x0 x1 x2 x3⟩, ⟨.int .i64, g11_1 x0 x1 x2 x3⟩] rs rbs ∧ UpdRep w' [] [] ubs ∧ (ubs.flatten ++ rbs.flatten).Nodup ∧ ∀ b ∈ ubs.flatten ++ rbs.flatten, ¬ Am.Good w [] b := fun hb hc ha => by
    unfold g11_0 g11_1
    rw [if_pos ha, ha]
    refine hc.mono ?_
    rintro e w' ⟨v, row, bl, rfl, h⟩
    have hn := (arun_ok (bad11 x0 x3) x1 (x2 - x1).toNat).2.2
    obtain ⟨q1, q2, q3⟩ := hb
    have q4 : ((x2 - x1).toNat : Int) = x2 - x1 := Int.toNat_of_nonneg (by omega)
    exact fin w' v row bl _ 0 h (by unfold maxLen; omega) (mem11 _ _ _ q1 (by omega)) (z 0 (by decide) (by decide))
  have evil : ∀ c : Int, 0 < c → c ≤ 2 → ask11 x0 x1 x2 x3 = c → (Calls Tryd.prog 11 #[v, .int .i64 x1, .int .i64 x2, .int .i64 x3] w fun e w' => e = .returned (.tuple #[.slice none 0 0, .int .i64 c]) ∧ Below w.heap.size w w') →
      Calls Tryd.prog 11 #[v, .int .i64 x1, .int .i64 x2, .int .i64 x3] w fun e w' => ∃ rs ubs rbs, e = .returned (packV rs) ∧ Kept [] w w' ∧ ResRep w' [⟨.sl (.sl (.int .i64)), g11_0 x0 x1 x2 x3⟩, ⟨.int .i64, g11_1 x0 x1 x2 x3⟩] rs rbs ∧ UpdRep w' [] [] ubs ∧ (ubs.flatten ++ rbs.flatten).Nodup ∧ ∀ b ∈ ubs.flatten ++ rbs.flatten, ¬ Am.Good w [] b := fun c h0 h2 ha hc => by
    unfold g11_0 g11_1
    rw [if_neg (by omega), ha]
    refine hc.mono ?_
    rintro e w' ⟨rfl, hb⟩
    exact fin w' _ [] [] [] c (nil11 hb) (by simp) (fun p hp => by cases hp) (z c (by omega) h2)
  have hk := spk11 x0 x1 x2
  unfold ask11 at good evil
  by_cases hs : g28_0 x0 x1 x2 = 0
  · rw [if_pos hs] at good evil
    have hb := spb11 x0 x1 x2 hs
    cases hin : g29_0 x3 1 12 with
    | true =>
      rw [if_pos hin] at good
      exact good hb (walk11 w x0 v x1 x2 x3 hgo ho i1 i2 i3 hs hin hl hb) rfl
    | false =>
      rw [if_neg (by rw [hin]; decide)] at evil
      exact evil 2 (by decide) (by decide) rfl (bad211 w x0 v x1 x2 x3 hgo ho i1 i2 i3 hs hin)
  · rw [if_neg hs] at evil
    exact evil _ (by omega) (by omega) rfl (bad111 w x0 v x1 x2 x3 _ hgo ho i1 i2 rfl (by simpa using hs) (by simpa using hs))

theorem con11 : Contract Tryd.prog 11 S11 := by
  refine upf11 rfl rfl (fun x => ⟨_, _, rfl, rfl⟩) ?_
  rintro w ⟨x0, x1, x2, x3, u⟩ vs bss hgo hp ⟨v, s, b, bs, rfl, rfl, ⟨rfl, ho⟩, v1, s1, b1, bs1, rfl, rfl, ⟨rfl, h1⟩, v2, s2, b2, bs2, rfl, rfl, ⟨rfl, h2⟩, v3, s3, b3, bs3, rfl, rfl, ⟨rfl, h3⟩, rfl, rfl⟩ hnd
  obtain ⟨rfl, i1⟩ : v1 = .int .i64 x1 ∧ InR .i64 x1 := h1
  obtain ⟨rfl, i2⟩ : v2 = .int .i64 x2 ∧ InR .i64 x2 := h2
  obtain ⟨rfl, i3⟩ : v3 = .int .i64 x3 ∧ InR .i64 x3 := h3
  exact core11 w x0 v x1 x2 x3 hgo ho hp i1 i2 i3

end Go.Proofs.YtobhoepkgkmddaaDoor

/- The contracts of the library that this program uses, laid at this program. Written by a tool of the kit. -/
set_option linter.unusedVariables false
set_option maxRecDepth 100000
namespace Go.Proofs
open Go.Shelf
def Tryd.lays169_ren : Go.Shelf.Ren := ⟨fun | 169 => 72 | n => n, fun | 70 => 89 | 9 => 9 | 0 => 0 | 72 => 91 | 37 => 22 | 127 => 109 | 3 => 3 | 5 => 5 | n => n, fun | n => n⟩
theorem Tryd.lays169 : Go.Proofs.Lays.n169 Tryd.prog Tryd.lays169_ren := {
  mixed := by kernel_rfl
  f169 := Tryd.func72.trans (congrArg some (by kernel_rfl))
  t0 := Tryd.underlying0
  a0 := Tryd.isAgg0
  z0 := Tryd.sizeOf0
  v0 := Tryd.zeroValue0
  t3 := Tryd.underlying3
  a3 := Tryd.isAgg3
  z3 := Tryd.sizeOf3
  v3 := Tryd.zeroValue3
  t9 := Tryd.underlying9
  a9 := Tryd.isAgg9
  z9 := Tryd.sizeOf9
  v9 := Tryd.zeroValue9
  t37 := Tryd.underlying22
  a37 := Tryd.isAgg22
  z37 := Tryd.sizeOf22
  v37 := Tryd.zeroValue22
  t70 := Tryd.underlying89
  a70 := Tryd.isAgg89
  z70 := Tryd.sizeOf89
  v70 := Tryd.zeroValue89
  t72 := Tryd.underlying91
  a72 := Tryd.isAgg91
  z72 := Tryd.sizeOf91
  v72 := Tryd.zeroValue91
  t127 := Tryd.underlying109
  a127 := Tryd.isAgg109
  z127 := Tryd.sizeOf109
  v127 := Tryd.zeroValue109 }
theorem Tryd.Builder_Extra_169 : Builder.Extra Tryd.prog Tryd.lays169_ren := {
  sizeBuilder := by kernel_rfl
  liesBuilder := by kernel_rfl
  t5 := Tryd.underlying5
  a5 := Tryd.isAgg5
  z5 := Tryd.sizeOf5
  v5 := Tryd.zeroValue5
  infoByte := by kernel_rfl
  cellsByte := by kernel_rfl
  sizeByte := by kernel_rfl
  neB5 := by decide }
open Go.RowKit in theorem Tryd.Builder_String_any_k (B b : Nat) (l : List UInt8) (w : World) (h : Lib.IsBuilderF 91 5 B b (Lib.byteCells l) w) (hBw : B ≤ w.heap.size) :
    Calls Tryd.prog 72 #[.pointer (some ⟨b, 0, none⟩)] w fun e w' => e = .returned (.string ⟨l.toArray⟩) ∧ (Lib.IsBuilderF 91 5 B b (Lib.byteCells l) w' ∧ Below B w w' ∧ Lib.OthersKept 5 (some b) w w') := Any.Builder_String_any_k Tryd.lays169 Tryd.Builder_Extra_169 B b l w h hBw
def Tryd.laysM173_ren : Go.Shelf.Ren := ⟨fun | 173 => 66 | 246 => 75 | 283 => 81 | 284 => 82 | 285 => 83 | 286 => 84 | 129 => 88 | 317 => 87 | 318 => 89 | 319 => 90 | 320 => 91 | 337 => 92 | 338 => 93 | n => n, fun | 2 => 2 | 3 => 3 | 9 => 9 | 4 => 4 | 171 => 111 | 0 => 0 | 53 => 59 | 37 => 22 | 5 => 5 | 173 => 114 | 212 => 120 | 51 => 103 | 20 => 20 | 213 => 121 | 46 => 78 | 232 => 125 | 233 => 126 | n => n, fun | 17 => 3 | 18 => 4 | 19 => 5 | n => n⟩
theorem Tryd.laysM173 : Go.Proofs.LaysM.n173 Tryd.prog Tryd.laysM173_ren := {
  mixed := by kernel_rfl
  f129 := Tryd.func88.trans (congrArg some (by kernel_rfl))
  f173 := Tryd.func66.trans (congrArg some (by kernel_rfl))
  f246 := Tryd.func75.trans (congrArg some (by kernel_rfl))
  f283 := Tryd.func81.trans (congrArg some (by kernel_rfl))
  f284 := Tryd.func82.trans (congrArg some (by kernel_rfl))
  f285 := Tryd.func83.trans (congrArg some (by kernel_rfl))
  f286 := Tryd.func84.trans (congrArg some (by kernel_rfl))
  f317 := Tryd.func87.trans (congrArg some (by kernel_rfl))
  f318 := Tryd.func89.trans (congrArg some (by kernel_rfl))
  f319 := Tryd.func90.trans (congrArg some (by kernel_rfl))
  f320 := Tryd.func91.trans (congrArg some (by kernel_rfl))
  f337 := Tryd.func92.trans (congrArg some (by kernel_rfl))
  f338 := Tryd.func93.trans (congrArg some (by kernel_rfl))
  t0 := Tryd.underlying0
  a0 := Tryd.isAgg0
  z0 := Tryd.sizeOf0
  v0 := Tryd.zeroValue0
  t2 := Tryd.underlying2
  a2 := Tryd.isAgg2
  z2 := Tryd.sizeOf2
  v2 := Tryd.zeroValue2
  t3 := Tryd.underlying3
  a3 := Tryd.isAgg3
  z3 := Tryd.sizeOf3
  v3 := Tryd.zeroValue3
  t4 := Tryd.underlying4
  a4 := Tryd.isAgg4
  z4 := Tryd.sizeOf4
  v4 := Tryd.zeroValue4
  t5 := Tryd.underlying5
  a5 := Tryd.isAgg5
  z5 := Tryd.sizeOf5
  v5 := Tryd.zeroValue5
  t9 := Tryd.underlying9
  a9 := Tryd.isAgg9
  z9 := Tryd.sizeOf9
  v9 := Tryd.zeroValue9
  t20 := Tryd.underlying20
  a20 := Tryd.isAgg20
  z20 := Tryd.sizeOf20
  v20 := Tryd.zeroValue20
  t37 := Tryd.underlying22
  a37 := Tryd.isAgg22
  z37 := Tryd.sizeOf22
  v37 := Tryd.zeroValue22
  t46 := Tryd.underlying78
  a46 := Tryd.isAgg78
  z46 := Tryd.sizeOf78
  v46 := Tryd.zeroValue78
  t51 := Tryd.underlying103
  a51 := Tryd.isAgg103
  z51 := Tryd.sizeOf103
  v51 := Tryd.zeroValue103
  t53 := Tryd.underlying59
  a53 := Tryd.isAgg59
  z53 := Tryd.sizeOf59
  v53 := Tryd.zeroValue59
  t171 := Tryd.underlying111
  a171 := Tryd.isAgg111
  z171 := Tryd.sizeOf111
  v171 := Tryd.zeroValue111
  t173 := Tryd.underlying114
  a173 := Tryd.isAgg114
  z173 := Tryd.sizeOf114
  v173 := Tryd.zeroValue114
  t212 := Tryd.underlying120
  a212 := Tryd.isAgg120
  z212 := Tryd.sizeOf120
  v212 := Tryd.zeroValue120
  t213 := Tryd.underlying121
  a213 := Tryd.isAgg121
  z213 := Tryd.sizeOf121
  t232 := Tryd.underlying125
  a232 := Tryd.isAgg125
  z232 := Tryd.sizeOf125
  v232 := Tryd.zeroValue125
  t233 := Tryd.underlying126
  a233 := Tryd.isAgg126
  z233 := Tryd.sizeOf126
  v233 := Tryd.zeroValue126
  g17 := by kernel_rfl
  g18 := by kernel_rfl
  g19 := by kernel_rfl
  i0 := by kernel_rfl
  i2 := by kernel_rfl
  i3 := by kernel_rfl
  i4 := by kernel_rfl
  i5 := by kernel_rfl
  i9 := by kernel_rfl
  i20 := by kernel_rfl
  i37 := by kernel_rfl
  i46 := by kernel_rfl
  i51 := by kernel_rfl
  i53 := by kernel_rfl
  i171 := by kernel_rfl
  i173 := by kernel_rfl
  i212 := by kernel_rfl
  i232 := by kernel_rfl
  i233 := by kernel_rfl
  m17 := by kernel_rfl
  m18 := by kernel_rfl
  m19 := by kernel_rfl }
open Go.RowKit Go.Sort Go.Lib in theorem Tryd.strconv_FormatInt_10 (n : Int) (h0 : -9223372036854775808 ≤ n) (h1 : n ≤ 9223372036854775807) (w : World) (htab : Lib.TabIs Tryd.prog w "internal/strconv.uint64pow10" .u64 Lib.pow10Tab) :
    Calls Tryd.prog 66 #[.int .i64 n, .int .i64 10] w fun e w' => e = .returned (.string ⟨(Lib.itoa n).toArray⟩) ∧ ∃ k os, w' = grow (w.drewN k) os := Any.strconv_FormatInt_10 Tryd.laysM173 n h0 h1 w htab
def Tryd.lays145_ren : Go.Shelf.Ren := ⟨fun | 145 => 49 | 220 => 58 | 219 => 57 | 217 => 62 | 225 => 63 | 224 => 64 | 267 => 65 | 266 => 73 | 314 => 74 | n => n, fun | 9 => 9 | 4 => 4 | 59 => 75 | 3 => 3 | 5 => 5 | 46 => 78 | 146 => 104 | 51 => 103 | n => n, fun | 1 => 0 | n => n⟩
theorem Tryd.lays145 : Go.Proofs.Lays.n145 Tryd.prog Tryd.lays145_ren := {
  mixed := by kernel_rfl
  f145 := Tryd.func49.trans (congrArg some (by kernel_rfl))
  f217 := Tryd.func62.trans (congrArg some (by kernel_rfl))
  f219 := Tryd.func57.trans (congrArg some (by kernel_rfl))
  f220 := Tryd.func58.trans (congrArg some (by kernel_rfl))
  f224 := Tryd.func64.trans (congrArg some (by kernel_rfl))
  f225 := Tryd.func63.trans (congrArg some (by kernel_rfl))
  f266 := Tryd.func73.trans (congrArg some (by kernel_rfl))
  f267 := Tryd.func65.trans (congrArg some (by kernel_rfl))
  f314 := Tryd.func74.trans (congrArg some (by kernel_rfl))
  t3 := Tryd.underlying3
  a3 := Tryd.isAgg3
  z3 := Tryd.sizeOf3
  v3 := Tryd.zeroValue3
  t4 := Tryd.underlying4
  a4 := Tryd.isAgg4
  z4 := Tryd.sizeOf4
  v4 := Tryd.zeroValue4
  t5 := Tryd.underlying5
  a5 := Tryd.isAgg5
  z5 := Tryd.sizeOf5
  v5 := Tryd.zeroValue5
  t9 := Tryd.underlying9
  a9 := Tryd.isAgg9
  z9 := Tryd.sizeOf9
  v9 := Tryd.zeroValue9
  t46 := Tryd.underlying78
  a46 := Tryd.isAgg78
  z46 := Tryd.sizeOf78
  v46 := Tryd.zeroValue78
  t51 := Tryd.underlying103
  a51 := Tryd.isAgg103
  z51 := Tryd.sizeOf103
  v51 := Tryd.zeroValue103
  t59 := Tryd.underlying75
  a59 := Tryd.isAgg75
  z59 := Tryd.sizeOf75
  v59 := Tryd.zeroValue75
  t146 := Tryd.underlying104
  a146 := Tryd.isAgg104
  z146 := Tryd.sizeOf104
  v146 := Tryd.zeroValue104
  g1 := by kernel_rfl }
open Go.RowKit Go.Lib in theorem Tryd.strings_Cut (s sep : ByteArray) (m : Int) (w : World) (hs : s.size < 4294967281) (hm : w.cell? ⟨0, 0, none⟩ = some (.int .i64 m)) :
    Calls Tryd.prog 49 #[.string s, .string sep] w fun e w' => e = .returned (.tuple #[.string ⟨(Lib.cut s.data.toList sep.data.toList).1.toArray⟩, .string ⟨(Lib.cut s.data.toList sep.data.toList).2.1.toArray⟩, .bool (Lib.cut s.data.toList sep.data.toList).2.2]) ∧ ∃ n, w' = w.drewN n := Any.strings_Cut Tryd.lays145 s sep m w hs hm
def Tryd.lays99_ren : Go.Shelf.Ren := ⟨fun | 99 => 68 | 206 => 78 | n => n, fun | 9 => 9 | 4 => 4 | 3 => 3 | n => n, fun | n => n⟩
theorem Tryd.lays99 : Go.Proofs.Lays.n99 Tryd.prog Tryd.lays99_ren := {
  mixed := by kernel_rfl
  f99 := Tryd.func68.trans (congrArg some (by kernel_rfl))
  f206 := Tryd.func78.trans (congrArg some (by kernel_rfl))
  t3 := Tryd.underlying3
  a3 := Tryd.isAgg3
  z3 := Tryd.sizeOf3
  v3 := Tryd.zeroValue3
  t4 := Tryd.underlying4
  a4 := Tryd.isAgg4
  z4 := Tryd.sizeOf4
  v4 := Tryd.zeroValue4
  t9 := Tryd.underlying9
  a9 := Tryd.isAgg9
  z9 := Tryd.sizeOf9
  v9 := Tryd.zeroValue9 }
open Go.RowKit Go.Lib in theorem Tryd.strings_HasPrefix (s p : ByteArray) (w : World) :
    Calls Tryd.prog 68 #[.string s, .string p] w fun e w' => e = .returned (.bool (Lib.hasPrefix s.data.toList p.data.toList)) ∧ w' = w := Any.strings_HasPrefix Tryd.lays99 s p w
def Tryd.lays146_ren : Go.Shelf.Ren := ⟨fun | 146 => 30 | 221 => 39 | 268 => 46 | 138 => 47 | 143 => 48 | 195 => 54 | 197 => 55 | 218 => 56 | 219 => 57 | 260 => 61 | 217 => 62 | 225 => 63 | 224 => 64 | 267 => 65 | 266 => 73 | 314 => 74 | n => n, fun | 9 => 9 | 31 => 54 | 3 => 3 | 4 => 4 | 0 => 0 | 105 => 81 | 21 => 21 | 5 => 5 | 46 => 78 | 119 => 99 | 139 => 102 | 138 => 101 | 146 => 104 | 51 => 103 | n => n, fun | 1 => 0 | 3 => 1 | 4 => 2 | n => n⟩
theorem Tryd.lays146 : Go.Proofs.Lays.n146 Tryd.prog Tryd.lays146_ren := {
  mixed := by kernel_rfl
  f138 := Tryd.func47.trans (congrArg some (by kernel_rfl))
  f143 := Tryd.func48.trans (congrArg some (by kernel_rfl))
  f146 := Tryd.func30.trans (congrArg some (by kernel_rfl))
  f195 := Tryd.func54.trans (congrArg some (by kernel_rfl))
  f197 := Tryd.func55.trans (congrArg some (by kernel_rfl))
  f217 := Tryd.func62.trans (congrArg some (by kernel_rfl))
  f218 := Tryd.func56.trans (congrArg some (by kernel_rfl))
  f219 := Tryd.func57.trans (congrArg some (by kernel_rfl))
  f221 := Tryd.func39.trans (congrArg some (by kernel_rfl))
  f224 := Tryd.func64.trans (congrArg some (by kernel_rfl))
  f225 := Tryd.func63.trans (congrArg some (by kernel_rfl))
  f260 := Tryd.func61.trans (congrArg some (by kernel_rfl))
  f266 := Tryd.func73.trans (congrArg some (by kernel_rfl))
  f267 := Tryd.func65.trans (congrArg some (by kernel_rfl))
  f268 := Tryd.func46.trans (congrArg some (by kernel_rfl))
  f314 := Tryd.func74.trans (congrArg some (by kernel_rfl))
  t0 := Tryd.underlying0
  a0 := Tryd.isAgg0
  z0 := Tryd.sizeOf0
  v0 := Tryd.zeroValue0
  t3 := Tryd.underlying3
  a3 := Tryd.isAgg3
  z3 := Tryd.sizeOf3
  v3 := Tryd.zeroValue3
  t4 := Tryd.underlying4
  a4 := Tryd.isAgg4
  z4 := Tryd.sizeOf4
  v4 := Tryd.zeroValue4
  t5 := Tryd.underlying5
  a5 := Tryd.isAgg5
  z5 := Tryd.sizeOf5
  v5 := Tryd.zeroValue5
  t9 := Tryd.underlying9
  a9 := Tryd.isAgg9
  z9 := Tryd.sizeOf9
  v9 := Tryd.zeroValue9
  t21 := Tryd.underlying21
  a21 := Tryd.isAgg21
  z21 := Tryd.sizeOf21
  v21 := Tryd.zeroValue21
  t31 := Tryd.underlying54
  a31 := Tryd.isAgg54
  z31 := Tryd.sizeOf54
  v31 := Tryd.zeroValue54
  t46 := Tryd.underlying78
  a46 := Tryd.isAgg78
  z46 := Tryd.sizeOf78
  v46 := Tryd.zeroValue78
  t51 := Tryd.underlying103
  a51 := Tryd.isAgg103
  z51 := Tryd.sizeOf103
  v51 := Tryd.zeroValue103
  t105 := Tryd.underlying81
  a105 := Tryd.isAgg81
  z105 := Tryd.sizeOf81
  v105 := Tryd.zeroValue81
  t119 := Tryd.underlying99
  a119 := Tryd.isAgg99
  z119 := Tryd.sizeOf99
  t138 := Tryd.underlying101
  a138 := Tryd.isAgg101
  z138 := Tryd.sizeOf101
  v138 := Tryd.zeroValue101
  t139 := Tryd.underlying102
  a139 := Tryd.isAgg102
  z139 := Tryd.sizeOf102
  v139 := Tryd.zeroValue102
  t146 := Tryd.underlying104
  a146 := Tryd.isAgg104
  z146 := Tryd.sizeOf104
  v146 := Tryd.zeroValue104
  g1 := by kernel_rfl
  g3 := by kernel_rfl
  g4 := by kernel_rfl }
open Go.RowKit Go.Lib in theorem Tryd.strings_Split (s sep : ByteArray) (m : Int) (w : World) (hs : s.size < 4294967281) (hm : w.cell? ⟨0, 0, none⟩ = some (.int .i64 m)) (h1 : 1 ≤ sep.size) :
    Calls Tryd.prog 30 #[.string s, .string sep] w fun e w' =>
      e = .returned (.slice (some ⟨w.heap.size, 0, none⟩) (Lib.countB s sep + 1) (Lib.countB s sep + 1)) ∧ w' = w.alloc (.cells ((Lib.splitB sep 0 (Lib.countB s sep) s).map Value.string).toArray 9) := Any.strings_Split Tryd.lays146 (by kernel_rfl) s sep m w hs hm h1
def Tryd.lays105_ren : Go.Shelf.Ren := ⟨fun | 105 => 60 | 212 => 67 | 99 => 68 | 165 => 69 | 166 => 70 | 170 => 71 | 169 => 72 | 263 => 76 | 264 => 77 | 206 => 78 | 240 => 79 | 241 => 80 | 276 => 85 | 277 => 86 | n => n, fun | 9 => 9 | 3 => 3 | 4 => 4 | 20 => 20 | 0 => 0 | 46 => 78 | 109 => 86 | 5 => 5 | 72 => 91 | 76 => 95 | 51 => 103 | 146 => 104 | 53 => 59 | 148 => 107 | 70 => 89 | 37 => 22 | 75 => 94 | 127 => 109 | 164 => 116 | 80 => 98 | n => n, fun | n => n⟩
theorem Tryd.lays105 : Go.Proofs.Lays.n105 Tryd.prog Tryd.lays105_ren := {
  mixed := by kernel_rfl
  f99 := Tryd.func68.trans (congrArg some (by kernel_rfl))
  f105 := Tryd.func60.trans (congrArg some (by kernel_rfl))
  f165 := Tryd.func69.trans (congrArg some (by kernel_rfl))
  f166 := Tryd.func70.trans (congrArg some (by kernel_rfl))
  f169 := Tryd.func72.trans (congrArg some (by kernel_rfl))
  f170 := Tryd.func71.trans (congrArg some (by kernel_rfl))
  f206 := Tryd.func78.trans (congrArg some (by kernel_rfl))
  f212 := Tryd.func67.trans (congrArg some (by kernel_rfl))
  f240 := Tryd.func79.trans (congrArg some (by kernel_rfl))
  f241 := Tryd.func80.trans (congrArg some (by kernel_rfl))
  f263 := Tryd.func76.trans (congrArg some (by kernel_rfl))
  f264 := Tryd.func77.trans (congrArg some (by kernel_rfl))
  f276 := Tryd.func85.trans (congrArg some (by kernel_rfl))
  f277 := Tryd.func86.trans (congrArg some (by kernel_rfl))
  t0 := Tryd.underlying0
  a0 := Tryd.isAgg0
  z0 := Tryd.sizeOf0
  v0 := Tryd.zeroValue0
  t3 := Tryd.underlying3
  a3 := Tryd.isAgg3
  z3 := Tryd.sizeOf3
  v3 := Tryd.zeroValue3
  t4 := Tryd.underlying4
  a4 := Tryd.isAgg4
  z4 := Tryd.sizeOf4
  v4 := Tryd.zeroValue4
  t5 := Tryd.underlying5
  a5 := Tryd.isAgg5
  z5 := Tryd.sizeOf5
  v5 := Tryd.zeroValue5
  t9 := Tryd.underlying9
  a9 := Tryd.isAgg9
  z9 := Tryd.sizeOf9
  v9 := Tryd.zeroValue9
  t20 := Tryd.underlying20
  a20 := Tryd.isAgg20
  z20 := Tryd.sizeOf20
  v20 := Tryd.zeroValue20
  t37 := Tryd.underlying22
  a37 := Tryd.isAgg22
  z37 := Tryd.sizeOf22
  v37 := Tryd.zeroValue22
  t46 := Tryd.underlying78
  a46 := Tryd.isAgg78
  z46 := Tryd.sizeOf78
  v46 := Tryd.zeroValue78
  t51 := Tryd.underlying103
  a51 := Tryd.isAgg103
  z51 := Tryd.sizeOf103
  v51 := Tryd.zeroValue103
  t53 := Tryd.underlying59
  a53 := Tryd.isAgg59
  z53 := Tryd.sizeOf59
  v53 := Tryd.zeroValue59
  t70 := Tryd.underlying89
  a70 := Tryd.isAgg89
  z70 := Tryd.sizeOf89
  v70 := Tryd.zeroValue89
  t72 := Tryd.underlying91
  a72 := Tryd.isAgg91
  z72 := Tryd.sizeOf91
  v72 := Tryd.zeroValue91
  t75 := Tryd.underlying94
  a75 := Tryd.isAgg94
  z75 := Tryd.sizeOf94
  v75 := Tryd.zeroValue94
  t76 := Tryd.underlying95
  a76 := Tryd.isAgg95
  z76 := Tryd.sizeOf95
  v76 := Tryd.zeroValue95
  t109 := Tryd.underlying86
  a109 := Tryd.isAgg86
  z109 := Tryd.sizeOf86
  v109 := Tryd.zeroValue86
  t127 := Tryd.underlying109
  a127 := Tryd.isAgg109
  z127 := Tryd.sizeOf109
  v127 := Tryd.zeroValue109
  t146 := Tryd.underlying104
  a146 := Tryd.isAgg104
  z146 := Tryd.sizeOf104
  v146 := Tryd.zeroValue104
  t148 := Tryd.underlying107
  a148 := Tryd.isAgg107
  z148 := Tryd.sizeOf107
  v148 := Tryd.zeroValue107
  t164 := Tryd.underlying116
  a164 := Tryd.isAgg116
  z164 := Tryd.sizeOf116
  v164 := Tryd.zeroValue116 }
theorem Tryd.Builder_Extra_105 : Builder.Extra Tryd.prog Tryd.lays105_ren := {
  sizeBuilder := by kernel_rfl
  liesBuilder := by kernel_rfl
  t5 := Tryd.underlying5
  a5 := Tryd.isAgg5
  z5 := Tryd.sizeOf5
  v5 := Tryd.zeroValue5
  infoByte := by kernel_rfl
  cellsByte := by kernel_rfl
  sizeByte := by kernel_rfl
  neB5 := by decide }
open Go.RowKit Go.Lib in theorem Tryd.strings_Repeat (s : ByteArray) (c : Nat) (w : World) (hc : c ≤ 9223372036854775807) (hlen : s.size * c ≤ 140737488355328) :
    Calls Tryd.prog 60 #[.string s, .int .i64 c] w fun e w' => e = .returned (.string ⟨(Lib.repeatL s.data.toList c).toArray⟩) ∧ Below w.heap.size w w' := Any.strings_Repeat Tryd.lays105 Tryd.Builder_Extra_105 s c w hc hlen
end Go.Proofs

/- Function 66 (strconv.FormatInt): its contract, off what is known of the library. -/
set_option linter.unusedVariables false
set_option linter.unusedSimpArgs false
set_option maxRecDepth 100000
namespace Go.Proofs.YtobhoepkgkmddaaDoor
open Go Go.Am Go.Proofs

def sig66 : List AT := [AT.v (Ty.int .i64), AT.v (Ty.int .i64)]
def g66_0 (x0 x1 : Int) : ByteArray := numB x0
def P66 (x0 x1 : Int) : Prop := x1 = 10
def S66 : Am.Spec := { sig := sig66, pre := fun ⟨x0, x1, _⟩ => P66 x0 x1, res := fun ⟨x0, x1, _⟩ => [⟨Ty.str, g66_0 x0 x1⟩] }
theorem con66 : Contract Tryd.prog 66 S66 := contract_flat rfl fun w ⟨x0, x1, _⟩ vs bss hg hp hw ha => by
  obtain ⟨v0, s0, _, _, rfl, _, ⟨_, rfl, hi⟩, v1, s1, _, _, rfl, _, ⟨_, rfl, _⟩, rfl, _⟩ := ha
  obtain rfl : x1 = 10 := hp
  have hi : InR .i64 x0 := hi
  rw [i64_iff] at hi
  refine ⟨fun d hd => ?_, ?_⟩
  · rw [List.mem_singleton.1 hd]
    refine ⟨rfl, ?_⟩
    show (numB x0).size ≤ maxLen
    have := numB_size x0 hi.1 hi.2
    unfold maxLen; omega
  · refine (Tryd.strconv_FormatInt_10 x0 hi.1 hi.2 w (pow10G hg)).mono ?_
    rintro e w' ⟨rfl, n, os, rfl⟩
    exact ⟨rfl, kept_grow _ _ _⟩

end Go.Proofs.YtobhoepkgkmddaaDoor

/- Function 59 (impl.Decimal): its runs between cut points. Written by a program of this repo (gen). -/
set_option linter.unusedVariables false
set_option linter.unusedSimpArgs false
set_option maxRecDepth 100000
namespace Go.Proofs.YtobhoepkgkmddaaDoor
open Go Go.Am Go.Proofs
noncomputable section
def ext59 : Ext := [(66, S66)]
theorem call59_66 : Callable Tryd.prog 66 := ⟨Tryd.f66, Tryd.func66, by kernel_rfl, by kernel_rfl⟩
theorem ext59Ok : ExtOk Tryd.prog ext59 := ⟨⟨call59_66, con66⟩, trivial⟩

noncomputable def b59 : Code := bodyOf Tryd.f59
theorem hb59 : Tryd.f59.body = some b59 := by kernel_rfl
def sig59 : List AT := [AT.v (Ty.int IntKind.i64)]
def tys59 : List Ty := [Ty.str]
def kds59 : List RK := []
def oks59 : List AT := owns sig59
def P59 (x0 : Int) : Prop := ((P66 x0 10) ∧ True)
def g59_0 (x0 : Int) : ByteArray := g66_0 x0 10
theorem at59 (x0 : Int) (h : P59 x0) (K : Ctx) (q : Nat → Value) : AtV Tryd.prog 59 (PostR kds59 oks59 [⟨Ty.str, g59_0 x0⟩] [] [] q K) 5 K q [] [.code b59] (entE 0 0 sig59 (x0, ())) (entL sig59 (x0, ())) := by
  unfold P59 at h
  unfold g59_0
  obtain ⟨s0, h⟩ := h
  exact AtV.ret Tryd.func59 tabOk ext59Ok mixed false [] tys59 [] (a1 s0 trivial) (by kernel_rfl)

def S59 : Am.Spec := { sig := sig59, pre := fun ⟨x0, _⟩ => P59 x0, res := fun ⟨x0, _⟩ => [⟨Ty.str, g59_0 x0⟩], kds := kds59 }
theorem con59 : Contract Tryd.prog 59 S59 := contract_of Tryd.func59 hb59 (Nat.le_of_ble_eq_true (by kernel_rfl)) (fun ⟨x0, _⟩ h _ K q => at59 x0 h K q)


end
end Go.Proofs.YtobhoepkgkmddaaDoor

/- Function 60 (strings.Repeat): its contract, off what is known of the library. -/
set_option linter.unusedVariables false
set_option linter.unusedSimpArgs false
set_option maxRecDepth 100000
namespace Go.Proofs.YtobhoepkgkmddaaDoor
open Go Go.Am Go.Proofs

def sig60 : List AT := [AT.v Ty.str, AT.v (Ty.int .i64)]
def g60_0 (x0 : ByteArray) (x1 : Int) : ByteArray := ⟨(Lib.repeatL x0.data.toList x1.toNat).toArray⟩
def P60 (x0 : ByteArray) (x1 : Int) : Prop := 0 ≤ x1 ∧ (x0.size : Int) * x1 ≤ 140737488355328
def S60 : Am.Spec := { sig := sig60, pre := fun ⟨x0, x1, _⟩ => P60 x0 x1, res := fun ⟨x0, x1, _⟩ => [⟨Ty.str, g60_0 x0 x1⟩] }
theorem con60 : Contract Tryd.prog 60 S60 := contract_flat rfl fun w ⟨x0, x1, _⟩ vs bss hg hp hw ha => by
  obtain ⟨v0, s0, _, _, rfl, _, ⟨_, rfl, _⟩, v1, s1, _, _, rfl, _, ⟨_, rfl, _⟩, rfl, _⟩ := ha
  obtain ⟨h0, h1⟩ := hp
  obtain ⟨c, rfl⟩ : ∃ c : Nat, x1 = (c : Int) := Int.eq_ofNat_of_zero_le h0
  have hi : InR .i64 (c : Int) := hw.2.1
  rw [i64_iff] at hi
  have hm : x0.size * c ≤ 140737488355328 := by
    have : ((x0.size * c : Nat) : Int) = (x0.size : Int) * (c : Int) := Int.natCast_mul _ _
    omega
  refine ⟨fun d hd => ?_, ?_⟩
  · rw [List.mem_singleton.1 hd]
    refine ⟨rfl, ?_⟩
    show (ByteArray.mk (Lib.repeatL x0.data.toList c).toArray).size ≤ maxLen
    have : (ByteArray.mk (Lib.repeatL x0.data.toList c).toArray).size = c * x0.data.toList.length := by
      show (Lib.repeatL x0.data.toList c).toArray.size = _
      rw [List.size_toArray, Lib.repeatL_length]
    rw [this, Nat.mul_comm]
    have e : x0.data.toList.length = x0.size := rfl
    rw [e]
    unfold maxLen
    omega
  · refine (Tryd.strings_Repeat x0 c w (by omega) hm).mono ?_
    rintro e w' ⟨rfl, hb⟩
    exact ⟨rfl, Kept.of_below hb⟩

end Go.Proofs.YtobhoepkgkmddaaDoor

/- Function 51 (impl.padded): its runs between cut points. Written by a program of this repo (gen). -/
set_option linter.unusedVariables false
set_option linter.unusedSimpArgs false
set_option maxRecDepth 100000
namespace Go.Proofs.YtobhoepkgkmddaaDoor
open Go Go.Am Go.Proofs
noncomputable section
def ext51 : Ext := [(59, S59), (60, S60)]
theorem call51_59 : Callable Tryd.prog 59 := ⟨Tryd.f59, Tryd.func59, by kernel_rfl, by kernel_rfl⟩
theorem call51_60 : Callable Tryd.prog 60 := ⟨Tryd.f60, Tryd.func60, by kernel_rfl, by kernel_rfl⟩
theorem ext51Ok : ExtOk Tryd.prog ext51 := ⟨⟨call51_59, con59⟩, ⟨call51_60, con60⟩, trivial⟩

noncomputable def b51 : Code := bodyOf Tryd.f51
theorem hb51 : Tryd.f51.body = some b51 := by kernel_rfl
def sig51 : List AT := [AT.v (Ty.int IntKind.i64), AT.v (Ty.int IntKind.i64)]
def tys51 : List Ty := [Ty.str]
def kds51 : List RK := []
def oks51 : List AT := owns sig51
def P51 (x0 : Int) (x1 : Int) : Prop := ((P59 x0) ∧ ((InR IntKind.i64 (x1 - (↑(ByteArray.size (g59_0 x0)) : Int))) ∧ ((P60 (ByteArray.mk #[48]) (if 0 < x1 - (↑(ByteArray.size (g59_0 x0)) : Int) then x1 - (↑(ByteArray.size (g59_0 x0)) : Int) else 0)) ∧ ((ByteArray.size (g60_0 (ByteArray.mk #[48]) (if 0 < x1 - (↑(ByteArray.size (g59_0 x0)) : Int) then x1 - (↑(ByteArray.size (g59_0 x0)) : Int) else 0)) + ByteArray.size (g59_0 x0) ≤ 9223372036854775807) ∧ True))))
def g51_0 (x0 : Int) (x1 : Int) : ByteArray := g60_0 (ByteArray.mk #[48]) (if 0 < x1 - (↑(ByteArray.size (g59_0 x0)) : Int) then x1 - (↑(ByteArray.size (g59_0 x0)) : Int) else 0) ++ g59_0 x0
theorem at51 (x0 : Int) (x1 : Int) (h : P51 x0 x1) (K : Ctx) (q : Nat → Value) : AtV Tryd.prog 51 (PostR kds51 oks51 [⟨Ty.str, g51_0 x0 x1⟩] [] [] q K) 16 K q [] [.code b51] (entE 0 0 sig51 (x0, x1, ())) (entL sig51 (x0, x1, ())) := by
  unfold P51 at h
  unfold g51_0
  obtain ⟨s0, h⟩ := h
  obtain ⟨s1, h⟩ := h
  obtain ⟨s2, h⟩ := h
  obtain ⟨s3, h⟩ := h
  exact AtV.ret Tryd.func51 tabOk ext51Ok mixed false [] tys51 [] (a1 s0 (a1 s1 (a1 s2 (a1 s3 trivial)))) (by kernel_rfl)

def S51 : Am.Spec := { sig := sig51, pre := fun ⟨x0, x1, _⟩ => P51 x0 x1, res := fun ⟨x0, x1, _⟩ => [⟨Ty.str, g51_0 x0 x1⟩], kds := kds51 }
theorem con51 : Contract Tryd.prog 51 S51 := contract_of Tryd.func51 hb51 (Nat.le_of_ble_eq_true (by kernel_rfl)) (fun ⟨x0, x1, _⟩ h _ K q => at51 x0 x1 h K q)


end
end Go.Proofs.YtobhoepkgkmddaaDoor

/- Function 42 (impl.ClockText): its runs between cut points. Written by a program of this repo (gen). -/
set_option linter.unusedVariables false
set_option linter.unusedSimpArgs false
set_option maxRecDepth 100000
namespace Go.Proofs.YtobhoepkgkmddaaDoor
open Go Go.Am Go.Proofs
noncomputable section
def ext42 : Ext := [(20, S20), (51, S51)]
theorem call42_20 : Callable Tryd.prog 20 := ⟨Tryd.f20, Tryd.func20, by kernel_rfl, by kernel_rfl⟩
theorem call42_51 : Callable Tryd.prog 51 := ⟨Tryd.f51, Tryd.func51, by kernel_rfl, by kernel_rfl⟩
theorem ext42Ok : ExtOk Tryd.prog ext42 := ⟨⟨call42_20, con20⟩, ⟨call42_51, con51⟩, trivial⟩

noncomputable def b42 : Code := bodyOf Tryd.f42
theorem hb42 : Tryd.f42.body = some b42 := by kernel_rfl
def sig42 : List AT := [AT.v (Ty.int IntKind.i64)]
def tys42 : List Ty := [Ty.str]
def kds42 : List RK := []
def oks42 : List AT := owns sig42
def P42 (x0 : Int) : Prop := (if (!g20_0 x0 0 1439) = true then True else ((InR IntKind.i64 (Int.tdiv x0 60)) ∧ ((P51 (Int.tdiv x0 60) 2) ∧ ((ByteArray.size (g51_0 (Int.tdiv x0 60) 2) + 1 ≤ 9223372036854775807) ∧ ((InR IntKind.i64 (Int.tmod x0 60)) ∧ ((P51 (Int.tmod x0 60) 2) ∧ ((ByteArray.size (g51_0 (Int.tdiv x0 60) 2 ++ ByteArray.mk #[58]) + ByteArray.size (g51_0 (Int.tmod x0 60) 2) ≤ 9223372036854775807) ∧ True)))))))
def g42_0 (x0 : Int) : ByteArray := (if (!g20_0 x0 0 1439) = true then ByteArray.mk #[] else g51_0 (Int.tdiv x0 60) 2 ++ ByteArray.mk #[58] ++ g51_0 (Int.tmod x0 60) 2)
theorem at42 (x0 : Int) (h : P42 x0) (K : Ctx) (q : Nat → Value) : AtV Tryd.prog 42 (PostR kds42 oks42 [⟨Ty.str, g42_0 x0⟩] [] [] q K) 14 K q [] [.code b42] (entE 0 0 sig42 (x0, ())) (entL sig42 (x0, ())) := by
  unfold P42 at h
  unfold g42_0
  by_cases b0 : (!g20_0 x0 0 1439) = true
  · try simp only [if_pos b0] at h ⊢
    exact AtV.ret Tryd.func42 tabOk ext42Ok mixed false [] tys42 [true] (a1 trivial (a1 b0 trivial)) (by kernel_rfl)
  · try simp only [if_neg b0] at h ⊢
    replace b0 := Bool.eq_false_iff.2 b0
    obtain ⟨s0, h⟩ := h
    obtain ⟨s1, h⟩ := h
    obtain ⟨s2, h⟩ := h
    obtain ⟨s3, h⟩ := h
    obtain ⟨s4, h⟩ := h
    obtain ⟨s5, h⟩ := h
    exact AtV.ret Tryd.func42 tabOk ext42Ok mixed false [] tys42 [false] (a1 trivial (a1 b0 (a1 ((by decide) : (60 : Int) ≠ (0 : Int)) (a1 s0 (a1 s1 (a1 s2 (a1 ((by decide) : (60 : Int) ≠ (0 : Int)) (a1 s3 (a1 s4 (a1 s5 trivial)))))))))) (by kernel_rfl)

def S42 : Am.Spec := { sig := sig42, pre := fun ⟨x0, _⟩ => P42 x0, res := fun ⟨x0, _⟩ => [⟨Ty.str, g42_0 x0⟩], kds := kds42 }
theorem con42 : Contract Tryd.prog 42 S42 := contract_of Tryd.func42 hb42 (Nat.le_of_ble_eq_true (by kernel_rfl)) (fun ⟨x0, _⟩ h _ K q => at42 x0 h K q)


end
end Go.Proofs.YtobhoepkgkmddaaDoor

/- Function 33 (impl.dayClock): its runs between cut points. Written by a program of this repo (gen). -/
set_option linter.unusedVariables false
set_option linter.unusedSimpArgs false
set_option maxRecDepth 100000
namespace Go.Proofs.YtobhoepkgkmddaaDoor
open Go Go.Am Go.Proofs
noncomputable section
def ext33 : Ext := [(42, S42)]
theorem call33_42 : Callable Tryd.prog 42 := ⟨Tryd.f42, Tryd.func42, by kernel_rfl, by kernel_rfl⟩
theorem ext33Ok : ExtOk Tryd.prog ext33 := ⟨⟨call33_42, con42⟩, trivial⟩

noncomputable def b33 : Code := bodyOf Tryd.f33
theorem hb33 : Tryd.f33.body = some b33 := by kernel_rfl
def sig33 : List AT := [AT.v (Ty.int IntKind.i64)]
def tys33 : List Ty := [Ty.str]
def kds33 : List RK := []
def oks33 : List AT := owns sig33
def P33 (x0 : Int) : Prop := (if (x0 == 1440) = true then True else ((P42 x0) ∧ True))
def g33_0 (x0 : Int) : ByteArray := (if (x0 == 1440) = true then ByteArray.mk #[50, 52, 58, 48, 48] else g42_0 x0)
theorem at33 (x0 : Int) (h : P33 x0) (K : Ctx) (q : Nat → Value) : AtV Tryd.prog 33 (PostR kds33 oks33 [⟨Ty.str, g33_0 x0⟩] [] [] q K) 7 K q [] [.code b33] (entE 0 0 sig33 (x0, ())) (entL sig33 (x0, ())) := by
  unfold P33 at h
  unfold g33_0
  by_cases b0 : (x0 == 1440) = true
  · try simp only [if_pos b0] at h ⊢
    exact AtV.ret Tryd.func33 tabOk ext33Ok mixed false [] tys33 [true] (a1 b0 trivial) (by kernel_rfl)
  · try simp only [if_neg b0] at h ⊢
    replace b0 := Bool.eq_false_iff.2 b0
    obtain ⟨s0, h⟩ := h
    exact AtV.ret Tryd.func33 tabOk ext33Ok mixed false [] tys33 [false] (a1 b0 (a1 s0 trivial)) (by kernel_rfl)

def S33 : Am.Spec := { sig := sig33, pre := fun ⟨x0, _⟩ => P33 x0, res := fun ⟨x0, _⟩ => [⟨Ty.str, g33_0 x0⟩], kds := kds33 }
theorem con33 : Contract Tryd.prog 33 S33 := contract_of Tryd.func33 hb33 (Nat.le_of_ble_eq_true (by kernel_rfl)) (fun ⟨x0, _⟩ h _ K q => at33 x0 h K q)


end
end Go.Proofs.YtobhoepkgkmddaaDoor
