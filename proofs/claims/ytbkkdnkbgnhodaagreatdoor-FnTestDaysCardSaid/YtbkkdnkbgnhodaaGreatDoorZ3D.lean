/- Several texts in one: the functions that this law reaches, and their laws. -/
import Derived.Test.YtbkkdnkbgnhodaaGreatDoorZ3A
import Derived.Test.YtbkkdnkbgnhodaaGreatDoorZ3B
import Derived.Test.YtbkkdnkbgnhodaaGreatDoorZ3C
import Derived.Lib.SliceRun
import Derived.Laws.AppendOwn
import Derived.WalkKit
import Derived.Deep.LoopGhost
import Derived.Lib.Walk
import Derived.Shelf.RegionOpenPlain
import Derived.Shelf.Strings.Builder1
import Derived.Shelf.Strings.Builder2
import Derived.Shelf.Strings.OnBuilder
import Derived.Shelf.Strings.BuilderF
import Derived.Shelf.Strings.BuilderK
import Derived.Shelf.Utf8.RuneCount
import Derived.Shelf.Strconv.Itoa0
import Derived.Shelf.Strconv.Itoa1
import Derived.Shelf.LaysM
import Derived.Shelf.Strconv.Itoa2
import Derived.Shelf.Strconv.Itoa3
import Derived.Shelf.Strconv.Itoa4
import Derived.Shelf.Strconv.ParseIntEmpty
import Derived.Shelf.Strconv.Clone
import Derived.Shelf.Strconv.SyntaxError
import Derived.Shelf.LaysC
import Derived.Shelf.Strconv.ToError
import Derived.Shelf.Strconv.Lower
import Derived.Shelf.Strconv.ParseUint10
import Derived.Shelf.Strconv.ParseUint10Empty
import Derived.Shelf.Strconv.ParseUint10Any
import Derived.Shelf.Strconv.ParseInt10
import Derived.Shelf.Strconv.RangeError
import Derived.Shelf.Strconv.ToErrorRange
import Derived.Shelf.Strconv.ParseUintEmpty
import Derived.Shelf.Strconv.ParseUint10b64
import Derived.Shelf.Strconv.ParseUint10b32
import Derived.Shelf.Strconv.ParseUint10b16
import Derived.Shelf.Strconv.ParseUint10b8
import Derived.Shelf.Strconv.ParseUint10At
import Derived.Shelf.Strconv.ParseInt10At64
import Derived.Shelf.Strconv.ParseInt10At32
import Derived.Shelf.Strconv.ParseInt10At16
import Derived.Shelf.Strconv.ParseInt10At8
import Derived.Shelf.Strconv.ParseInt10All
import Derived.Shelf.Strconv.ParseIntPublic10
import Derived.Shelf.Strings.Search1
import Derived.Shelf.Strings.Search2
import Derived.Shelf.Strings.Search3
import Derived.Shelf.Strings.Cut
import Derived.Shelf.Strings.Count
import Derived.Shelf.Strings.Shaped
import Derived.Shelf.Strings.Prefix
import Derived.Shelf.Strings.Split
import Derived.Shelf.Strings.SplitShaped
import Derived.Shelf.Unicode.Decode
import Derived.Shelf.Strings.RuneCount
import Derived.Shelf.Strings.Explode
import Derived.Shelf.Bits.Mul64
import Derived.Shelf.Strings.Repeat
import Derived.Shelf.Unicode.DecodeSlow
import Derived.Shelf.Unicode.DecodeAny

/- Function 15 (spec.l22Draw): its runs between cut points. Written by a program of this repo (gen). -/
set_option linter.unusedVariables false
set_option linter.unusedSimpArgs false
set_option maxRecDepth 100000
namespace Go.Proofs.YtbkkdnkbgnhodaaGreatDoor
open Go Go.Am Go.Proofs
noncomputable section
def ext15 : Ext := [(17, S17), (16, S16), (18, S18)]
theorem call15_17 : Callable Tryz.prog 17 := ⟨Tryz.f17, Tryz.func17, by kernel_rfl, by kernel_rfl⟩
theorem call15_16 : Callable Tryz.prog 16 := ⟨Tryz.f16, Tryz.func16, by kernel_rfl, by kernel_rfl⟩
theorem call15_18 : Callable Tryz.prog 18 := ⟨Tryz.f18, Tryz.func18, by kernel_rfl, by kernel_rfl⟩
theorem ext15Ok : ExtOk Tryz.prog ext15 := ⟨⟨call15_17, con17⟩, ⟨call15_16, con16⟩, ⟨call15_18, con18⟩, trivial⟩

noncomputable def b15 : Code := bodyOf Tryz.f15
theorem hb15 : Tryz.f15.body = some b15 := by kernel_rfl
def sig15 : List AT := [AT.pb (Ty.cons (Ty.sl (Ty.int IntKind.u8)) (Ty.cons (Ty.int IntKind.i64) (Ty.cons (Ty.int IntKind.u64) Ty.unit)))]
def tys15 : List Ty := [Ty.sl (Ty.cons (Ty.int IntKind.i64) (Ty.cons (Ty.int IntKind.i64) (Ty.cons (Ty.int IntKind.i64) Ty.unit)))]
def kds15 : List RK := []
def oks15 : List AT := owns sig15
def E15_4 (v5 : Int) (h0 : List Int × Int × Int × Unit) (h1 : List (Int × Int × Int × Unit)) (h2 : Int × Int × Int × Unit) : Env := [(0, PV.a (Atom.optr 0 0 [])), (3, PV.a (Atom.osl 1 Option.none)), (4, PV.a (Atom.optr 2 0 [])), (5, PV.a (Atom.val (Value.int IntKind.i64 v5)))]
def L15_4 (v5 : Int) (h0 : List Int × Int × Int × Unit) (h1 : List (Int × Int × Int × Unit)) (h2 : Int × Int × Int × Unit) : Heap := [Option.some (Arr.mk (Ty.cons (Ty.sl (Ty.int IntKind.u8)) (Ty.cons (Ty.int IntKind.i64) (Ty.cons (Ty.int IntKind.u64) Ty.unit))) [h0] Bool.true Option.none (Option.some Bool.true)), Option.some (Arr.mk (Ty.cons (Ty.int IntKind.i64) (Ty.cons (Ty.int IntKind.i64) (Ty.cons (Ty.int IntKind.i64) Ty.unit))) h1 Bool.false Option.none Option.none), Option.some (Arr.mk (Ty.cons (Ty.int IntKind.i64) (Ty.cons (Ty.int IntKind.i64) (Ty.cons (Ty.int IntKind.i64) Ty.unit))) [h2] Bool.true Option.none (Option.some Bool.false))]
def E15_16 (v8 : Int) (h1 : List (Int × Int × Int × Unit)) (h0 : List Int × Int × Int × Unit) : Env := [(0, PV.a (Atom.optr 0 0 [])), (3, PV.a (Atom.osl 1 Option.none)), (7, PV.a (Atom.val (Value.int IntKind.i64 (g18_0 (u17_0 h0 20) [24, 25])))), (8, PV.a (Atom.val (Value.int IntKind.i64 v8)))]
def L15_16 (v8 : Int) (h1 : List (Int × Int × Int × Unit)) (h0 : List Int × Int × Int × Unit) : Heap := [Option.some (Arr.mk (Ty.cons (Ty.sl (Ty.int IntKind.u8)) (Ty.cons (Ty.int IntKind.i64) (Ty.cons (Ty.int IntKind.u64) Ty.unit))) [u18_0 (u17_0 h0 20) [24, 25]] Bool.true Option.none (Option.some Bool.true)), Option.some (Arr.mk (Ty.cons (Ty.int IntKind.i64) (Ty.cons (Ty.int IntKind.i64) (Ty.cons (Ty.int IntKind.i64) Ty.unit))) h1 Bool.false Option.none Option.none)]
mutual
def R15 : Nat → List Int × Int × Int × Unit → List Dyn → List (Option Lst) → Prop
  | 0, _, _, _ => False
  | n + 1, x0, ds, us => ((P17 x0 7) ∧ (R15_4 n (g17_0 x0 7) (u17_0 x0 7) ([]) ((8000, 0, 0, ())) ds us))
def R15_4 : Nat → Int → List Int × Int × Int × Unit → List (Int × Int × Int × Unit) → Int × Int × Int × Unit → List Dyn → List (Option Lst) → Prop
  | 0, _, _, _, _, _, _ => False
  | n + 1, v5, h0, h1, h2, ds, us => (if (Decidable.decide (v5 > 0)) = true then ((InR IntKind.i64 (Prod.fst h2 + 1)) ∧ ((P16 h0 (Prod.fst h2 + 1) (Prod.fst (Prod.snd h2)) (Prod.fst (Prod.snd (Prod.snd h2)))) ∧ (((List.length h1 + 1) * 24 ≤ 140737488355328) ∧ ((InR IntKind.i64 (v5 - 1)) ∧ (R15_4 n (v5 - 1) (u16_0 h0 (Prod.fst h2 + 1) (Prod.fst (Prod.snd h2)) (Prod.fst (Prod.snd (Prod.snd h2)))) (h1 ++ [(Prod.fst h2 + 1 + 30 * g17_0 h0 12, Prod.fst (Prod.snd h2) + g17_0 (u17_0 h0 12) 9, g33_0 1000 (Prod.fst (Prod.snd (Prod.snd h2)) + g17_0 (u17_0 (u17_0 h0 12) 9) 20), ())]) ((Prod.fst h2 + 1 + 30 * g17_0 h0 12, Prod.fst (Prod.snd h2) + g17_0 (u17_0 h0 12) 9, g33_0 1000 (Prod.fst (Prod.snd (Prod.snd h2)) + g17_0 (u17_0 (u17_0 h0 12) 9) 20), ())) ds us))))) else ((P17 h0 20) ∧ (if (g17_0 h0 20 == 0) = true then ((P18 (u17_0 h0 20) [-1, 36524, 36525]) ∧ ((P18 (u18_0 (u17_0 h0 20) [-1, 36524, 36525]) [24000, 24001]) ∧ (((List.length h1 + 1) * 24 ≤ 140737488355328) ∧ (ds = [Dyn.mk (Ty.sl (Ty.cons (Ty.int IntKind.i64) (Ty.cons (Ty.int IntKind.i64) (Ty.cons (Ty.int IntKind.i64) Ty.unit)))) (h1 ++ [(g18_0 (u17_0 h0 20) [-1, 36524, 36525], g18_0 (u18_0 (u17_0 h0 20) [-1, 36524, 36525]) [24000, 24001], 0, ())])] ∧ us = [Option.some (Lst.mk (Ty.cons (Ty.sl (Ty.int IntKind.u8)) (Ty.cons (Ty.int IntKind.i64) (Ty.cons (Ty.int IntKind.u64) Ty.unit))) [u18_0 (u18_0 (u17_0 h0 20) [-1, 36524, 36525]) [24000, 24001]])])))) else (if (g17_0 h0 20 == 1) = true then ((P18 (u17_0 h0 20) [24, 25]) ∧ (R15_16 n (0) ([]) (h0) ds us)) else (ds = [Dyn.mk (Ty.sl (Ty.cons (Ty.int IntKind.i64) (Ty.cons (Ty.int IntKind.i64) (Ty.cons (Ty.int IntKind.i64) Ty.unit)))) h1] ∧ us = [Option.some (Lst.mk (Ty.cons (Ty.sl (Ty.int IntKind.u8)) (Ty.cons (Ty.int IntKind.i64) (Ty.cons (Ty.int IntKind.u64) Ty.unit))) [u17_0 h0 20])])))))
def R15_16 : Nat → Int → List (Int × Int × Int × Unit) → List Int × Int × Int × Unit → List Dyn → List (Option Lst) → Prop
  | 0, _, _, _, _, _ => False
  | n + 1, v8, h1, h0, ds, us => (if (Decidable.decide (v8 < g18_0 (u17_0 h0 20) [24, 25])) = true then ((InR IntKind.i64 (10 * v8)) ∧ ((InR IntKind.i64 (8000 + 10 * v8)) ∧ (((List.length h1 + 1) * 24 ≤ 140737488355328) ∧ ((InR IntKind.i64 (v8 + 1)) ∧ (R15_16 n (v8 + 1) (h1 ++ [(8000 + 10 * v8, v8, 0, ())]) (h0) ds us))))) else (ds = [Dyn.mk (Ty.sl (Ty.cons (Ty.int IntKind.i64) (Ty.cons (Ty.int IntKind.i64) (Ty.cons (Ty.int IntKind.i64) Ty.unit)))) h1] ∧ us = [Option.some (Lst.mk (Ty.cons (Ty.sl (Ty.int IntKind.u8)) (Ty.cons (Ty.int IntKind.i64) (Ty.cons (Ty.int IntKind.u64) Ty.unit))) [u18_0 (u17_0 h0 20) [24, 25]])]))
end
theorem snd15 : ∀ n, (∀ (x0 : List Int × Int × Int × Unit) ds us, R15 n x0 ds us → ∀ K q, AtV Tryz.prog 15 (PostR kds15 oks15 ds us [0] q K) 65 K q [0] [.code b15] (entE 0 0 sig15 (x0, ())) (entL sig15 (x0, ()))) ∧ (∀ (v5 : Int) (h0 : List Int × Int × Int × Unit) (h1 : List (Int × Int × Int × Unit)) (h2 : Int × Int × Int × Unit) ds us, R15_4 n v5 h0 h1 h2 ds us → ∀ K q, AtV Tryz.prog 15 (PostR kds15 oks15 ds us [0] q K) 65 K q [0] (cutAt b15 4) (E15_4 v5 h0 h1 h2) (L15_4 v5 h0 h1 h2)) ∧ (∀ (v8 : Int) (h1 : List (Int × Int × Int × Unit)) (h0 : List Int × Int × Int × Unit) ds us, R15_16 n v8 h1 h0 ds us → ∀ K q, AtV Tryz.prog 15 (PostR kds15 oks15 ds us [0] q K) 65 K q [0] (cutAt b15 16) (E15_16 v8 h1 h0) (L15_16 v8 h1 h0)) := by
  intro n
  induction n with
  | zero => exact ⟨fun _ _ _ h => by simp only [R15] at h, fun _ _ _ _ _ _ h => by simp only [R15_4] at h, fun _ _ _ _ _ h => by simp only [R15_16] at h⟩
  | succ n ih =>
  obtain ⟨ih, ih4, ih16⟩ := ih
  refine ⟨?_, ?_, ?_⟩
  · intro x0 ds us h K q
    rw [R15] at h
    obtain ⟨s0, h⟩ := h
    exact AtV.go tabOk ext15Ok mixed false [] [] [0, 3, 4, 5] [0, 1, 2] [] (a1 s0 trivial) (ih4 _ _ _ _ _ _ h K q) (by kernel_rfl)

  · intro v5 h0 h1 h2 ds us h K q
    rw [R15_4] at h
    by_cases b0 : (Decidable.decide (v5 > 0)) = true
    · rw [if_pos b0] at h
      obtain ⟨s0, h⟩ := h
      obtain ⟨s1, h⟩ := h
      obtain ⟨s2, h⟩ := h
      obtain ⟨s3, h⟩ := h
      exact AtV.go tabOk ext15Ok mixed false [] [] [0, 3, 4, 5] [0, 1, 2] [true] (a1 b0 (a1 s0 (a1 s1 (a1 s2 (a1 s3 trivial))))) (ih4 _ _ _ _ _ _ h K q) (by kernel_rfl)
    · rw [if_neg b0] at h
      replace b0 := Bool.eq_false_iff.2 b0
      obtain ⟨s0, h⟩ := h
      by_cases b1 : (g17_0 h0 20 == 0) = true
      · rw [if_pos b1] at h
        obtain ⟨s1, h⟩ := h
        obtain ⟨s2, h⟩ := h
        obtain ⟨s3, h⟩ := h
        obtain ⟨h, h'⟩ := h; subst h; subst h'
        exact AtV.ret Tryz.func15 tabOk ext15Ok mixed false [] tys15 [false, true] (a1 b0 (a1 s0 (a1 b1 (a1 s1 (a1 s2 (a1 s3 trivial)))))) (by kernel_rfl)
      · rw [if_neg b1] at h
        replace b1 := Bool.eq_false_iff.2 b1
        by_cases b2 : (g17_0 h0 20 == 1) = true
        · rw [if_pos b2] at h
          obtain ⟨s1, h⟩ := h
          exact AtV.go tabOk ext15Ok mixed false [] [] [0, 3, 7, 8] [0, 4] [false, false, true] (a1 b0 (a1 s0 (a1 b1 (a1 b2 (a1 s1 trivial))))) (ih16 _ _ _ _ _ h K q) (by kernel_rfl)
        · rw [if_neg b2] at h
          replace b2 := Bool.eq_false_iff.2 b2
          obtain ⟨h, h'⟩ := h; subst h; subst h'
          exact AtV.ret Tryz.func15 tabOk ext15Ok mixed false [] tys15 [false, false, false] (a1 b0 (a1 s0 (a1 b1 (a1 b2 trivial)))) (by kernel_rfl)

  · intro v8 h1 h0 ds us h K q
    rw [R15_16] at h
    by_cases b0 : (Decidable.decide (v8 < g18_0 (u17_0 h0 20) [24, 25])) = true
    · rw [if_pos b0] at h
      obtain ⟨s0, h⟩ := h
      obtain ⟨s1, h⟩ := h
      obtain ⟨s2, h⟩ := h
      obtain ⟨s3, h⟩ := h
      exact AtV.go tabOk ext15Ok mixed false [] [] [0, 3, 7, 8] [0, 1] [true] (a1 b0 (a1 s0 (a1 s1 (a1 s2 (a1 s3 trivial))))) (ih16 _ _ _ _ _ h K q) (by kernel_rfl)
    · rw [if_neg b0] at h
      replace b0 := Bool.eq_false_iff.2 b0
      obtain ⟨h, h'⟩ := h; subst h; subst h'
      exact AtV.ret Tryz.func15 tabOk ext15Ok mixed false [] tys15 [false] (a1 b0 trivial) (by kernel_rfl)



abbrev TT15 := Int × Int × Int × Unit
def P15 (x0 : (List Int × Int × Int × Unit)) : Prop := SrcOk 800000000 x0
def bnd15 (t : TT15) : Prop := (-1 ≤ t.1 ∧ t.1 ≤ 200000) ∧ (0 ≤ t.2.1 ∧ t.2.1 ≤ 200000) ∧ (0 ≤ t.2.2.1 ∧ t.2.2.1 ≤ 1000)
theorem bnd_add15 {h : List TT15} {t : TT15} (hb : ∀ x ∈ h, bnd15 x) (ht : bnd15 t) : ∀ x ∈ h ++ [t], bnd15 x := fun x hx => by
  rcases List.mem_append.1 hx with hx | hx
  · exact hb x hx
  · rw [List.mem_singleton.1 hx]; exact ht
def Q15 (x0 : (List Int × Int × Int × Unit)) (y : List TT15) (s : (List Int × Int × Int × Unit)) : Prop := SrcOk (x0.2.1 + 1000) s ∧ (y.length ≤ 30 ∧ ∀ x ∈ y, bnd15 x) ∧ ∃ n, R15 n x0 [⟨.sl (.cons (.int .i64) (.cons (.int .i64) (.cons (.int .i64) .unit))), y⟩] [some ⟨(.cons (.sl (.int .u8)) (.cons (.int .i64) (.cons (.int .u64) .unit))), [s]⟩]

theorem many15 (x0 : (List Int × Int × Int × Unit)) (M : Nat) (hM : g18_0 (u17_0 x0 20) [24, 25] = (M : Int)) (hM2 : M ≤ 25) : ∀ (k i : Nat) (h : List TT15), i + k = M → h.length = i → (∀ x ∈ h, bnd15 x) →
    ∃ (n : Nat) (y : List TT15), (y.length ≤ 30 ∧ ∀ x ∈ y, bnd15 x) ∧ R15_16 n (i : Int) h x0 [⟨.sl (.cons (.int .i64) (.cons (.int .i64) (.cons (.int .i64) .unit))), y⟩] [some ⟨(.cons (.sl (.int .u8)) (.cons (.int .i64) (.cons (.int .u64) .unit))), [u18_0 (u17_0 x0 20) [24, 25]]⟩] := by
  intro k
  induction k with
  | zero =>
    intro i h hi hl hb
    refine ⟨1, h, ⟨by omega, hb⟩, ?_⟩
    rw [R15_16, hM, if_neg (by simp only [decide_eq_true_eq]; omega)]
    exact ⟨rfl, rfl⟩
  | succ k ih =>
    intro i h hi hl hb
    obtain ⟨n, y, a1, a2⟩ := ih (i + 1) (h ++ [(8000 + 10 * (i : Int), (i : Int), 0, ())]) (by omega) (by rw [List.length_append, List.length_singleton]; omega) (bnd_add15 hb ⟨⟨by show (-1 : Int) ≤ 8000 + 10 * (i : Int); omega, by show 8000 + 10 * (i : Int) ≤ 200000; omega⟩, ⟨by show (0 : Int) ≤ (i : Int); omega, by show (i : Int) ≤ 200000; omega⟩, ⟨by show (0 : Int) ≤ 0; decide, by show (0 : Int) ≤ 1000; decide⟩⟩)
    have e : (i : Int) + 1 = ((i + 1 : Nat) : Int) := by omega
    refine ⟨n + 1, y, a1, ?_⟩
    rw [R15_16, hM, if_pos (by simp only [decide_eq_true_eq]; omega), e]
    exact ⟨by rw [i64_iff]; omega, by rw [i64_iff]; omega, by omega, by rw [i64_iff]; omega, a2⟩

theorem run15 : ∀ (k : Nat) (v : Int) (s : (List Int × Int × Int × Unit)) (h : List TT15) (t : TT15) (m : Int), v = (k : Int) → SrcOk m s → m + 8 * (k : Int) ≤ 900000000 → h.length + k ≤ 20 → (0 ≤ t.1 ∧ t.1 + 400 * (k : Int) ≤ 100000) → (0 ≤ t.2.1 ∧ t.2.1 + 10 * (k : Int) ≤ 100000) → (0 ≤ t.2.2.1 ∧ t.2.2.1 ≤ 1000) → (∀ x ∈ h, bnd15 x) →
    ∃ (n : Nat) (y : List TT15) (z : (List Int × Int × Int × Unit)), SrcOk (m + 8 * (k : Int) + 100) z ∧ (y.length ≤ 30 ∧ ∀ x ∈ y, bnd15 x) ∧ R15_4 n v s h t [⟨.sl (.cons (.int .i64) (.cons (.int .i64) (.cons (.int .i64) .unit))), y⟩] [some ⟨(.cons (.sl (.int .u8)) (.cons (.int .i64) (.cons (.int .u64) .unit))), [z]⟩] := by
  intro k
  induction k with
  | zero =>
    intro v s h t m hv hs hm hl _ _ _ hbd
    obtain ⟨p1, s1, _⟩ := pick_ok hs 20 (by omega)
    by_cases c0 : (g17_0 s 20 == 0) = true
    · obtain ⟨p2, s2, hm2⟩ := among_ok s1 [-1, 36524, 36525] (by decide) (by omega)
      obtain ⟨p3, s3, hm3⟩ := among_ok s2 [24000, 24001] (by decide) (by omega)
      have hq : bnd15 (g18_0 (u17_0 s 20) [-1, 36524, 36525], g18_0 (u18_0 (u17_0 s 20) [-1, 36524, 36525]) [24000, 24001], 0, ()) := by
        simp only [List.mem_cons, List.mem_nil_iff, or_false] at hm2 hm3
        refine ⟨?_, ?_, ⟨by show (0 : Int) ≤ 0; decide, by show (0 : Int) ≤ 1000; decide⟩⟩
        · show -1 ≤ g18_0 (u17_0 s 20) [-1, 36524, 36525] ∧ g18_0 (u17_0 s 20) [-1, 36524, 36525] ≤ 200000
          omega
        · show 0 ≤ g18_0 (u18_0 (u17_0 s 20) [-1, 36524, 36525]) [24000, 24001] ∧ g18_0 (u18_0 (u17_0 s 20) [-1, 36524, 36525]) [24000, 24001] ≤ 200000
          omega
      refine ⟨1, h ++ [(g18_0 (u17_0 s 20) [-1, 36524, 36525], g18_0 (u18_0 (u17_0 s 20) [-1, 36524, 36525]) [24000, 24001], 0, ())], _, s3.up (by omega), ⟨by simp; omega, bnd_add15 hbd hq⟩, ?_⟩
      rw [R15_4, if_neg (by simp only [decide_eq_true_eq]; omega), if_pos c0]
      exact ⟨p1, p2, p3, by omega, rfl, rfl⟩
    · by_cases c1 : (g17_0 s 20 == 1) = true
      · obtain ⟨p2, s2, hm2⟩ := among_ok s1 [24, 25] (by decide) (by omega)
        have hM : ∃ j : Nat, g18_0 (u17_0 s 20) [24, 25] = (j : Int) ∧ j ≤ 25 := by
          simp only [List.mem_cons, List.mem_nil_iff, or_false] at hm2
          rcases hm2 with e | e
          · exact ⟨24, e, by decide⟩
          · exact ⟨25, e, by decide⟩
        obtain ⟨j, hj, hj2⟩ := hM
        obtain ⟨n, y, a1, a2⟩ := many15 s j hj hj2 j 0 [] (by omega) rfl (fun x hx => by cases hx)
        refine ⟨n + 1, y, _, s2.up (by omega), a1, ?_⟩
        rw [R15_4, if_neg (by simp only [decide_eq_true_eq]; omega), if_neg c0, if_pos c1]
        exact ⟨p1, p2, a2⟩
      · refine ⟨1, h, _, s1.up (by omega), ⟨by omega, hbd⟩, ?_⟩
        rw [R15_4, if_neg (by simp only [decide_eq_true_eq]; omega), if_neg c0, if_neg c1]
        exact ⟨p1, rfl, rfl⟩
  | succ k ih =>
    intro v s h t m hv hs hm hl ht hb hw hbd
    obtain ⟨p1, s1, d1, d2, d3⟩ := draw_test hs (by omega) (a := t.1 + 1) (b := t.2.1) (c := t.2.2.1) ⟨by omega, by omega⟩ ⟨by omega, by omega⟩ hw
    obtain ⟨n, y, z, e1, e2, e3⟩ := ih (v - 1) _ (h ++ [(t.1 + 1 + 30 * g17_0 s 12, t.2.1 + g17_0 (u17_0 s 12) 9, g33_0 1000 (t.2.2.1 + g17_0 (u17_0 (u17_0 s 12) 9) 20), ())]) (t.1 + 1 + 30 * g17_0 s 12, t.2.1 + g17_0 (u17_0 s 12) 9, g33_0 1000 (t.2.2.1 + g17_0 (u17_0 (u17_0 s 12) 9) 20), ()) (m + 8) (by omega) (s1.up (by omega)) (by omega) (by rw [List.length_append, List.length_singleton]; omega) ⟨by show (0 : Int) ≤ t.1 + 1 + 30 * _; omega, by show t.1 + 1 + 30 * _ + _ ≤ (100000 : Int); omega⟩ ⟨by show (0 : Int) ≤ t.2.1 + _; omega, by show t.2.1 + _ + _ ≤ (100000 : Int); omega⟩ d3 (bnd_add15 hbd ⟨⟨by show (-1 : Int) ≤ t.1 + 1 + 30 * _; omega, by show t.1 + 1 + 30 * _ ≤ (200000 : Int); omega⟩, ⟨by show (0 : Int) ≤ t.2.1 + _; omega, by show t.2.1 + _ ≤ (200000 : Int); omega⟩, d3⟩)
    refine ⟨n + 1, y, z, e1.up (by omega), e2, ?_⟩
    rw [R15_4, if_pos (by simp only [decide_eq_true_eq]; omega)]
    exact ⟨by rw [i64_iff]; omega, p1, by omega, by rw [i64_iff]; omega, e3⟩

theorem ex15 (x0 : (List Int × Int × Int × Unit)) (h : P15 x0) : ∃ y s, Q15 x0 y s := by
  have h0 : x0.2.1 ≤ 800000000 := h.2.2
  obtain ⟨p1, s1, a, b, _⟩ := pick_ok (SrcOk.self h) 7 (by omega)
  have b := b (by decide)
  obtain ⟨n, y, t, a1, a2, a3⟩ := run15 (g17_0 x0 7).toNat (g17_0 x0 7) (u17_0 x0 7) [] (8000, 0, 0, ()) _ (by omega) s1 (by omega) (by simp; omega) ⟨by decide, by show (8000 : Int) + _ ≤ 100000; omega⟩ ⟨by decide, by show (0 : Int) + _ ≤ 100000; omega⟩ ⟨by decide, by decide⟩ (fun x hx => by cases hx)
  exact ⟨y, t, a1.up (by omega), a2, n + 1, by rw [R15]; exact ⟨p1, a3⟩⟩

def g15_0 (x0 : (List Int × Int × Int × Unit)) : List TT15 := (sel2 [] x0 (Q15 x0)).1
def u15_0 (x0 : (List Int × Int × Int × Unit)) : (List Int × Int × Int × Unit) := (sel2 [] x0 (Q15 x0)).2
theorem q15 (x0 : (List Int × Int × Int × Unit)) (h : P15 x0) : Q15 x0 (g15_0 x0) (u15_0 x0) := by
  obtain ⟨y, s, hq⟩ := ex15 x0 h
  exact sel2_spec hq

def S15 : Am.Spec := { sig := sig15, pre := fun ⟨x0, _⟩ => P15 x0, upd := fun ⟨x0, _⟩ => [some ⟨(.cons (.sl (.int .u8)) (.cons (.int .i64) (.cons (.int .u64) .unit))), [u15_0 x0]⟩], res := fun ⟨x0, _⟩ => [⟨.sl (.cons (.int .i64) (.cons (.int .i64) (.cons (.int .i64) .unit))), g15_0 x0⟩], kds := kds15 }
theorem con15 : Contract Tryz.prog 15 S15 := contract_of Tryz.func15 hb15 (Nat.le_of_ble_eq_true (by kernel_rfl)) (fun ⟨x0, _⟩ h hwf K q =>
  let ⟨n, hn⟩ := (q15 x0 h).2.2
  (snd15 n).1 x0 _ _ hn K q)

end
end Go.Proofs.YtbkkdnkbgnhodaaGreatDoor

/- Function 5 (spec.DrawAddTest): its runs between cut points. Written by a program of this repo (gen). -/
set_option linter.unusedVariables false
set_option linter.unusedSimpArgs false
set_option maxRecDepth 100000
namespace Go.Proofs.YtbkkdnkbgnhodaaGreatDoor
open Go Go.Am Go.Proofs
noncomputable section
def ext5 : Ext := [(14, S14), (15, S15), (16, S16), (17, S17), (18, S18)]
theorem call5_14 : Callable Tryz.prog 14 := ⟨Tryz.f14, Tryz.func14, by kernel_rfl, by kernel_rfl⟩
theorem call5_15 : Callable Tryz.prog 15 := ⟨Tryz.f15, Tryz.func15, by kernel_rfl, by kernel_rfl⟩
theorem call5_16 : Callable Tryz.prog 16 := ⟨Tryz.f16, Tryz.func16, by kernel_rfl, by kernel_rfl⟩
theorem call5_17 : Callable Tryz.prog 17 := ⟨Tryz.f17, Tryz.func17, by kernel_rfl, by kernel_rfl⟩
theorem call5_18 : Callable Tryz.prog 18 := ⟨Tryz.f18, Tryz.func18, by kernel_rfl, by kernel_rfl⟩
theorem ext5Ok : ExtOk Tryz.prog ext5 := ⟨⟨call5_14, con14⟩, ⟨call5_15, con15⟩, ⟨call5_16, con16⟩, ⟨call5_17, con17⟩, ⟨call5_18, con18⟩, trivial⟩

noncomputable def b5 : Code := bodyOf Tryz.f5
theorem hb5 : Tryz.f5.body = some b5 := by kernel_rfl
def sig5 : List AT := [AT.v (Ty.sl (Ty.int IntKind.u8))]
def tys5 : List Ty := [Ty.sl (Ty.cons (Ty.int IntKind.i64) (Ty.cons (Ty.int IntKind.i64) (Ty.cons (Ty.int IntKind.i64) Ty.unit))), Ty.cons (Ty.int IntKind.i64) (Ty.cons (Ty.int IntKind.i64) (Ty.cons (Ty.int IntKind.i64) Ty.unit))]
def kds5 : List RK := []
def oks5 : List AT := owns sig5
def P5 (x0 : List Int) : Prop := ((P15 (g14_0 x0)) ∧ (if (Decidable.decide ((↑(List.length (g15_0 (g14_0 x0))) : Int) > 0)) = true then ((InR IntKind.i64 ((↑(List.length (g15_0 (g14_0 x0))) : Int) - 1)) ∧ ((0 ≤ (↑(List.length (g15_0 (g14_0 x0))) : Int) - 1) ∧ ((↑(List.length (g15_0 (g14_0 x0))) : Int) - 1 < (↑(List.length (g15_0 (g14_0 x0))) : Int)) ∧ ((InR IntKind.i64 (Prod.fst (List.getD (g15_0 (g14_0 x0)) (Int.toNat ((↑(List.length (g15_0 (g14_0 x0))) : Int) - 1)) (0, 0, 0, ())) + 1)) ∧ ((P16 (u15_0 (g14_0 x0)) (Prod.fst (List.getD (g15_0 (g14_0 x0)) (Int.toNat ((↑(List.length (g15_0 (g14_0 x0))) : Int) - 1)) (0, 0, 0, ())) + 1) (Prod.fst (Prod.snd (List.getD (g15_0 (g14_0 x0)) (Int.toNat ((↑(List.length (g15_0 (g14_0 x0))) : Int) - 1)) (0, 0, 0, ())))) (Prod.fst (Prod.snd (Prod.snd (List.getD (g15_0 (g14_0 x0)) (Int.toNat ((↑(List.length (g15_0 (g14_0 x0))) : Int) - 1)) (0, 0, 0, ())))))) ∧ ((P17 (u16_0 (u15_0 (g14_0 x0)) (Prod.fst (List.getD (g15_0 (g14_0 x0)) (Int.toNat ((↑(List.length (g15_0 (g14_0 x0))) : Int) - 1)) (0, 0, 0, ())) + 1) (Prod.fst (Prod.snd (List.getD (g15_0 (g14_0 x0)) (Int.toNat ((↑(List.length (g15_0 (g14_0 x0))) : Int) - 1)) (0, 0, 0, ())))) (Prod.fst (Prod.snd (Prod.snd (List.getD (g15_0 (g14_0 x0)) (Int.toNat ((↑(List.length (g15_0 (g14_0 x0))) : Int) - 1)) (0, 0, 0, ())))))) 12) ∧ (if (g17_0 (u16_0 (u15_0 (g14_0 x0)) (Prod.fst (List.getD (g15_0 (g14_0 x0)) (Int.toNat ((↑(List.length (g15_0 (g14_0 x0))) : Int) - 1)) (0, 0, 0, ())) + 1) (Prod.fst (Prod.snd (List.getD (g15_0 (g14_0 x0)) (Int.toNat ((↑(List.length (g15_0 (g14_0 x0))) : Int) - 1)) (0, 0, 0, ())))) (Prod.fst (Prod.snd (Prod.snd (List.getD (g15_0 (g14_0 x0)) (Int.toNat ((↑(List.length (g15_0 (g14_0 x0))) : Int) - 1)) (0, 0, 0, ())))))) 12 == 0) = true then True else (if (g17_0 (u16_0 (u15_0 (g14_0 x0)) (Prod.fst (List.getD (g15_0 (g14_0 x0)) (Int.toNat ((↑(List.length (g15_0 (g14_0 x0))) : Int) - 1)) (0, 0, 0, ())) + 1) (Prod.fst (Prod.snd (List.getD (g15_0 (g14_0 x0)) (Int.toNat ((↑(List.length (g15_0 (g14_0 x0))) : Int) - 1)) (0, 0, 0, ())))) (Prod.fst (Prod.snd (Prod.snd (List.getD (g15_0 (g14_0 x0)) (Int.toNat ((↑(List.length (g15_0 (g14_0 x0))) : Int) - 1)) (0, 0, 0, ())))))) 12 == 1) = true then ((InR IntKind.i64 (Prod.fst (Prod.snd (List.getD (g15_0 (g14_0 x0)) (Int.toNat ((↑(List.length (g15_0 (g14_0 x0))) : Int) - 1)) (0, 0, 0, ()))) - 1)) ∧ True) else (if (g17_0 (u16_0 (u15_0 (g14_0 x0)) (Prod.fst (List.getD (g15_0 (g14_0 x0)) (Int.toNat ((↑(List.length (g15_0 (g14_0 x0))) : Int) - 1)) (0, 0, 0, ())) + 1) (Prod.fst (Prod.snd (List.getD (g15_0 (g14_0 x0)) (Int.toNat ((↑(List.length (g15_0 (g14_0 x0))) : Int) - 1)) (0, 0, 0, ())))) (Prod.fst (Prod.snd (Prod.snd (List.getD (g15_0 (g14_0 x0)) (Int.toNat ((↑(List.length (g15_0 (g14_0 x0))) : Int) - 1)) (0, 0, 0, ())))))) 12 == 2) = true then ((P18 (u17_0 (u16_0 (u15_0 (g14_0 x0)) (Prod.fst (List.getD (g15_0 (g14_0 x0)) (Int.toNat ((↑(List.length (g15_0 (g14_0 x0))) : Int) - 1)) (0, 0, 0, ())) + 1) (Prod.fst (Prod.snd (List.getD (g15_0 (g14_0 x0)) (Int.toNat ((↑(List.length (g15_0 (g14_0 x0))) : Int) - 1)) (0, 0, 0, ())))) (Prod.fst (Prod.snd (Prod.snd (List.getD (g15_0 (g14_0 x0)) (Int.toNat ((↑(List.length (g15_0 (g14_0 x0))) : Int) - 1)) (0, 0, 0, ())))))) 12) [-1, 1000, 1001]) ∧ True) else True)))))))) else ((P16 (u15_0 (g14_0 x0)) 8001 0 0) ∧ ((P17 (u16_0 (u15_0 (g14_0 x0)) 8001 0 0) 12) ∧ (if (g17_0 (u16_0 (u15_0 (g14_0 x0)) 8001 0 0) 12 == 0) = true then True else (if (g17_0 (u16_0 (u15_0 (g14_0 x0)) 8001 0 0) 12 == 1) = true then True else (if (g17_0 (u16_0 (u15_0 (g14_0 x0)) 8001 0 0) 12 == 2) = true then ((P18 (u17_0 (u16_0 (u15_0 (g14_0 x0)) 8001 0 0) 12) [-1, 1000, 1001]) ∧ True) else True)))))))
def g5_0 (x0 : List Int) : List (Int × Int × Int × Unit) := (if (Decidable.decide ((↑(List.length (g15_0 (g14_0 x0))) : Int) > 0)) = true then (if (g17_0 (u16_0 (u15_0 (g14_0 x0)) (Prod.fst (List.getD (g15_0 (g14_0 x0)) (Int.toNat ((↑(List.length (g15_0 (g14_0 x0))) : Int) - 1)) (0, 0, 0, ())) + 1) (Prod.fst (Prod.snd (List.getD (g15_0 (g14_0 x0)) (Int.toNat ((↑(List.length (g15_0 (g14_0 x0))) : Int) - 1)) (0, 0, 0, ())))) (Prod.fst (Prod.snd (Prod.snd (List.getD (g15_0 (g14_0 x0)) (Int.toNat ((↑(List.length (g15_0 (g14_0 x0))) : Int) - 1)) (0, 0, 0, ())))))) 12 == 0) = true then g15_0 (g14_0 x0) else (if (g17_0 (u16_0 (u15_0 (g14_0 x0)) (Prod.fst (List.getD (g15_0 (g14_0 x0)) (Int.toNat ((↑(List.length (g15_0 (g14_0 x0))) : Int) - 1)) (0, 0, 0, ())) + 1) (Prod.fst (Prod.snd (List.getD (g15_0 (g14_0 x0)) (Int.toNat ((↑(List.length (g15_0 (g14_0 x0))) : Int) - 1)) (0, 0, 0, ())))) (Prod.fst (Prod.snd (Prod.snd (List.getD (g15_0 (g14_0 x0)) (Int.toNat ((↑(List.length (g15_0 (g14_0 x0))) : Int) - 1)) (0, 0, 0, ())))))) 12 == 1) = true then g15_0 (g14_0 x0) else (if (g17_0 (u16_0 (u15_0 (g14_0 x0)) (Prod.fst (List.getD (g15_0 (g14_0 x0)) (Int.toNat ((↑(List.length (g15_0 (g14_0 x0))) : Int) - 1)) (0, 0, 0, ())) + 1) (Prod.fst (Prod.snd (List.getD (g15_0 (g14_0 x0)) (Int.toNat ((↑(List.length (g15_0 (g14_0 x0))) : Int) - 1)) (0, 0, 0, ())))) (Prod.fst (Prod.snd (Prod.snd (List.getD (g15_0 (g14_0 x0)) (Int.toNat ((↑(List.length (g15_0 (g14_0 x0))) : Int) - 1)) (0, 0, 0, ())))))) 12 == 2) = true then g15_0 (g14_0 x0) else g15_0 (g14_0 x0)))) else (if (g17_0 (u16_0 (u15_0 (g14_0 x0)) 8001 0 0) 12 == 0) = true then g15_0 (g14_0 x0) else (if (g17_0 (u16_0 (u15_0 (g14_0 x0)) 8001 0 0) 12 == 1) = true then g15_0 (g14_0 x0) else (if (g17_0 (u16_0 (u15_0 (g14_0 x0)) 8001 0 0) 12 == 2) = true then g15_0 (g14_0 x0) else g15_0 (g14_0 x0)))))
def g5_1 (x0 : List Int) : Int × Int × Int × Unit := (if (Decidable.decide ((↑(List.length (g15_0 (g14_0 x0))) : Int) > 0)) = true then (if (g17_0 (u16_0 (u15_0 (g14_0 x0)) (Prod.fst (List.getD (g15_0 (g14_0 x0)) (Int.toNat ((↑(List.length (g15_0 (g14_0 x0))) : Int) - 1)) (0, 0, 0, ())) + 1) (Prod.fst (Prod.snd (List.getD (g15_0 (g14_0 x0)) (Int.toNat ((↑(List.length (g15_0 (g14_0 x0))) : Int) - 1)) (0, 0, 0, ())))) (Prod.fst (Prod.snd (Prod.snd (List.getD (g15_0 (g14_0 x0)) (Int.toNat ((↑(List.length (g15_0 (g14_0 x0))) : Int) - 1)) (0, 0, 0, ())))))) 12 == 0) = true then (Prod.fst (List.getD (g15_0 (g14_0 x0)) (Int.toNat ((↑(List.length (g15_0 (g14_0 x0))) : Int) - 1)) (0, 0, 0, ())), Prod.fst (Prod.snd (List.getD (g15_0 (g14_0 x0)) (Int.toNat ((↑(List.length (g15_0 (g14_0 x0))) : Int) - 1)) (0, 0, 0, ()))) + g17_0 (u17_0 (u15_0 (g14_0 x0)) 12) 9, g33_0 1000 (Prod.fst (Prod.snd (Prod.snd (List.getD (g15_0 (g14_0 x0)) (Int.toNat ((↑(List.length (g15_0 (g14_0 x0))) : Int) - 1)) (0, 0, 0, ())))) + g17_0 (u17_0 (u17_0 (u15_0 (g14_0 x0)) 12) 9) 20), ()) else (if (g17_0 (u16_0 (u15_0 (g14_0 x0)) (Prod.fst (List.getD (g15_0 (g14_0 x0)) (Int.toNat ((↑(List.length (g15_0 (g14_0 x0))) : Int) - 1)) (0, 0, 0, ())) + 1) (Prod.fst (Prod.snd (List.getD (g15_0 (g14_0 x0)) (Int.toNat ((↑(List.length (g15_0 (g14_0 x0))) : Int) - 1)) (0, 0, 0, ())))) (Prod.fst (Prod.snd (Prod.snd (List.getD (g15_0 (g14_0 x0)) (Int.toNat ((↑(List.length (g15_0 (g14_0 x0))) : Int) - 1)) (0, 0, 0, ())))))) 12 == 1) = true then (Prod.fst (List.getD (g15_0 (g14_0 x0)) (Int.toNat ((↑(List.length (g15_0 (g14_0 x0))) : Int) - 1)) (0, 0, 0, ())) + 1 + 30 * g17_0 (u15_0 (g14_0 x0)) 12, Prod.fst (Prod.snd (List.getD (g15_0 (g14_0 x0)) (Int.toNat ((↑(List.length (g15_0 (g14_0 x0))) : Int) - 1)) (0, 0, 0, ()))) - 1, g33_0 1000 (Prod.fst (Prod.snd (Prod.snd (List.getD (g15_0 (g14_0 x0)) (Int.toNat ((↑(List.length (g15_0 (g14_0 x0))) : Int) - 1)) (0, 0, 0, ())))) + g17_0 (u17_0 (u17_0 (u15_0 (g14_0 x0)) 12) 9) 20), ()) else (if (g17_0 (u16_0 (u15_0 (g14_0 x0)) (Prod.fst (List.getD (g15_0 (g14_0 x0)) (Int.toNat ((↑(List.length (g15_0 (g14_0 x0))) : Int) - 1)) (0, 0, 0, ())) + 1) (Prod.fst (Prod.snd (List.getD (g15_0 (g14_0 x0)) (Int.toNat ((↑(List.length (g15_0 (g14_0 x0))) : Int) - 1)) (0, 0, 0, ())))) (Prod.fst (Prod.snd (Prod.snd (List.getD (g15_0 (g14_0 x0)) (Int.toNat ((↑(List.length (g15_0 (g14_0 x0))) : Int) - 1)) (0, 0, 0, ())))))) 12 == 2) = true then (Prod.fst (List.getD (g15_0 (g14_0 x0)) (Int.toNat ((↑(List.length (g15_0 (g14_0 x0))) : Int) - 1)) (0, 0, 0, ())) + 1 + 30 * g17_0 (u15_0 (g14_0 x0)) 12, Prod.fst (Prod.snd (List.getD (g15_0 (g14_0 x0)) (Int.toNat ((↑(List.length (g15_0 (g14_0 x0))) : Int) - 1)) (0, 0, 0, ()))) + g17_0 (u17_0 (u15_0 (g14_0 x0)) 12) 9, g18_0 (u17_0 (u16_0 (u15_0 (g14_0 x0)) (Prod.fst (List.getD (g15_0 (g14_0 x0)) (Int.toNat ((↑(List.length (g15_0 (g14_0 x0))) : Int) - 1)) (0, 0, 0, ())) + 1) (Prod.fst (Prod.snd (List.getD (g15_0 (g14_0 x0)) (Int.toNat ((↑(List.length (g15_0 (g14_0 x0))) : Int) - 1)) (0, 0, 0, ())))) (Prod.fst (Prod.snd (Prod.snd (List.getD (g15_0 (g14_0 x0)) (Int.toNat ((↑(List.length (g15_0 (g14_0 x0))) : Int) - 1)) (0, 0, 0, ())))))) 12) [-1, 1000, 1001], ()) else (Prod.fst (List.getD (g15_0 (g14_0 x0)) (Int.toNat ((↑(List.length (g15_0 (g14_0 x0))) : Int) - 1)) (0, 0, 0, ())) + 1 + 30 * g17_0 (u15_0 (g14_0 x0)) 12, Prod.fst (Prod.snd (List.getD (g15_0 (g14_0 x0)) (Int.toNat ((↑(List.length (g15_0 (g14_0 x0))) : Int) - 1)) (0, 0, 0, ()))) + g17_0 (u17_0 (u15_0 (g14_0 x0)) 12) 9, g33_0 1000 (Prod.fst (Prod.snd (Prod.snd (List.getD (g15_0 (g14_0 x0)) (Int.toNat ((↑(List.length (g15_0 (g14_0 x0))) : Int) - 1)) (0, 0, 0, ())))) + g17_0 (u17_0 (u17_0 (u15_0 (g14_0 x0)) 12) 9) 20), ())))) else (if (g17_0 (u16_0 (u15_0 (g14_0 x0)) 8001 0 0) 12 == 0) = true then (8000, 0 + g17_0 (u17_0 (u15_0 (g14_0 x0)) 12) 9, g33_0 1000 (0 + g17_0 (u17_0 (u17_0 (u15_0 (g14_0 x0)) 12) 9) 20), ()) else (if (g17_0 (u16_0 (u15_0 (g14_0 x0)) 8001 0 0) 12 == 1) = true then (8001 + 30 * g17_0 (u15_0 (g14_0 x0)) 12, -1, g33_0 1000 (0 + g17_0 (u17_0 (u17_0 (u15_0 (g14_0 x0)) 12) 9) 20), ()) else (if (g17_0 (u16_0 (u15_0 (g14_0 x0)) 8001 0 0) 12 == 2) = true then (8001 + 30 * g17_0 (u15_0 (g14_0 x0)) 12, 0 + g17_0 (u17_0 (u15_0 (g14_0 x0)) 12) 9, g18_0 (u17_0 (u16_0 (u15_0 (g14_0 x0)) 8001 0 0) 12) [-1, 1000, 1001], ()) else (8001 + 30 * g17_0 (u15_0 (g14_0 x0)) 12, 0 + g17_0 (u17_0 (u15_0 (g14_0 x0)) 12) 9, g33_0 1000 (0 + g17_0 (u17_0 (u17_0 (u15_0 (g14_0 x0)) 12) 9) 20), ())))))
theorem at5 (x0 : List Int) (h : P5 x0) (K : Ctx) (q : Nat → Value) : AtV Tryz.prog 5 (PostR kds5 oks5 [⟨Ty.sl (Ty.cons (Ty.int IntKind.i64) (Ty.cons (Ty.int IntKind.i64) (Ty.cons (Ty.int IntKind.i64) Ty.unit))), g5_0 x0⟩, ⟨Ty.cons (Ty.int IntKind.i64) (Ty.cons (Ty.int IntKind.i64) (Ty.cons (Ty.int IntKind.i64) Ty.unit)), g5_1 x0⟩] [] [] q K) 52 K q [] [.code b5] (entE 0 0 sig5 (x0, ())) (entL sig5 (x0, ())) := by
  unfold P5 at h
  unfold g5_0 g5_1
  obtain ⟨s0, h⟩ := h
  by_cases b0 : (Decidable.decide ((↑(List.length (g15_0 (g14_0 x0))) : Int) > 0)) = true
  · try simp only [if_pos b0] at h ⊢
    obtain ⟨s1, h⟩ := h
    obtain ⟨s2, s3, h⟩ := h
    obtain ⟨s4, h⟩ := h
    obtain ⟨s5, h⟩ := h
    obtain ⟨s6, h⟩ := h
    by_cases b1 : (g17_0 (u16_0 (u15_0 (g14_0 x0)) (Prod.fst (List.getD (g15_0 (g14_0 x0)) (Int.toNat ((↑(List.length (g15_0 (g14_0 x0))) : Int) - 1)) (0, 0, 0, ())) + 1) (Prod.fst (Prod.snd (List.getD (g15_0 (g14_0 x0)) (Int.toNat ((↑(List.length (g15_0 (g14_0 x0))) : Int) - 1)) (0, 0, 0, ())))) (Prod.fst (Prod.snd (Prod.snd (List.getD (g15_0 (g14_0 x0)) (Int.toNat ((↑(List.length (g15_0 (g14_0 x0))) : Int) - 1)) (0, 0, 0, ())))))) 12 == 0) = true
    · try simp only [if_pos b1] at h ⊢
      exact AtV.ret Tryz.func5 tabOk ext5Ok mixed false [] tys5 [true, true] (a1 trivial (a1 s0 (a1 b0 (a1 s1 (a1 s2 (a1 s3 (a1 s4 (a1 s5 (a1 s6 (a1 b1 trivial)))))))))) (by kernel_rfl)
    · try simp only [if_neg b1] at h ⊢
      replace b1 := Bool.eq_false_iff.2 b1
      by_cases b2 : (g17_0 (u16_0 (u15_0 (g14_0 x0)) (Prod.fst (List.getD (g15_0 (g14_0 x0)) (Int.toNat ((↑(List.length (g15_0 (g14_0 x0))) : Int) - 1)) (0, 0, 0, ())) + 1) (Prod.fst (Prod.snd (List.getD (g15_0 (g14_0 x0)) (Int.toNat ((↑(List.length (g15_0 (g14_0 x0))) : Int) - 1)) (0, 0, 0, ())))) (Prod.fst (Prod.snd (Prod.snd (List.getD (g15_0 (g14_0 x0)) (Int.toNat ((↑(List.length (g15_0 (g14_0 x0))) : Int) - 1)) (0, 0, 0, ())))))) 12 == 1) = true
      · try simp only [if_pos b2] at h ⊢
        obtain ⟨s7, h⟩ := h
        exact AtV.ret Tryz.func5 tabOk ext5Ok mixed false [] tys5 [true, false, true] (a1 trivial (a1 s0 (a1 b0 (a1 s1 (a1 s2 (a1 s3 (a1 s4 (a1 s5 (a1 s6 (a1 b1 (a1 b2 (a1 s7 trivial)))))))))))) (by kernel_rfl)
      · try simp only [if_neg b2] at h ⊢
        replace b2 := Bool.eq_false_iff.2 b2
        by_cases b3 : (g17_0 (u16_0 (u15_0 (g14_0 x0)) (Prod.fst (List.getD (g15_0 (g14_0 x0)) (Int.toNat ((↑(List.length (g15_0 (g14_0 x0))) : Int) - 1)) (0, 0, 0, ())) + 1) (Prod.fst (Prod.snd (List.getD (g15_0 (g14_0 x0)) (Int.toNat ((↑(List.length (g15_0 (g14_0 x0))) : Int) - 1)) (0, 0, 0, ())))) (Prod.fst (Prod.snd (Prod.snd (List.getD (g15_0 (g14_0 x0)) (Int.toNat ((↑(List.length (g15_0 (g14_0 x0))) : Int) - 1)) (0, 0, 0, ())))))) 12 == 2) = true
        · try simp only [if_pos b3] at h ⊢
          obtain ⟨s7, h⟩ := h
          exact AtV.ret Tryz.func5 tabOk ext5Ok mixed false [] tys5 [true, false, false, true] (a1 trivial (a1 s0 (a1 b0 (a1 s1 (a1 s2 (a1 s3 (a1 s4 (a1 s5 (a1 s6 (a1 b1 (a1 b2 (a1 b3 (a1 s7 trivial))))))))))))) (by kernel_rfl)
        · try simp only [if_neg b3] at h ⊢
          replace b3 := Bool.eq_false_iff.2 b3
          exact AtV.ret Tryz.func5 tabOk ext5Ok mixed false [] tys5 [true, false, false, false] (a1 trivial (a1 s0 (a1 b0 (a1 s1 (a1 s2 (a1 s3 (a1 s4 (a1 s5 (a1 s6 (a1 b1 (a1 b2 (a1 b3 trivial)))))))))))) (by kernel_rfl)
  · try simp only [if_neg b0] at h ⊢
    replace b0 := Bool.eq_false_iff.2 b0
    obtain ⟨s1, h⟩ := h
    obtain ⟨s2, h⟩ := h
    by_cases b1 : (g17_0 (u16_0 (u15_0 (g14_0 x0)) 8001 0 0) 12 == 0) = true
    · try simp only [if_pos b1] at h ⊢
      exact AtV.ret Tryz.func5 tabOk ext5Ok mixed false [] tys5 [false, true] (a1 trivial (a1 s0 (a1 b0 (a1 ((by decide) : InR IntKind.i64 8001) (a1 s1 (a1 s2 (a1 b1 trivial))))))) (by kernel_rfl)
    · try simp only [if_neg b1] at h ⊢
      replace b1 := Bool.eq_false_iff.2 b1
      by_cases b2 : (g17_0 (u16_0 (u15_0 (g14_0 x0)) 8001 0 0) 12 == 1) = true
      · try simp only [if_pos b2] at h ⊢
        exact AtV.ret Tryz.func5 tabOk ext5Ok mixed false [] tys5 [false, false, true] (a1 trivial (a1 s0 (a1 b0 (a1 ((by decide) : InR IntKind.i64 8001) (a1 s1 (a1 s2 (a1 b1 (a1 b2 (a1 ((by decide) : InR IntKind.i64 (-1)) trivial))))))))) (by kernel_rfl)
      · try simp only [if_neg b2] at h ⊢
        replace b2 := Bool.eq_false_iff.2 b2
        by_cases b3 : (g17_0 (u16_0 (u15_0 (g14_0 x0)) 8001 0 0) 12 == 2) = true
        · try simp only [if_pos b3] at h ⊢
          obtain ⟨s3, h⟩ := h
          exact AtV.ret Tryz.func5 tabOk ext5Ok mixed false [] tys5 [false, false, false, true] (a1 trivial (a1 s0 (a1 b0 (a1 ((by decide) : InR IntKind.i64 8001) (a1 s1 (a1 s2 (a1 b1 (a1 b2 (a1 b3 (a1 s3 trivial)))))))))) (by kernel_rfl)
        · try simp only [if_neg b3] at h ⊢
          replace b3 := Bool.eq_false_iff.2 b3
          exact AtV.ret Tryz.func5 tabOk ext5Ok mixed false [] tys5 [false, false, false, false] (a1 trivial (a1 s0 (a1 b0 (a1 ((by decide) : InR IntKind.i64 8001) (a1 s1 (a1 s2 (a1 b1 (a1 b2 (a1 b3 trivial))))))))) (by kernel_rfl)

def S5 : Am.Spec := { sig := sig5, pre := fun ⟨x0, _⟩ => P5 x0, res := fun ⟨x0, _⟩ => [⟨Ty.sl (Ty.cons (Ty.int IntKind.i64) (Ty.cons (Ty.int IntKind.i64) (Ty.cons (Ty.int IntKind.i64) Ty.unit))), g5_0 x0⟩, ⟨Ty.cons (Ty.int IntKind.i64) (Ty.cons (Ty.int IntKind.i64) (Ty.cons (Ty.int IntKind.i64) Ty.unit)), g5_1 x0⟩], kds := kds5 }
theorem con5 : Contract Tryz.prog 5 S5 := contract_of Tryz.func5 hb5 (Nat.le_of_ble_eq_true (by kernel_rfl)) (fun ⟨x0, _⟩ h _ K q => at5 x0 h K q)


end
end Go.Proofs.YtbkkdnkbgnhodaaGreatDoor

/- Function 19 (slices.Clone[[]impl.Test,impl.Test]): its contract, off what is known of the library. -/
set_option linter.unusedVariables false
set_option linter.unusedSimpArgs false
set_option maxRecDepth 100000
namespace Go.Proofs.YtbkkdnkbgnhodaaGreatDoor
open Go Go.Am Go.Proofs

set_option maxHeartbeats 2000000 in
theorem nil19 (w : World) : Calls Tryz.prog 19 #[.slice none 0 0] w fun e w' => e = .returned (.slice none 0 0) ∧ w' = w := by
  have mixed := mixed
  have q22 : ∀ (w : World) (a : Option Addr) (n c n' c' : Nat), (binOp .eql 24 (.slice a n c) (.slice none n' c')).run Tryz.prog w = .ok (.bool a.isNone) w := fun w a n c n' c' => Lib.run_eql_slice_nil w _ _ a n c n' c' Tryz.underlying24
  go_enter Tryz.func19, Tryz.ntmps19
  go_wp2
  go_ret
  exact ⟨rfl, rfl⟩

set_option maxHeartbeats 4000000 in
theorem some19 (w : World) (a : Addr) (n c : Nat) (news : List Value) (hl : news.length = n * (Ty.size (Ty.cons (Ty.int IntKind.i64) (Ty.cons (Ty.int IntKind.i64) (Ty.cons (Ty.int IntKind.i64) Ty.unit))))) (hn : n ≤ 1048576) (hc : ∀ (j : Nat) (u : Value), news[j]? = some u → w.cell? (a.add j) = some u) (h1 : ∀ u ∈ news, u.oneCell' = true) :
    Calls Tryz.prog 19 #[.slice (some a) n c] w fun r w' => ∃ v', r = .returned v' ∧ w'.ownsRow w.heap.size 26 (Ty.size (Ty.cons (Ty.int IntKind.i64) (Ty.cons (Ty.int IntKind.i64) (Ty.cons (Ty.int IntKind.i64) Ty.unit)))) v' n news ∧ Go.RowKit.Below w.heap.size w w' := by
  have mixed := mixed
  have q22 : ∀ (w : World) (a : Option Addr) (n c n' c' : Nat), (binOp .eql 24 (.slice a n c) (.slice none n' c')).run Tryz.prog w = .ok (.bool a.isNone) w := fun w a n c n' c' => Lib.run_eql_slice_nil w _ _ a n c n' c' Tryz.underlying24
  have hinfo : TIOk Tryz.prog 24 (tabGet tab 24) := tabOk 24
  obtain ⟨_, _, ⟨_, ⟨i0, hi0, hz1, z, hz0, hzs, _⟩⟩, hby⟩ := hinfo
  rw [hi0] at hby
  simp only [Option.map_some, Option.some.injEq] at hby
  have hzs' : z.cells.size = Ty.size (Ty.cons (Ty.int IntKind.i64) (Ty.cons (Ty.int IntKind.i64) (Ty.cons (Ty.int IntKind.i64) Ty.unit))) := by rw [← Array.length_toList, hzs]; rfl
  have A : Aside (∀ (j : Nat) (u : Value), news[j]? = some u → w.cell? (a.add j) = some u) := hc
  clear hc
  go_enter Tryz.func19, Tryz.ntmps19
  go_wp2_with (at_builtin; refine wpList_append_own _ rfl _ _ 24 rfl w.heap.size 26 i0 z (Ty.size (Ty.cons (Ty.int IntKind.i64) (Ty.cons (Ty.int IntKind.i64) (Ty.cons (Ty.int IntKind.i64) Ty.unit)))) i0.bytes Tryz.underlying24 hi0 hz0 hz1 rfl hzs' (by decide) _ _ _ rfl (World.ownsRow_made w #[] 0 (Nat.le_refl _) (Nat.zero_le _) (by simp)) a n c news rfl ?qc1 ?qc2 ?qc3 ?qc4 ?qc5 ?qc6 ?_)
  case qc1 => exact hl
  case qc2 => intro j u hj; exact Lib.cell?_alloc_some _ (A.out j u hj)
  case qc3 => exact h1
  case qc4 => unfold maxLen; omega
  case qc5 => rw [hby]; omega
  case qc6 => simp
  intro v' w1 hown hgrow hnil
  go_wp2
  go_ret
  exact ⟨v', rfl, by simpa using hown, ((Go.RowKit.Below.refl _ w).alloc (Nat.le_refl _) _).grown hgrow (by simp) (by intro k hk; simp [Value.ownBlock] at hk; omega)⟩

def sig19 : List AT := [AT.v (Ty.sl (Ty.cons (Ty.int IntKind.i64) (Ty.cons (Ty.int IntKind.i64) (Ty.cons (Ty.int IntKind.i64) Ty.unit))))]
def g19_0 (x0 : List (Int × Int × Int × Unit)) : List (Int × Int × Int × Unit) := x0
def P19 (x0 : List (Int × Int × Int × Unit)) : Prop := x0.length ≤ 1048576
def S19 : Am.Spec := { sig := sig19, pre := fun ⟨x0, _⟩ => P19 x0, res := fun ⟨x0, _⟩ => [⟨Ty.sl (Ty.cons (Ty.int IntKind.i64) (Ty.cons (Ty.int IntKind.i64) (Ty.cons (Ty.int IntKind.i64) Ty.unit))), g19_0 x0⟩] }
theorem con19 : Contract Tryz.prog 19 S19 := clone_contract (t := (Ty.cons (Ty.int IntKind.i64) (Ty.cons (Ty.int IntKind.i64) (Ty.cons (Ty.int IntKind.i64) Ty.unit)))) (e := 26) rfl nil19 some19

end Go.Proofs.YtbkkdnkbgnhodaaGreatDoor

/- Function 30 (impl.within): its runs between cut points. Written by a program of this repo (gen). -/
set_option linter.unusedVariables false
set_option linter.unusedSimpArgs false
set_option maxRecDepth 100000
namespace Go.Proofs.YtbkkdnkbgnhodaaGreatDoor
open Go Go.Am Go.Proofs
noncomputable section
def ext30 : Ext := []
theorem ext30Ok : ExtOk Tryz.prog ext30 := trivial

noncomputable def b30 : Code := bodyOf Tryz.f30
theorem hb30 : Tryz.f30.body = some b30 := by kernel_rfl
def sig30 : List AT := [AT.v (Ty.int IntKind.i64), AT.v (Ty.int IntKind.i64), AT.v (Ty.int IntKind.i64)]
def tys30 : List Ty := [Ty.bool]
def kds30 : List RK := []
def oks30 : List AT := owns sig30
def P30 (x0 : Int) (x1 : Int) (x2 : Int) : Prop := True
def g30_0 (x0 : Int) (x1 : Int) (x2 : Int) : Bool := (if (Decidable.decide (x0 ≥ x1)) = true then Decidable.decide (x0 ≤ x2) else Bool.false)
theorem at30 (x0 : Int) (x1 : Int) (x2 : Int) (h : P30 x0 x1 x2) (K : Ctx) (q : Nat → Value) : AtV Tryz.prog 30 (PostR kds30 oks30 [⟨Ty.bool, g30_0 x0 x1 x2⟩] [] [] q K) 15 K q [] [.code b30] (entE 0 0 sig30 (x0, x1, x2, ())) (entL sig30 (x0, x1, x2, ())) := by
  unfold P30 at h
  unfold g30_0
  by_cases b0 : (Decidable.decide (x0 ≥ x1)) = true
  · try simp only [if_pos b0] at h ⊢
    exact AtV.ret Tryz.func30 tabOk ext30Ok mixed false [] tys30 [true] (a1 b0 trivial) (by kernel_rfl)
  · try simp only [if_neg b0] at h ⊢
    replace b0 := Bool.eq_false_iff.2 b0
    exact AtV.ret Tryz.func30 tabOk ext30Ok mixed false [] tys30 [false] (a1 b0 trivial) (by kernel_rfl)

def S30 : Am.Spec := { sig := sig30, pre := fun ⟨x0, x1, x2, _⟩ => P30 x0 x1 x2, res := fun ⟨x0, x1, x2, _⟩ => [⟨Ty.bool, g30_0 x0 x1 x2⟩], kds := kds30 }
theorem con30 : Contract Tryz.prog 30 S30 := contract_of Tryz.func30 hb30 (Nat.le_of_ble_eq_true (by kernel_rfl)) (fun ⟨x0, x1, x2, _⟩ h _ K q => at30 x0 x1 x2 h K q)


end
end Go.Proofs.YtbkkdnkbgnhodaaGreatDoor

/- Function 31 (impl.isDay): its runs between cut points. Written by a program of this repo (gen). -/
set_option linter.unusedVariables false
set_option linter.unusedSimpArgs false
set_option maxRecDepth 100000
namespace Go.Proofs.YtbkkdnkbgnhodaaGreatDoor
open Go Go.Am Go.Proofs
noncomputable section
def ext31 : Ext := [(30, S30)]
theorem call31_30 : Callable Tryz.prog 30 := ⟨Tryz.f30, Tryz.func30, by kernel_rfl, by kernel_rfl⟩
theorem ext31Ok : ExtOk Tryz.prog ext31 := ⟨⟨call31_30, con30⟩, trivial⟩

noncomputable def b31 : Code := bodyOf Tryz.f31
theorem hb31 : Tryz.f31.body = some b31 := by kernel_rfl
def sig31 : List AT := [AT.v (Ty.int IntKind.i64)]
def tys31 : List Ty := [Ty.bool]
def kds31 : List RK := []
def oks31 : List AT := owns sig31
def P31 (x0 : Int) : Prop := True
def g31_0 (x0 : Int) : Bool := g30_0 x0 0 36524
theorem at31 (x0 : Int) (h : P31 x0) (K : Ctx) (q : Nat → Value) : AtV Tryz.prog 31 (PostR kds31 oks31 [⟨Ty.bool, g31_0 x0⟩] [] [] q K) 5 K q [] [.code b31] (entE 0 0 sig31 (x0, ())) (entL sig31 (x0, ())) := by
  unfold P31 at h
  unfold g31_0
  exact AtV.ret Tryz.func31 tabOk ext31Ok mixed false [] tys31 [] (a1 trivial trivial) (by kernel_rfl)

def S31 : Am.Spec := { sig := sig31, pre := fun ⟨x0, _⟩ => P31 x0, res := fun ⟨x0, _⟩ => [⟨Ty.bool, g31_0 x0⟩], kds := kds31 }
theorem con31 : Contract Tryz.prog 31 S31 := contract_of Tryz.func31 hb31 (Nat.le_of_ble_eq_true (by kernel_rfl)) (fun ⟨x0, _⟩ h _ K q => at31 x0 h K q)


end
end Go.Proofs.YtbkkdnkbgnhodaaGreatDoor

/- Function 35 (impl.isShare): its runs between cut points. Written by a program of this repo (gen). -/
set_option linter.unusedVariables false
set_option linter.unusedSimpArgs false
set_option maxRecDepth 100000
namespace Go.Proofs.YtbkkdnkbgnhodaaGreatDoor
open Go Go.Am Go.Proofs
noncomputable section
def ext35 : Ext := [(30, S30)]
theorem call35_30 : Callable Tryz.prog 30 := ⟨Tryz.f30, Tryz.func30, by kernel_rfl, by kernel_rfl⟩
theorem ext35Ok : ExtOk Tryz.prog ext35 := ⟨⟨call35_30, con30⟩, trivial⟩

noncomputable def b35 : Code := bodyOf Tryz.f35
theorem hb35 : Tryz.f35.body = some b35 := by kernel_rfl
def sig35 : List AT := [AT.v (Ty.int IntKind.i64)]
def tys35 : List Ty := [Ty.bool]
def kds35 : List RK := []
def oks35 : List AT := owns sig35
def P35 (x0 : Int) : Prop := True
def g35_0 (x0 : Int) : Bool := g30_0 x0 0 1000
theorem at35 (x0 : Int) (h : P35 x0) (K : Ctx) (q : Nat → Value) : AtV Tryz.prog 35 (PostR kds35 oks35 [⟨Ty.bool, g35_0 x0⟩] [] [] q K) 5 K q [] [.code b35] (entE 0 0 sig35 (x0, ())) (entL sig35 (x0, ())) := by
  unfold P35 at h
  unfold g35_0
  exact AtV.ret Tryz.func35 tabOk ext35Ok mixed false [] tys35 [] (a1 trivial trivial) (by kernel_rfl)

def S35 : Am.Spec := { sig := sig35, pre := fun ⟨x0, _⟩ => P35 x0, res := fun ⟨x0, _⟩ => [⟨Ty.bool, g35_0 x0⟩], kds := kds35 }
theorem con35 : Contract Tryz.prog 35 S35 := contract_of Tryz.func35 hb35 (Nat.le_of_ble_eq_true (by kernel_rfl)) (fun ⟨x0, _⟩ h _ K q => at35 x0 h K q)


end
end Go.Proofs.YtbkkdnkbgnhodaaGreatDoor

/- Function 21 (impl.isTest): its runs between cut points. Written by a program of this repo (gen). -/
set_option linter.unusedVariables false
set_option linter.unusedSimpArgs false
set_option maxRecDepth 100000
namespace Go.Proofs.YtbkkdnkbgnhodaaGreatDoor
open Go Go.Am Go.Proofs
noncomputable section
def ext21 : Ext := [(31, S31), (30, S30), (35, S35)]
theorem call21_31 : Callable Tryz.prog 31 := ⟨Tryz.f31, Tryz.func31, by kernel_rfl, by kernel_rfl⟩
theorem call21_30 : Callable Tryz.prog 30 := ⟨Tryz.f30, Tryz.func30, by kernel_rfl, by kernel_rfl⟩
theorem call21_35 : Callable Tryz.prog 35 := ⟨Tryz.f35, Tryz.func35, by kernel_rfl, by kernel_rfl⟩
theorem ext21Ok : ExtOk Tryz.prog ext21 := ⟨⟨call21_31, con31⟩, ⟨call21_30, con30⟩, ⟨call21_35, con35⟩, trivial⟩

noncomputable def b21 : Code := bodyOf Tryz.f21
theorem hb21 : Tryz.f21.body = some b21 := by kernel_rfl
def sig21 : List AT := [AT.v (Ty.cons (Ty.int IntKind.i64) (Ty.cons (Ty.int IntKind.i64) (Ty.cons (Ty.int IntKind.i64) Ty.unit)))]
def tys21 : List Ty := [Ty.bool]
def kds21 : List RK := []
def oks21 : List AT := owns sig21
def P21 (x0 : Int × Int × Int × Unit) : Prop := True
def g21_0 (x0 : Int × Int × Int × Unit) : Bool := (if (g31_0 (Prod.fst x0)) = true then (if (g30_0 (Prod.fst (Prod.snd x0)) 0 24000) = true then g35_0 (Prod.fst (Prod.snd (Prod.snd x0))) else Bool.false) else Bool.false)
theorem at21 (x0 : Int × Int × Int × Unit) (h : P21 x0) (K : Ctx) (q : Nat → Value) : AtV Tryz.prog 21 (PostR kds21 oks21 [⟨Ty.bool, g21_0 x0⟩] [] [] q K) 16 K q [] [.code b21] (entE 0 0 sig21 (x0, ())) (entL sig21 (x0, ())) := by
  unfold P21 at h
  unfold g21_0
  by_cases b0 : (g31_0 (Prod.fst x0)) = true
  · try simp only [if_pos b0] at h ⊢
    by_cases b1 : (g30_0 (Prod.fst (Prod.snd x0)) 0 24000) = true
    · try simp only [if_pos b1] at h ⊢
      exact AtV.ret Tryz.func21 tabOk ext21Ok mixed false [] tys21 [true, true] (a1 trivial (a1 b0 (a1 trivial (a1 b1 (a1 trivial trivial))))) (by kernel_rfl)
    · try simp only [if_neg b1] at h ⊢
      replace b1 := Bool.eq_false_iff.2 b1
      exact AtV.ret Tryz.func21 tabOk ext21Ok mixed false [] tys21 [true, false] (a1 trivial (a1 b0 (a1 trivial (a1 b1 trivial)))) (by kernel_rfl)
  · try simp only [if_neg b0] at h ⊢
    replace b0 := Bool.eq_false_iff.2 b0
    exact AtV.ret Tryz.func21 tabOk ext21Ok mixed false [] tys21 [false, false] (a1 trivial (a1 b0 (a1 (rfl : Bool.false = Bool.false) trivial))) (by kernel_rfl)

def S21 : Am.Spec := { sig := sig21, pre := fun ⟨x0, _⟩ => P21 x0, res := fun ⟨x0, _⟩ => [⟨Ty.bool, g21_0 x0⟩], kds := kds21 }
theorem con21 : Contract Tryz.prog 21 S21 := contract_of Tryz.func21 hb21 (Nat.le_of_ble_eq_true (by kernel_rfl)) (fun ⟨x0, _⟩ h _ K q => at21 x0 h K q)


end
end Go.Proofs.YtbkkdnkbgnhodaaGreatDoor

/- Function 22 (impl.areTests): its runs between cut points. Written by a program of this repo (gen). -/
set_option linter.unusedVariables false
set_option linter.unusedSimpArgs false
set_option maxRecDepth 100000
namespace Go.Proofs.YtbkkdnkbgnhodaaGreatDoor
open Go Go.Am Go.Proofs
noncomputable section
def ext22 : Ext := [(21, S21)]
theorem call22_21 : Callable Tryz.prog 21 := ⟨Tryz.f21, Tryz.func21, by kernel_rfl, by kernel_rfl⟩
theorem ext22Ok : ExtOk Tryz.prog ext22 := ⟨⟨call22_21, con21⟩, trivial⟩

noncomputable def b22 : Code := bodyOf Tryz.f22
theorem hb22 : Tryz.f22.body = some b22 := by kernel_rfl
def sig22 : List AT := [AT.v (Ty.sl (Ty.cons (Ty.int IntKind.i64) (Ty.cons (Ty.int IntKind.i64) (Ty.cons (Ty.int IntKind.i64) Ty.unit))))]
def tys22 : List Ty := [Ty.bool]
def kds22 : List RK := []
def oks22 : List AT := owns sig22
def E22_2 (v7 : Int) (x0 : List (Int × Int × Int × Unit)) : Env := [(0, PV.a (Atom.sl (Ty.cons (Ty.int IntKind.i64) (Ty.cons (Ty.int IntKind.i64) (Ty.cons (Ty.int IntKind.i64) Ty.unit))) x0)), (5, PV.a (Atom.sl (Ty.cons (Ty.int IntKind.i64) (Ty.cons (Ty.int IntKind.i64) (Ty.cons (Ty.int IntKind.i64) Ty.unit))) x0)), (6, PV.a (Atom.val (Value.int IntKind.i64 (↑(List.length x0) : Int)))), (7, PV.a (Atom.val (Value.int IntKind.i64 v7)))]
def L22_2 (v7 : Int) (x0 : List (Int × Int × Int × Unit)) : Heap := []
mutual
def R22 : Nat → List (Int × Int × Int × Unit) → List Dyn → Prop
  | 0, _, _ => False
  | n + 1, x0, ds => (R22_2 n (0) (x0) ds)
def R22_2 : Nat → Int → List (Int × Int × Int × Unit) → List Dyn → Prop
  | 0, _, _, _ => False
  | n + 1, v7, x0, ds => (if (Decidable.decide (v7 < (↑(List.length x0) : Int))) = true then ((0 ≤ v7) ∧ (v7 < (↑(List.length x0) : Int)) ∧ (if (!g21_0 (List.getD x0 (Int.toNat v7) (0, 0, 0, ()))) = true then (ds = [Dyn.mk Ty.bool Bool.false]) else (if (Decidable.decide (v7 > 0)) = true then ((InR IntKind.i64 (v7 - 1)) ∧ ((0 ≤ v7 - 1) ∧ (v7 - 1 < (↑(List.length x0) : Int)) ∧ (if (Decidable.decide (Prod.fst (List.getD x0 (Int.toNat v7) (0, 0, 0, ())) ≤ Prod.fst (List.getD x0 (Int.toNat (v7 - 1)) (0, 0, 0, ())))) = true then (ds = [Dyn.mk Ty.bool Bool.false]) else ((InR IntKind.i64 (v7 - 1)) ∧ ((0 ≤ v7 - 1) ∧ (v7 - 1 < (↑(List.length x0) : Int)) ∧ (if (Decidable.decide (Prod.fst (Prod.snd (List.getD x0 (Int.toNat v7) (0, 0, 0, ()))) < Prod.fst (Prod.snd (List.getD x0 (Int.toNat (v7 - 1)) (0, 0, 0, ()))))) = true then (ds = [Dyn.mk Ty.bool Bool.false]) else ((InR IntKind.i64 (v7 - 1)) ∧ ((0 ≤ v7 - 1) ∧ (v7 - 1 < (↑(List.length x0) : Int)) ∧ (if (Decidable.decide (Prod.fst (Prod.snd (Prod.snd (List.getD x0 (Int.toNat v7) (0, 0, 0, ())))) < Prod.fst (Prod.snd (Prod.snd (List.getD x0 (Int.toNat (v7 - 1)) (0, 0, 0, ())))))) = true then (ds = [Dyn.mk Ty.bool Bool.false]) else ((InR IntKind.i64 (v7 + 1)) ∧ (R22_2 n (v7 + 1) (x0) ds))))))))))) else ((InR IntKind.i64 (v7 + 1)) ∧ (R22_2 n (v7 + 1) (x0) ds))))) else (ds = [Dyn.mk Ty.bool Bool.true]))
end
theorem snd22 : ∀ n, (∀ (x0 : List (Int × Int × Int × Unit)) ds, R22 n x0 ds → ∀ K q, AtV Tryz.prog 22 (PostR kds22 oks22 ds [] [] q K) 51 K q [] [.code b22] (entE 0 0 sig22 (x0, ())) (entL sig22 (x0, ()))) ∧ (∀ (v7 : Int) (x0 : List (Int × Int × Int × Unit)) ds, R22_2 n v7 x0 ds → ∀ K q, AtV Tryz.prog 22 (PostR kds22 oks22 ds [] [] q K) 51 K q [] (cutAt b22 2) (E22_2 v7 x0) (L22_2 v7 x0)) := by
  intro n
  induction n with
  | zero => exact ⟨fun _ _ h => by simp only [R22] at h, fun _ _ _ h => by simp only [R22_2] at h⟩
  | succ n ih =>
  obtain ⟨ih, ih2⟩ := ih
  refine ⟨?_, ?_⟩
  · intro x0 ds h K q
    rw [R22] at h
    exact AtV.go tabOk ext22Ok mixed false [] [] [0, 5, 6, 7] [] [] trivial (ih2 _ _ _ h K q) (by kernel_rfl)

  · intro v7 x0 ds h K q
    rw [R22_2] at h
    by_cases b0 : (Decidable.decide (v7 < (↑(List.length x0) : Int))) = true
    · rw [if_pos b0] at h
      obtain ⟨s0, s1, h⟩ := h
      by_cases b1 : (!g21_0 (List.getD x0 (Int.toNat v7) (0, 0, 0, ()))) = true
      · rw [if_pos b1] at h
        subst h
        exact AtV.ret Tryz.func22 tabOk ext22Ok mixed false [] tys22 [true, true] (a1 b0 (a1 s0 (a1 s1 (a1 trivial (a1 b1 trivial))))) (by kernel_rfl)
      · rw [if_neg b1] at h
        replace b1 := Bool.eq_false_iff.2 b1
        by_cases b2 : (Decidable.decide (v7 > 0)) = true
        · rw [if_pos b2] at h
          obtain ⟨s2, h⟩ := h
          obtain ⟨s3, s4, h⟩ := h
          by_cases b3 : (Decidable.decide (Prod.fst (List.getD x0 (Int.toNat v7) (0, 0, 0, ())) ≤ Prod.fst (List.getD x0 (Int.toNat (v7 - 1)) (0, 0, 0, ())))) = true
          · rw [if_pos b3] at h
            subst h
            exact AtV.ret Tryz.func22 tabOk ext22Ok mixed false [] tys22 [true, false, true, true, true, true] (a1 b0 (a1 s0 (a1 s1 (a1 trivial (a1 b1 (a1 b2 (a1 s2 (a1 s3 (a1 s4 (a1 b3 (a1 (rfl : Bool.true = Bool.true) (a1 (rfl : Bool.true = Bool.true) trivial)))))))))))) (by kernel_rfl)
          · rw [if_neg b3] at h
            replace b3 := Bool.eq_false_iff.2 b3
            obtain ⟨s5, h⟩ := h
            obtain ⟨s6, s7, h⟩ := h
            by_cases b4 : (Decidable.decide (Prod.fst (Prod.snd (List.getD x0 (Int.toNat v7) (0, 0, 0, ()))) < Prod.fst (Prod.snd (List.getD x0 (Int.toNat (v7 - 1)) (0, 0, 0, ()))))) = true
            · rw [if_pos b4] at h
              subst h
              exact AtV.ret Tryz.func22 tabOk ext22Ok mixed false [] tys22 [true, false, true, false, true, true] (a1 b0 (a1 s0 (a1 s1 (a1 trivial (a1 b1 (a1 b2 (a1 s2 (a1 s3 (a1 s4 (a1 b3 (a1 s5 (a1 s6 (a1 s7 (a1 b4 (a1 (rfl : Bool.true = Bool.true) trivial))))))))))))))) (by kernel_rfl)
            · rw [if_neg b4] at h
              replace b4 := Bool.eq_false_iff.2 b4
              obtain ⟨s8, h⟩ := h
              obtain ⟨s9, s10, h⟩ := h
              by_cases b5 : (Decidable.decide (Prod.fst (Prod.snd (Prod.snd (List.getD x0 (Int.toNat v7) (0, 0, 0, ())))) < Prod.fst (Prod.snd (Prod.snd (List.getD x0 (Int.toNat (v7 - 1)) (0, 0, 0, ())))))) = true
              · rw [if_pos b5] at h
                subst h
                exact AtV.ret Tryz.func22 tabOk ext22Ok mixed false [] tys22 [true, false, true, false, false, true] (a1 b0 (a1 s0 (a1 s1 (a1 trivial (a1 b1 (a1 b2 (a1 s2 (a1 s3 (a1 s4 (a1 b3 (a1 s5 (a1 s6 (a1 s7 (a1 b4 (a1 s8 (a1 s9 (a1 s10 (a1 b5 trivial)))))))))))))))))) (by kernel_rfl)
              · rw [if_neg b5] at h
                replace b5 := Bool.eq_false_iff.2 b5
                obtain ⟨s11, h⟩ := h
                exact AtV.go tabOk ext22Ok mixed false [] [] [0, 5, 6, 7] [] [true, false, true, false, false, false] (a1 b0 (a1 s0 (a1 s1 (a1 trivial (a1 b1 (a1 b2 (a1 s2 (a1 s3 (a1 s4 (a1 b3 (a1 s5 (a1 s6 (a1 s7 (a1 b4 (a1 s8 (a1 s9 (a1 s10 (a1 b5 (a1 s11 trivial))))))))))))))))))) (ih2 _ _ _ h K q) (by kernel_rfl)
        · rw [if_neg b2] at h
          replace b2 := Bool.eq_false_iff.2 b2
          obtain ⟨s2, h⟩ := h
          exact AtV.go tabOk ext22Ok mixed false [] [] [0, 5, 6, 7] [] [true, false, false, false] (a1 b0 (a1 s0 (a1 s1 (a1 trivial (a1 b1 (a1 b2 (a1 (rfl : Bool.false = Bool.false) (a1 s2 trivial)))))))) (ih2 _ _ _ h K q) (by kernel_rfl)
    · rw [if_neg b0] at h
      replace b0 := Bool.eq_false_iff.2 b0
      subst h
      exact AtV.ret Tryz.func22 tabOk ext22Ok mixed false [] tys22 [false] (a1 b0 trivial) (by kernel_rfl)



def ord22 (y x : (Int × Int × Int × Unit)) : Bool := decide (y.1 < x.1) && decide (y.2.1 ≤ x.2.1) && decide (y.2.2.1 ≤ x.2.2.1)
def ok22 (x0 : List (Int × Int × Int × Unit)) (i : Nat) (x : (Int × Int × Int × Unit)) : Bool := g21_0 x && (i == 0 || ord22 (x0.getD (i - 1) ((0 : Int), (0 : Int), (0 : Int), ())) x)
def g22_0 (x0 : List (Int × Int × Int × Unit)) : Bool := allI (ok22 x0) 0 x0
def P22 (x0 : List (Int × Int × Int × Unit)) : Prop := True

theorem step22 (n i : Nat) (x0 : List (Int × Int × Int × Unit)) (hm : x0.length ≤ maxLen) (hi : i < x0.length) (ds : List Dyn)
    (h : if ok22 x0 i (x0.getD i ((0 : Int), (0 : Int), (0 : Int), ())) = true then R22_2 n ((i : Int) + 1) x0 ds else ds = [⟨.bool, false⟩]) : R22_2 (n + 1) (i : Int) x0 ds := by
  have hu := inR_up hm hi
  have hmx : maxLen ≤ 9223372036854775807 := by decide
  rw [R22_2, if_pos (by simp; omega)]
  refine ⟨by omega, by omega, ?_⟩
  simp only [Int.toNat_natCast]
  unfold ok22 ord22 at h
  by_cases hv : g21_0 (x0.getD i ((0 : Int), (0 : Int), (0 : Int), ())) = true
  case neg => rw [Bool.eq_false_iff.2 hv] at h; rw [if_pos (by rw [Bool.eq_false_iff.2 hv]; rfl)]; simpa using h
  rw [if_neg (by rw [hv]; simp)]
  rw [hv] at h
  by_cases h0 : (i : Int) > 0
  case neg =>
    rw [if_neg (by simpa using h0)]
    have hi0 : (i == 0) = true := by simp; omega
    rw [hi0] at h
    exact ⟨hu, by simpa using h⟩
  rw [if_pos (by simpa using h0)]
  have hi0 : (i == 0) = false := by simp; omega
  have e : ((i : Int) - 1).toNat = i - 1 := by omega
  have hd : InR .i64 ((i : Int) - 1) := by rw [i64_iff]; omega
  rw [hi0] at h
  simp only [e]
  refine ⟨hd, by omega, by omega, ?_⟩
  by_cases c0 : (x0.getD i ((0 : Int), (0 : Int), (0 : Int), ())).1 ≤ (x0.getD (i - 1) ((0 : Int), (0 : Int), (0 : Int), ())).1
  case pos =>
    rw [if_pos (decide_eq_true c0)]
    have : decide ((x0.getD (i - 1) ((0 : Int), (0 : Int), (0 : Int), ())).1 < (x0.getD i ((0 : Int), (0 : Int), (0 : Int), ())).1) = false := decide_eq_false (by omega)
    rw [this] at h
    simpa using h
  rw [if_neg (by simpa using c0)]
  refine ⟨hd, by omega, by omega, ?_⟩
  by_cases c1 : (x0.getD i ((0 : Int), (0 : Int), (0 : Int), ())).2.1 < (x0.getD (i - 1) ((0 : Int), (0 : Int), (0 : Int), ())).2.1
  case pos =>
    rw [if_pos (decide_eq_true c1)]
    have : decide ((x0.getD (i - 1) ((0 : Int), (0 : Int), (0 : Int), ())).2.1 ≤ (x0.getD i ((0 : Int), (0 : Int), (0 : Int), ())).2.1) = false := decide_eq_false (by omega)
    rw [this] at h
    simpa using h
  rw [if_neg (by simpa using c1)]
  refine ⟨hd, by omega, by omega, ?_⟩
  by_cases c2 : (x0.getD i ((0 : Int), (0 : Int), (0 : Int), ())).2.2.1 < (x0.getD (i - 1) ((0 : Int), (0 : Int), (0 : Int), ())).2.2.1
  case pos =>
    rw [if_pos (decide_eq_true c2)]
    have : decide ((x0.getD (i - 1) ((0 : Int), (0 : Int), (0 : Int), ())).2.2.1 ≤ (x0.getD i ((0 : Int), (0 : Int), (0 : Int), ())).2.2.1) = false := decide_eq_false (by omega)
    rw [this] at h
    simpa using h
  rw [if_neg (by simpa using c2)]
  have d0 : decide ((x0.getD (i - 1) ((0 : Int), (0 : Int), (0 : Int), ())).1 < (x0.getD i ((0 : Int), (0 : Int), (0 : Int), ())).1) = true := decide_eq_true (by omega)
  have d1 : decide ((x0.getD (i - 1) ((0 : Int), (0 : Int), (0 : Int), ())).2.1 ≤ (x0.getD i ((0 : Int), (0 : Int), (0 : Int), ())).2.1) = true := decide_eq_true (by omega)
  have d2 : decide ((x0.getD (i - 1) ((0 : Int), (0 : Int), (0 : Int), ())).2.2.1 ≤ (x0.getD i ((0 : Int), (0 : Int), (0 : Int), ())).2.2.1) = true := decide_eq_true (by omega)
  rw [d0, d1, d2] at h
  exact ⟨hu, by simpa using h⟩

theorem top22 (x0 : List (Int × Int × Int × Unit)) (hw : x0.length ≤ maxLen) : R22 (x0.length + 1 + 1) x0 [⟨.bool, g22_0 x0⟩] := by
  rw [R22]
  have key := loop_testI x0 ((0 : Int), (0 : Int), (0 : Int), ()) (ok22 x0) [(⟨.bool, false⟩ : Dyn)] [⟨.bool, true⟩] (fun n i ds => R22_2 n i x0 ds) (fun n => ?_) (fun n i hi hok ds hr => ?_) (fun n i hi hok => ?_)
  · unfold g22_0
    cases h : allI (ok22 x0) 0 x0 with
    | true => rw [if_pos h] at key; simpa using key
    | false => rw [if_neg (by rw [h]; simp)] at key; simpa using key
  · rw [R22_2, if_neg (by simp)]
  · exact step22 n i x0 hw hi ds (by rw [if_pos hok]; exact hr)
  · exact step22 n i x0 hw hi _ (by rw [if_neg (by rw [hok]; simp)])

def S22 : Am.Spec := { sig := sig22, pre := fun ⟨x0, _⟩ => P22 x0, res := fun ⟨x0, _⟩ => [⟨Ty.bool, g22_0 x0⟩] }
theorem con22 : Contract Tryz.prog 22 S22 := contract_of Tryz.func22 hb22 (Nat.le_of_ble_eq_true (by kernel_rfl)) (fun ⟨x0, _⟩ h hwf K q =>
  (snd22 _).1 x0 _ (top22 x0 hwf.1.1) K q)

end
end Go.Proofs.YtbkkdnkbgnhodaaGreatDoor

/- Function 20 (impl.ValidTests): its runs between cut points. Written by a program of this repo (gen). -/
set_option linter.unusedVariables false
set_option linter.unusedSimpArgs false
set_option maxRecDepth 100000
namespace Go.Proofs.YtbkkdnkbgnhodaaGreatDoor
open Go Go.Am Go.Proofs
noncomputable section
def ext20 : Ext := [(22, S22)]
theorem call20_22 : Callable Tryz.prog 22 := ⟨Tryz.f22, Tryz.func22, by kernel_rfl, by kernel_rfl⟩
theorem ext20Ok : ExtOk Tryz.prog ext20 := ⟨⟨call20_22, con22⟩, trivial⟩

noncomputable def b20 : Code := bodyOf Tryz.f20
theorem hb20 : Tryz.f20.body = some b20 := by kernel_rfl
def sig20 : List AT := [AT.v (Ty.sl (Ty.cons (Ty.int IntKind.i64) (Ty.cons (Ty.int IntKind.i64) (Ty.cons (Ty.int IntKind.i64) Ty.unit))))]
def tys20 : List Ty := [Ty.bool]
def kds20 : List RK := []
def oks20 : List AT := owns sig20
def P20 (x0 : List (Int × Int × Int × Unit)) : Prop := True
def g20_0 (x0 : List (Int × Int × Int × Unit)) : Bool := (if (g22_0 x0) = true then Decidable.decide ((↑(List.length x0) : Int) ≤ 24) else Bool.false)
theorem at20 (x0 : List (Int × Int × Int × Unit)) (h : P20 x0) (K : Ctx) (q : Nat → Value) : AtV Tryz.prog 20 (PostR kds20 oks20 [⟨Ty.bool, g20_0 x0⟩] [] [] q K) 10 K q [] [.code b20] (entE 0 0 sig20 (x0, ())) (entL sig20 (x0, ())) := by
  unfold P20 at h
  unfold g20_0
  by_cases b0 : (g22_0 x0) = true
  · try simp only [if_pos b0] at h ⊢
    exact AtV.ret Tryz.func20 tabOk ext20Ok mixed false [] tys20 [true] (a1 trivial (a1 b0 trivial)) (by kernel_rfl)
  · try simp only [if_neg b0] at h ⊢
    replace b0 := Bool.eq_false_iff.2 b0
    exact AtV.ret Tryz.func20 tabOk ext20Ok mixed false [] tys20 [false] (a1 trivial (a1 b0 trivial)) (by kernel_rfl)

def S20 : Am.Spec := { sig := sig20, pre := fun ⟨x0, _⟩ => P20 x0, res := fun ⟨x0, _⟩ => [⟨Ty.bool, g20_0 x0⟩], kds := kds20 }
theorem con20 : Contract Tryz.prog 20 S20 := contract_of Tryz.func20 hb20 (Nat.le_of_ble_eq_true (by kernel_rfl)) (fun ⟨x0, _⟩ h _ K q => at20 x0 h K q)


end
end Go.Proofs.YtbkkdnkbgnhodaaGreatDoor

/- Function 6 (impl.AddTest): its runs between cut points. Written by a program of this repo (gen). -/
set_option linter.unusedVariables false
set_option linter.unusedSimpArgs false
set_option maxRecDepth 100000
namespace Go.Proofs.YtbkkdnkbgnhodaaGreatDoor
open Go Go.Am Go.Proofs
noncomputable section
def ext6 : Ext := [(19, S19), (20, S20), (21, S21), (22, S22)]
theorem call6_19 : Callable Tryz.prog 19 := ⟨Tryz.f19, Tryz.func19, by kernel_rfl, by kernel_rfl⟩
theorem call6_20 : Callable Tryz.prog 20 := ⟨Tryz.f20, Tryz.func20, by kernel_rfl, by kernel_rfl⟩
theorem call6_21 : Callable Tryz.prog 21 := ⟨Tryz.f21, Tryz.func21, by kernel_rfl, by kernel_rfl⟩
theorem call6_22 : Callable Tryz.prog 22 := ⟨Tryz.f22, Tryz.func22, by kernel_rfl, by kernel_rfl⟩
theorem ext6Ok : ExtOk Tryz.prog ext6 := ⟨⟨call6_19, con19⟩, ⟨call6_20, con20⟩, ⟨call6_21, con21⟩, ⟨call6_22, con22⟩, trivial⟩

noncomputable def b6 : Code := bodyOf Tryz.f6
theorem hb6 : Tryz.f6.body = some b6 := by kernel_rfl
def sig6 : List AT := [AT.v (Ty.sl (Ty.cons (Ty.int IntKind.i64) (Ty.cons (Ty.int IntKind.i64) (Ty.cons (Ty.int IntKind.i64) Ty.unit)))), AT.v (Ty.cons (Ty.int IntKind.i64) (Ty.cons (Ty.int IntKind.i64) (Ty.cons (Ty.int IntKind.i64) Ty.unit)))]
def tys6 : List Ty := [Ty.sl (Ty.cons (Ty.int IntKind.i64) (Ty.cons (Ty.int IntKind.i64) (Ty.cons (Ty.int IntKind.i64) Ty.unit))), Ty.int IntKind.i64]
def kds6 : List RK := []
def oks6 : List AT := owns sig6
def P6 (x0 : List (Int × Int × Int × Unit)) (x1 : Int × Int × Int × Unit) : Prop := ((P19 x0) ∧ ((List.length (g19_0 x0) + 1) * 24 ≤ 140737488355328) ∧ True)
def g6_0 (x0 : List (Int × Int × Int × Unit)) (x1 : Int × Int × Int × Unit) : List (Int × Int × Int × Unit) := (if (!g20_0 x0) = true then [] else (if (!g21_0 x1) = true then [] else (if (!g22_0 (g19_0 x0 ++ [x1])) = true then [] else (if (Decidable.decide ((↑(List.length x0) : Int) ≥ 24)) = true then [] else g19_0 x0 ++ [x1]))))
def g6_1 (x0 : List (Int × Int × Int × Unit)) (x1 : Int × Int × Int × Unit) : Int := (if (!g20_0 x0) = true then 1 else (if (!g21_0 x1) = true then 2 else (if (!g22_0 (g19_0 x0 ++ [x1])) = true then 6 else (if (Decidable.decide ((↑(List.length x0) : Int) ≥ 24)) = true then 5 else 0))))
theorem at6 (x0 : List (Int × Int × Int × Unit)) (x1 : Int × Int × Int × Unit) (h : P6 x0 x1) (K : Ctx) (q : Nat → Value) : AtV Tryz.prog 6 (PostR kds6 oks6 [⟨Ty.sl (Ty.cons (Ty.int IntKind.i64) (Ty.cons (Ty.int IntKind.i64) (Ty.cons (Ty.int IntKind.i64) Ty.unit))), g6_0 x0 x1⟩, ⟨Ty.int IntKind.i64, g6_1 x0 x1⟩] [] [] q K) 29 K q [] [.code b6] (entE 0 0 sig6 (x0, x1, ())) (entL sig6 (x0, x1, ())) := by
  unfold P6 at h
  unfold g6_0 g6_1
  obtain ⟨s0, s1, h⟩ := h
  by_cases b0 : (!g20_0 x0) = true
  · try simp only [if_pos b0] at h ⊢
    exact AtV.ret Tryz.func6 tabOk ext6Ok mixed false [] tys6 [true] (a1 s0 (a1 s1 (a1 s0 (a1 s1 (a1 (rfl : SameS [(0, PV.a (Atom.sl (Ty.cons (Ty.int IntKind.i64) (Ty.cons (Ty.int IntKind.i64) (Ty.cons (Ty.int IntKind.i64) Ty.unit))) x0)), (1, PV.a (Atom.st (Ty.cons (Ty.int IntKind.i64) (Ty.cons (Ty.int IntKind.i64) (Ty.cons (Ty.int IntKind.i64) Ty.unit))) x1)), (3, PV.a (Atom.optr 0 0 [])), (4, PV.a (Atom.val (Value.slice Option.none 0 0))), (5, PV.a (Atom.val (Value.int IntKind.i64 0))), (6, PV.a (Atom.osl 1 Option.none)), (7, PV.a (Atom.sl (Ty.cons (Ty.int IntKind.i64) (Ty.cons (Ty.int IntKind.i64) (Ty.cons (Ty.int IntKind.i64) Ty.unit))) x0)), (9, PV.a (Atom.st (Ty.cons (Ty.int IntKind.i64) (Ty.cons (Ty.int IntKind.i64) (Ty.cons (Ty.int IntKind.i64) Ty.unit))) x1)), (10, PV.a (Atom.osl 2 Option.none)), (11, PV.a (Atom.osl 1 Option.none))] [Option.some (Arr.mk (Ty.cons (Ty.int IntKind.i64) (Ty.cons (Ty.int IntKind.i64) (Ty.cons (Ty.int IntKind.i64) Ty.unit))) [x1] Bool.true Option.none (Option.some Bool.false)), Option.some (Arr.mk (Ty.cons (Ty.int IntKind.i64) (Ty.cons (Ty.int IntKind.i64) (Ty.cons (Ty.int IntKind.i64) Ty.unit))) (g19_0 x0 ++ [x1]) Bool.false Option.none Option.none), Option.some (Arr.mk (Ty.cons (Ty.int IntKind.i64) (Ty.cons (Ty.int IntKind.i64) (Ty.cons (Ty.int IntKind.i64) Ty.unit))) [x1] Bool.false Option.none Option.none)] [(0, PV.a (Atom.sl (Ty.cons (Ty.int IntKind.i64) (Ty.cons (Ty.int IntKind.i64) (Ty.cons (Ty.int IntKind.i64) Ty.unit))) x0)), (1, PV.a (Atom.st (Ty.cons (Ty.int IntKind.i64) (Ty.cons (Ty.int IntKind.i64) (Ty.cons (Ty.int IntKind.i64) Ty.unit))) x1)), (3, PV.a (Atom.optr 0 0 [])), (4, PV.a (Atom.val (Value.slice Option.none 0 0))), (5, PV.a (Atom.val (Value.int IntKind.i64 0))), (6, PV.a (Atom.osl 1 Option.none)), (7, PV.a (Atom.sl (Ty.cons (Ty.int IntKind.i64) (Ty.cons (Ty.int IntKind.i64) (Ty.cons (Ty.int IntKind.i64) Ty.unit))) x0)), (9, PV.a (Atom.st (Ty.cons (Ty.int IntKind.i64) (Ty.cons (Ty.int IntKind.i64) (Ty.cons (Ty.int IntKind.i64) Ty.unit))) x1)), (10, PV.a (Atom.osl 2 Option.none)), (11, PV.a (Atom.osl 1 Option.none))] [Option.some (Arr.mk (Ty.cons (Ty.int IntKind.i64) (Ty.cons (Ty.int IntKind.i64) (Ty.cons (Ty.int IntKind.i64) Ty.unit))) [x1] Bool.true Option.none (Option.some Bool.false)), Option.some (Arr.mk (Ty.cons (Ty.int IntKind.i64) (Ty.cons (Ty.int IntKind.i64) (Ty.cons (Ty.int IntKind.i64) Ty.unit))) (g19_0 x0 ++ [x1]) Bool.false Option.none Option.none), Option.some (Arr.mk (Ty.cons (Ty.int IntKind.i64) (Ty.cons (Ty.int IntKind.i64) (Ty.cons (Ty.int IntKind.i64) Ty.unit))) [x1] Bool.false Option.none Option.none)]) (a1 trivial (a1 b0 trivial))))))) (by kernel_rfl)
  · try simp only [if_neg b0] at h ⊢
    replace b0 := Bool.eq_false_iff.2 b0
    by_cases b1 : (!g21_0 x1) = true
    · try simp only [if_pos b1] at h ⊢
      exact AtV.ret Tryz.func6 tabOk ext6Ok mixed false [] tys6 [false, true] (a1 s0 (a1 s1 (a1 s0 (a1 s1 (a1 (rfl : SameS [(0, PV.a (Atom.sl (Ty.cons (Ty.int IntKind.i64) (Ty.cons (Ty.int IntKind.i64) (Ty.cons (Ty.int IntKind.i64) Ty.unit))) x0)), (1, PV.a (Atom.st (Ty.cons (Ty.int IntKind.i64) (Ty.cons (Ty.int IntKind.i64) (Ty.cons (Ty.int IntKind.i64) Ty.unit))) x1)), (3, PV.a (Atom.optr 0 0 [])), (4, PV.a (Atom.val (Value.slice Option.none 0 0))), (5, PV.a (Atom.val (Value.int IntKind.i64 0))), (6, PV.a (Atom.osl 1 Option.none)), (7, PV.a (Atom.sl (Ty.cons (Ty.int IntKind.i64) (Ty.cons (Ty.int IntKind.i64) (Ty.cons (Ty.int IntKind.i64) Ty.unit))) x0)), (9, PV.a (Atom.st (Ty.cons (Ty.int IntKind.i64) (Ty.cons (Ty.int IntKind.i64) (Ty.cons (Ty.int IntKind.i64) Ty.unit))) x1)), (10, PV.a (Atom.osl 2 Option.none)), (11, PV.a (Atom.osl 1 Option.none))] [Option.some (Arr.mk (Ty.cons (Ty.int IntKind.i64) (Ty.cons (Ty.int IntKind.i64) (Ty.cons (Ty.int IntKind.i64) Ty.unit))) [x1] Bool.true Option.none (Option.some Bool.false)), Option.some (Arr.mk (Ty.cons (Ty.int IntKind.i64) (Ty.cons (Ty.int IntKind.i64) (Ty.cons (Ty.int IntKind.i64) Ty.unit))) (g19_0 x0 ++ [x1]) Bool.false Option.none Option.none), Option.some (Arr.mk (Ty.cons (Ty.int IntKind.i64) (Ty.cons (Ty.int IntKind.i64) (Ty.cons (Ty.int IntKind.i64) Ty.unit))) [x1] Bool.false Option.none Option.none)] [(0, PV.a (Atom.sl (Ty.cons (Ty.int IntKind.i64) (Ty.cons (Ty.int IntKind.i64) (Ty.cons (Ty.int IntKind.i64) Ty.unit))) x0)), (1, PV.a (Atom.st (Ty.cons (Ty.int IntKind.i64) (Ty.cons (Ty.int IntKind.i64) (Ty.cons (Ty.int IntKind.i64) Ty.unit))) x1)), (3, PV.a (Atom.optr 0 0 [])), (4, PV.a (Atom.val (Value.slice Option.none 0 0))), (5, PV.a (Atom.val (Value.int IntKind.i64 0))), (6, PV.a (Atom.osl 1 Option.none)), (7, PV.a (Atom.sl (Ty.cons (Ty.int IntKind.i64) (Ty.cons (Ty.int IntKind.i64) (Ty.cons (Ty.int IntKind.i64) Ty.unit))) x0)), (9, PV.a (Atom.st (Ty.cons (Ty.int IntKind.i64) (Ty.cons (Ty.int IntKind.i64) (Ty.cons (Ty.int IntKind.i64) Ty.unit))) x1)), (10, PV.a (Atom.osl 2 Option.none)), (11, PV.a (Atom.osl 1 Option.none))] [Option.some (Arr.mk (Ty.cons (Ty.int IntKind.i64) (Ty.cons (Ty.int IntKind.i64) (Ty.cons (Ty.int IntKind.i64) Ty.unit))) [x1] Bool.true Option.none (Option.some Bool.false)), Option.some (Arr.mk (Ty.cons (Ty.int IntKind.i64) (Ty.cons (Ty.int IntKind.i64) (Ty.cons (Ty.int IntKind.i64) Ty.unit))) (g19_0 x0 ++ [x1]) Bool.false Option.none Option.none), Option.some (Arr.mk (Ty.cons (Ty.int IntKind.i64) (Ty.cons (Ty.int IntKind.i64) (Ty.cons (Ty.int IntKind.i64) Ty.unit))) [x1] Bool.false Option.none Option.none)]) (a1 trivial (a1 b0 (a1 trivial (a1 b1 trivial))))))))) (by kernel_rfl)
    · try simp only [if_neg b1] at h ⊢
      replace b1 := Bool.eq_false_iff.2 b1
      by_cases b2 : (!g22_0 (g19_0 x0 ++ [x1])) = true
      · try simp only [if_pos b2] at h ⊢
        exact AtV.ret Tryz.func6 tabOk ext6Ok mixed false [] tys6 [false, false, true] (a1 s0 (a1 s1 (a1 s0 (a1 s1 (a1 (rfl : SameS [(0, PV.a (Atom.sl (Ty.cons (Ty.int IntKind.i64) (Ty.cons (Ty.int IntKind.i64) (Ty.cons (Ty.int IntKind.i64) Ty.unit))) x0)), (1, PV.a (Atom.st (Ty.cons (Ty.int IntKind.i64) (Ty.cons (Ty.int IntKind.i64) (Ty.cons (Ty.int IntKind.i64) Ty.unit))) x1)), (3, PV.a (Atom.optr 0 0 [])), (4, PV.a (Atom.val (Value.slice Option.none 0 0))), (5, PV.a (Atom.val (Value.int IntKind.i64 0))), (6, PV.a (Atom.osl 1 Option.none)), (7, PV.a (Atom.sl (Ty.cons (Ty.int IntKind.i64) (Ty.cons (Ty.int IntKind.i64) (Ty.cons (Ty.int IntKind.i64) Ty.unit))) x0)), (9, PV.a (Atom.st (Ty.cons (Ty.int IntKind.i64) (Ty.cons (Ty.int IntKind.i64) (Ty.cons (Ty.int IntKind.i64) Ty.unit))) x1)), (10, PV.a (Atom.osl 2 Option.none)), (11, PV.a (Atom.osl 1 Option.none))] [Option.some (Arr.mk (Ty.cons (Ty.int IntKind.i64) (Ty.cons (Ty.int IntKind.i64) (Ty.cons (Ty.int IntKind.i64) Ty.unit))) [x1] Bool.true Option.none (Option.some Bool.false)), Option.some (Arr.mk (Ty.cons (Ty.int IntKind.i64) (Ty.cons (Ty.int IntKind.i64) (Ty.cons (Ty.int IntKind.i64) Ty.unit))) (g19_0 x0 ++ [x1]) Bool.false Option.none Option.none), Option.some (Arr.mk (Ty.cons (Ty.int IntKind.i64) (Ty.cons (Ty.int IntKind.i64) (Ty.cons (Ty.int IntKind.i64) Ty.unit))) [x1] Bool.false Option.none Option.none)] [(0, PV.a (Atom.sl (Ty.cons (Ty.int IntKind.i64) (Ty.cons (Ty.int IntKind.i64) (Ty.cons (Ty.int IntKind.i64) Ty.unit))) x0)), (1, PV.a (Atom.st (Ty.cons (Ty.int IntKind.i64) (Ty.cons (Ty.int IntKind.i64) (Ty.cons (Ty.int IntKind.i64) Ty.unit))) x1)), (3, PV.a (Atom.optr 0 0 [])), (4, PV.a (Atom.val (Value.slice Option.none 0 0))), (5, PV.a (Atom.val (Value.int IntKind.i64 0))), (6, PV.a (Atom.osl 1 Option.none)), (7, PV.a (Atom.sl (Ty.cons (Ty.int IntKind.i64) (Ty.cons (Ty.int IntKind.i64) (Ty.cons (Ty.int IntKind.i64) Ty.unit))) x0)), (9, PV.a (Atom.st (Ty.cons (Ty.int IntKind.i64) (Ty.cons (Ty.int IntKind.i64) (Ty.cons (Ty.int IntKind.i64) Ty.unit))) x1)), (10, PV.a (Atom.osl 2 Option.none)), (11, PV.a (Atom.osl 1 Option.none))] [Option.some (Arr.mk (Ty.cons (Ty.int IntKind.i64) (Ty.cons (Ty.int IntKind.i64) (Ty.cons (Ty.int IntKind.i64) Ty.unit))) [x1] Bool.true Option.none (Option.some Bool.false)), Option.some (Arr.mk (Ty.cons (Ty.int IntKind.i64) (Ty.cons (Ty.int IntKind.i64) (Ty.cons (Ty.int IntKind.i64) Ty.unit))) (g19_0 x0 ++ [x1]) Bool.false Option.none Option.none), Option.some (Arr.mk (Ty.cons (Ty.int IntKind.i64) (Ty.cons (Ty.int IntKind.i64) (Ty.cons (Ty.int IntKind.i64) Ty.unit))) [x1] Bool.false Option.none Option.none)]) (a1 trivial (a1 b0 (a1 trivial (a1 b1 (a1 trivial (a1 b2 trivial))))))))))) (by kernel_rfl)
      · try simp only [if_neg b2] at h ⊢
        replace b2 := Bool.eq_false_iff.2 b2
        by_cases b3 : (Decidable.decide ((↑(List.length x0) : Int) ≥ 24)) = true
        · try simp only [if_pos b3] at h ⊢
          exact AtV.ret Tryz.func6 tabOk ext6Ok mixed false [] tys6 [false, false, false, true] (a1 s0 (a1 s1 (a1 s0 (a1 s1 (a1 (rfl : SameS [(0, PV.a (Atom.sl (Ty.cons (Ty.int IntKind.i64) (Ty.cons (Ty.int IntKind.i64) (Ty.cons (Ty.int IntKind.i64) Ty.unit))) x0)), (1, PV.a (Atom.st (Ty.cons (Ty.int IntKind.i64) (Ty.cons (Ty.int IntKind.i64) (Ty.cons (Ty.int IntKind.i64) Ty.unit))) x1)), (3, PV.a (Atom.optr 0 0 [])), (4, PV.a (Atom.val (Value.slice Option.none 0 0))), (5, PV.a (Atom.val (Value.int IntKind.i64 0))), (6, PV.a (Atom.osl 1 Option.none)), (7, PV.a (Atom.sl (Ty.cons (Ty.int IntKind.i64) (Ty.cons (Ty.int IntKind.i64) (Ty.cons (Ty.int IntKind.i64) Ty.unit))) x0)), (9, PV.a (Atom.st (Ty.cons (Ty.int IntKind.i64) (Ty.cons (Ty.int IntKind.i64) (Ty.cons (Ty.int IntKind.i64) Ty.unit))) x1)), (10, PV.a (Atom.osl 2 Option.none)), (11, PV.a (Atom.osl 1 Option.none))] [Option.some (Arr.mk (Ty.cons (Ty.int IntKind.i64) (Ty.cons (Ty.int IntKind.i64) (Ty.cons (Ty.int IntKind.i64) Ty.unit))) [x1] Bool.true Option.none (Option.some Bool.false)), Option.some (Arr.mk (Ty.cons (Ty.int IntKind.i64) (Ty.cons (Ty.int IntKind.i64) (Ty.cons (Ty.int IntKind.i64) Ty.unit))) (g19_0 x0 ++ [x1]) Bool.false Option.none Option.none), Option.some (Arr.mk (Ty.cons (Ty.int IntKind.i64) (Ty.cons (Ty.int IntKind.i64) (Ty.cons (Ty.int IntKind.i64) Ty.unit))) [x1] Bool.false Option.none Option.none)] [(0, PV.a (Atom.sl (Ty.cons (Ty.int IntKind.i64) (Ty.cons (Ty.int IntKind.i64) (Ty.cons (Ty.int IntKind.i64) Ty.unit))) x0)), (1, PV.a (Atom.st (Ty.cons (Ty.int IntKind.i64) (Ty.cons (Ty.int IntKind.i64) (Ty.cons (Ty.int IntKind.i64) Ty.unit))) x1)), (3, PV.a (Atom.optr 0 0 [])), (4, PV.a (Atom.val (Value.slice Option.none 0 0))), (5, PV.a (Atom.val (Value.int IntKind.i64 0))), (6, PV.a (Atom.osl 1 Option.none)), (7, PV.a (Atom.sl (Ty.cons (Ty.int IntKind.i64) (Ty.cons (Ty.int IntKind.i64) (Ty.cons (Ty.int IntKind.i64) Ty.unit))) x0)), (9, PV.a (Atom.st (Ty.cons (Ty.int IntKind.i64) (Ty.cons (Ty.int IntKind.i64) (Ty.cons (Ty.int IntKind.i64) Ty.unit))) x1)), (10, PV.a (Atom.osl 2 Option.none)), (11, PV.a (Atom.osl 1 Option.none))] [Option.some (Arr.mk (Ty.cons (Ty.int IntKind.i64) (Ty.cons (Ty.int IntKind.i64) (Ty.cons (Ty.int IntKind.i64) Ty.unit))) [x1] Bool.true Option.none (Option.some Bool.false)), Option.some (Arr.mk (Ty.cons (Ty.int IntKind.i64) (Ty.cons (Ty.int IntKind.i64) (Ty.cons (Ty.int IntKind.i64) Ty.unit))) (g19_0 x0 ++ [x1]) Bool.false Option.none Option.none), Option.some (Arr.mk (Ty.cons (Ty.int IntKind.i64) (Ty.cons (Ty.int IntKind.i64) (Ty.cons (Ty.int IntKind.i64) Ty.unit))) [x1] Bool.false Option.none Option.none)]) (a1 trivial (a1 b0 (a1 trivial (a1 b1 (a1 trivial (a1 b2 (a1 b3 trivial)))))))))))) (by kernel_rfl)
        · try simp only [if_neg b3] at h ⊢
          replace b3 := Bool.eq_false_iff.2 b3
          exact AtV.ret Tryz.func6 tabOk ext6Ok mixed false [] tys6 [false, false, false, false] (a1 s0 (a1 s1 (a1 s0 (a1 s1 (a1 (rfl : SameS [(0, PV.a (Atom.sl (Ty.cons (Ty.int IntKind.i64) (Ty.cons (Ty.int IntKind.i64) (Ty.cons (Ty.int IntKind.i64) Ty.unit))) x0)), (1, PV.a (Atom.st (Ty.cons (Ty.int IntKind.i64) (Ty.cons (Ty.int IntKind.i64) (Ty.cons (Ty.int IntKind.i64) Ty.unit))) x1)), (3, PV.a (Atom.optr 0 0 [])), (4, PV.a (Atom.val (Value.slice Option.none 0 0))), (5, PV.a (Atom.val (Value.int IntKind.i64 0))), (6, PV.a (Atom.osl 1 Option.none)), (7, PV.a (Atom.sl (Ty.cons (Ty.int IntKind.i64) (Ty.cons (Ty.int IntKind.i64) (Ty.cons (Ty.int IntKind.i64) Ty.unit))) x0)), (9, PV.a (Atom.st (Ty.cons (Ty.int IntKind.i64) (Ty.cons (Ty.int IntKind.i64) (Ty.cons (Ty.int IntKind.i64) Ty.unit))) x1)), (10, PV.a (Atom.osl 2 Option.none)), (11, PV.a (Atom.osl 1 Option.none))] [Option.some (Arr.mk (Ty.cons (Ty.int IntKind.i64) (Ty.cons (Ty.int IntKind.i64) (Ty.cons (Ty.int IntKind.i64) Ty.unit))) [x1] Bool.true Option.none (Option.some Bool.false)), Option.some (Arr.mk (Ty.cons (Ty.int IntKind.i64) (Ty.cons (Ty.int IntKind.i64) (Ty.cons (Ty.int IntKind.i64) Ty.unit))) (g19_0 x0 ++ [x1]) Bool.false Option.none Option.none), Option.some (Arr.mk (Ty.cons (Ty.int IntKind.i64) (Ty.cons (Ty.int IntKind.i64) (Ty.cons (Ty.int IntKind.i64) Ty.unit))) [x1] Bool.false Option.none Option.none)] [(0, PV.a (Atom.sl (Ty.cons (Ty.int IntKind.i64) (Ty.cons (Ty.int IntKind.i64) (Ty.cons (Ty.int IntKind.i64) Ty.unit))) x0)), (1, PV.a (Atom.st (Ty.cons (Ty.int IntKind.i64) (Ty.cons (Ty.int IntKind.i64) (Ty.cons (Ty.int IntKind.i64) Ty.unit))) x1)), (3, PV.a (Atom.optr 0 0 [])), (4, PV.a (Atom.val (Value.slice Option.none 0 0))), (5, PV.a (Atom.val (Value.int IntKind.i64 0))), (6, PV.a (Atom.osl 1 Option.none)), (7, PV.a (Atom.sl (Ty.cons (Ty.int IntKind.i64) (Ty.cons (Ty.int IntKind.i64) (Ty.cons (Ty.int IntKind.i64) Ty.unit))) x0)), (9, PV.a (Atom.st (Ty.cons (Ty.int IntKind.i64) (Ty.cons (Ty.int IntKind.i64) (Ty.cons (Ty.int IntKind.i64) Ty.unit))) x1)), (10, PV.a (Atom.osl 2 Option.none)), (11, PV.a (Atom.osl 1 Option.none))] [Option.some (Arr.mk (Ty.cons (Ty.int IntKind.i64) (Ty.cons (Ty.int IntKind.i64) (Ty.cons (Ty.int IntKind.i64) Ty.unit))) [x1] Bool.true Option.none (Option.some Bool.false)), Option.some (Arr.mk (Ty.cons (Ty.int IntKind.i64) (Ty.cons (Ty.int IntKind.i64) (Ty.cons (Ty.int IntKind.i64) Ty.unit))) (g19_0 x0 ++ [x1]) Bool.false Option.none Option.none), Option.some (Arr.mk (Ty.cons (Ty.int IntKind.i64) (Ty.cons (Ty.int IntKind.i64) (Ty.cons (Ty.int IntKind.i64) Ty.unit))) [x1] Bool.false Option.none Option.none)]) (a1 trivial (a1 b0 (a1 trivial (a1 b1 (a1 trivial (a1 b2 (a1 b3 trivial)))))))))))) (by kernel_rfl)

def S6 : Am.Spec := { sig := sig6, pre := fun ⟨x0, x1, _⟩ => P6 x0 x1, res := fun ⟨x0, x1, _⟩ => [⟨Ty.sl (Ty.cons (Ty.int IntKind.i64) (Ty.cons (Ty.int IntKind.i64) (Ty.cons (Ty.int IntKind.i64) Ty.unit))), g6_0 x0 x1⟩, ⟨Ty.int IntKind.i64, g6_1 x0 x1⟩], kds := kds6 }
theorem con6 : Contract Tryz.prog 6 S6 := contract_of Tryz.func6 hb6 (Nat.le_of_ble_eq_true (by kernel_rfl)) (fun ⟨x0, x1, _⟩ h _ K q => at6 x0 x1 h K q)


end
end Go.Proofs.YtbkkdnkbgnhodaaGreatDoor

/- Function 53 (impl.monthLength): its runs between cut points. Written by a program of this repo (gen). -/
set_option linter.unusedVariables false
set_option linter.unusedSimpArgs false
set_option maxRecDepth 100000
namespace Go.Proofs.YtbkkdnkbgnhodaaGreatDoor
open Go Go.Am Go.Proofs
noncomputable section
def ext53 : Ext := []
theorem ext53Ok : ExtOk Tryz.prog ext53 := trivial

noncomputable def b53 : Code := bodyOf Tryz.f53
theorem hb53 : Tryz.f53.body = some b53 := by kernel_rfl
def sig53 : List AT := [AT.v (Ty.int IntKind.i64), AT.v (Ty.int IntKind.i64)]
def tys53 : List Ty := [Ty.int IntKind.i64]
def kds53 : List RK := []
def oks53 : List AT := owns sig53
def P53 (x0 : Int) (x1 : Int) : Prop := (if (x1 == 2) = true then ((InR IntKind.i64 (Int.tmod x0 4)) ∧ True) else True)
def g53_0 (x0 : Int) (x1 : Int) : Int := (if (x1 == 2) = true then (if (Int.tmod x0 4 == 0) = true then 29 else 28) else (if (x1 == 4) = true then 30 else (if (x1 == 6) = true then 30 else (if (x1 == 9) = true then 30 else (if (x1 == 11) = true then 30 else 31)))))
theorem at53 (x0 : Int) (x1 : Int) (h : P53 x0 x1) (K : Ctx) (q : Nat → Value) : AtV Tryz.prog 53 (PostR kds53 oks53 [⟨Ty.int IntKind.i64, g53_0 x0 x1⟩] [] [] q K) 16 K q [] [.code b53] (entE 0 0 sig53 (x0, x1, ())) (entL sig53 (x0, x1, ())) := by
  unfold P53 at h
  unfold g53_0
  by_cases b0 : (x1 == 2) = true
  · try simp only [if_pos b0] at h ⊢
    obtain ⟨s0, h⟩ := h
    by_cases b1 : (Int.tmod x0 4 == 0) = true
    · try simp only [if_pos b1] at h ⊢
      exact AtV.ret Tryz.func53 tabOk ext53Ok mixed false [] tys53 [true, true] (a1 b0 (a1 ((by decide) : (4 : Int) ≠ (0 : Int)) (a1 s0 (a1 b1 trivial)))) (by kernel_rfl)
    · try simp only [if_neg b1] at h ⊢
      replace b1 := Bool.eq_false_iff.2 b1
      exact AtV.ret Tryz.func53 tabOk ext53Ok mixed false [] tys53 [true, false] (a1 b0 (a1 ((by decide) : (4 : Int) ≠ (0 : Int)) (a1 s0 (a1 b1 trivial)))) (by kernel_rfl)
  · try simp only [if_neg b0] at h ⊢
    replace b0 := Bool.eq_false_iff.2 b0
    by_cases b1 : (x1 == 4) = true
    · try simp only [if_pos b1] at h ⊢
      exact AtV.ret Tryz.func53 tabOk ext53Ok mixed false [] tys53 [false, true] (a1 b0 (a1 b1 trivial)) (by kernel_rfl)
    · try simp only [if_neg b1] at h ⊢
      replace b1 := Bool.eq_false_iff.2 b1
      by_cases b2 : (x1 == 6) = true
      · try simp only [if_pos b2] at h ⊢
        exact AtV.ret Tryz.func53 tabOk ext53Ok mixed false [] tys53 [false, false, true] (a1 b0 (a1 b1 (a1 b2 trivial))) (by kernel_rfl)
      · try simp only [if_neg b2] at h ⊢
        replace b2 := Bool.eq_false_iff.2 b2
        by_cases b3 : (x1 == 9) = true
        · try simp only [if_pos b3] at h ⊢
          exact AtV.ret Tryz.func53 tabOk ext53Ok mixed false [] tys53 [false, false, false, true] (a1 b0 (a1 b1 (a1 b2 (a1 b3 trivial)))) (by kernel_rfl)
        · try simp only [if_neg b3] at h ⊢
          replace b3 := Bool.eq_false_iff.2 b3
          by_cases b4 : (x1 == 11) = true
          · try simp only [if_pos b4] at h ⊢
            exact AtV.ret Tryz.func53 tabOk ext53Ok mixed false [] tys53 [false, false, false, false, true] (a1 b0 (a1 b1 (a1 b2 (a1 b3 (a1 b4 trivial))))) (by kernel_rfl)
          · try simp only [if_neg b4] at h ⊢
            replace b4 := Bool.eq_false_iff.2 b4
            exact AtV.ret Tryz.func53 tabOk ext53Ok mixed false [] tys53 [false, false, false, false, false] (a1 b0 (a1 b1 (a1 b2 (a1 b3 (a1 b4 trivial))))) (by kernel_rfl)

def S53 : Am.Spec := { sig := sig53, pre := fun ⟨x0, x1, _⟩ => P53 x0 x1, res := fun ⟨x0, x1, _⟩ => [⟨Ty.int IntKind.i64, g53_0 x0 x1⟩], kds := kds53 }
theorem con53 : Contract Tryz.prog 53 S53 := contract_of Tryz.func53 hb53 (Nat.le_of_ble_eq_true (by kernel_rfl)) (fun ⟨x0, x1, _⟩ h _ K q => at53 x0 x1 h K q)


end
end Go.Proofs.YtbkkdnkbgnhodaaGreatDoor

/- Function 54 (impl.dayOf): its runs between cut points. Written by a program of this repo (gen). -/
set_option linter.unusedVariables false
set_option linter.unusedSimpArgs false
set_option maxRecDepth 100000
namespace Go.Proofs.YtbkkdnkbgnhodaaGreatDoor
open Go Go.Am Go.Proofs
noncomputable section
def ext54 : Ext := [(53, S53)]
theorem call54_53 : Callable Tryz.prog 53 := ⟨Tryz.f53, Tryz.func53, by kernel_rfl, by kernel_rfl⟩
theorem ext54Ok : ExtOk Tryz.prog ext54 := ⟨⟨call54_53, con53⟩, trivial⟩

noncomputable def b54 : Code := bodyOf Tryz.f54
theorem hb54 : Tryz.f54.body = some b54 := by kernel_rfl
def sig54 : List AT := [AT.v (Ty.int IntKind.i64), AT.v (Ty.int IntKind.i64), AT.v (Ty.int IntKind.i64)]
def tys54 : List Ty := [Ty.int IntKind.i64]
def kds54 : List RK := []
def oks54 : List AT := owns sig54
def E54_3 (v7 : Int) (v8 : Int) (x0 : Int) (x1 : Int) : Env := [(0, PV.a (Atom.val (Value.int IntKind.i64 x0))), (1, PV.a (Atom.val (Value.int IntKind.i64 x1))), (7, PV.a (Atom.val (Value.int IntKind.i64 v7))), (8, PV.a (Atom.val (Value.int IntKind.i64 v8)))]
def L54_3 (v7 : Int) (v8 : Int) (x0 : Int) (x1 : Int) : Heap := []
mutual
def R54 : Nat → Int → Int → Int → List Dyn → Prop
  | 0, _, _, _, _ => False
  | n + 1, x0, x1, x2, ds => ((InR IntKind.i64 (x0 - 2000)) ∧ ((InR IntKind.i64 ((x0 - 2000) * 365)) ∧ ((InR IntKind.i64 (x0 - 1997)) ∧ ((InR IntKind.i64 (Int.tdiv (x0 - 1997) 4)) ∧ ((InR IntKind.i64 ((x0 - 2000) * 365 + Int.tdiv (x0 - 1997) 4)) ∧ ((InR IntKind.i64 ((x0 - 2000) * 365 + Int.tdiv (x0 - 1997) 4 + x2)) ∧ ((InR IntKind.i64 ((x0 - 2000) * 365 + Int.tdiv (x0 - 1997) 4 + x2 - 1)) ∧ (R54_3 n ((x0 - 2000) * 365 + Int.tdiv (x0 - 1997) 4 + x2 - 1) (1) (x0) (x1) ds))))))))
def R54_3 : Nat → Int → Int → Int → Int → List Dyn → Prop
  | 0, _, _, _, _, _ => False
  | n + 1, v7, v8, x0, x1, ds => (if (Decidable.decide (v8 < x1)) = true then ((P53 x0 v8) ∧ ((InR IntKind.i64 (v7 + g53_0 x0 v8)) ∧ ((InR IntKind.i64 (v8 + 1)) ∧ (R54_3 n (v7 + g53_0 x0 v8) (v8 + 1) (x0) (x1) ds)))) else (ds = [Dyn.mk (Ty.int IntKind.i64) v7]))
end
theorem snd54 : ∀ n, (∀ (x0 : Int) (x1 : Int) (x2 : Int) ds, R54 n x0 x1 x2 ds → ∀ K q, AtV Tryz.prog 54 (PostR kds54 oks54 ds [] [] q K) 30 K q [] [.code b54] (entE 0 0 sig54 (x0, x1, x2, ())) (entL sig54 (x0, x1, x2, ()))) ∧ (∀ (v7 : Int) (v8 : Int) (x0 : Int) (x1 : Int) ds, R54_3 n v7 v8 x0 x1 ds → ∀ K q, AtV Tryz.prog 54 (PostR kds54 oks54 ds [] [] q K) 30 K q [] (cutAt b54 3) (E54_3 v7 v8 x0 x1) (L54_3 v7 v8 x0 x1)) := by
  intro n
  induction n with
  | zero => exact ⟨fun _ _ _ _ h => by simp only [R54] at h, fun _ _ _ _ _ h => by simp only [R54_3] at h⟩
  | succ n ih =>
  obtain ⟨ih, ih3⟩ := ih
  refine ⟨?_, ?_⟩
  · intro x0 x1 x2 ds h K q
    rw [R54] at h
    obtain ⟨s0, h⟩ := h
    obtain ⟨s1, h⟩ := h
    obtain ⟨s2, h⟩ := h
    obtain ⟨s3, h⟩ := h
    obtain ⟨s4, h⟩ := h
    obtain ⟨s5, h⟩ := h
    obtain ⟨s6, h⟩ := h
    exact AtV.go tabOk ext54Ok mixed false [] [] [0, 1, 7, 8] [] [] (a1 s0 (a1 s1 (a1 s2 (a1 ((by decide) : (4 : Int) ≠ (0 : Int)) (a1 s3 (a1 s4 (a1 s5 (a1 s6 trivial)))))))) (ih3 _ _ _ _ _ h K q) (by kernel_rfl)

  · intro v7 v8 x0 x1 ds h K q
    rw [R54_3] at h
    by_cases b0 : (Decidable.decide (v8 < x1)) = true
    · rw [if_pos b0] at h
      obtain ⟨s0, h⟩ := h
      obtain ⟨s1, h⟩ := h
      obtain ⟨s2, h⟩ := h
      exact AtV.go tabOk ext54Ok mixed false [] [] [0, 1, 7, 8] [] [true] (a1 b0 (a1 s0 (a1 s1 (a1 s2 trivial)))) (ih3 _ _ _ _ _ h K q) (by kernel_rfl)
    · rw [if_neg b0] at h
      replace b0 := Bool.eq_false_iff.2 b0
      subst h
      exact AtV.ret Tryz.func54 tabOk ext54Ok mixed false [] tys54 [false] (a1 b0 trivial) (by kernel_rfl)



def ms54 (y : Int) : Nat → Int
  | 0 => 0
  | k + 1 => ms54 y k + g53_0 y ((k : Int) + 1)
def bs54 (y d : Int) : Int := (y - 2000) * 365 + Int.tdiv (y - 1997) 4 + d - 1
def g54_0 (x0 x1 x2 : Int) : Int := bs54 x0 x2 + ms54 x0 (x1 - 1).toNat
def P54 (x0 x1 x2 : Int) : Prop := (2000 ≤ x0 ∧ x0 ≤ 2099) ∧ (1 ≤ x1 ∧ x1 ≤ 12) ∧ (1 ≤ x2 ∧ x2 ≤ 31)

theorem len54 {y m : Int} (hy : 2000 ≤ y ∧ y ≤ 2099) : P53 y m ∧ 28 ≤ g53_0 y m ∧ g53_0 y m ≤ 31 := by
  have e : Int.tmod y 4 = y % 4 := Int.tmod_eq_emod_of_nonneg (by omega)
  unfold P53 g53_0
  rw [e]
  have hi : InR .i64 (y % 4) := by rw [i64_iff]; omega
  refine ⟨?_, ?_, ?_⟩
  · split
    · exact ⟨hi, trivial⟩
    · trivial
  · repeat' split
    all_goals omega
  · repeat' split
    all_goals omega

theorem msb54 {y : Int} (hy : 2000 ≤ y ∧ y ≤ 2099) : ∀ k, 0 ≤ ms54 y k ∧ ms54 y k ≤ 31 * k
  | 0 => by simp [ms54]
  | k + 1 => by
    have := msb54 hy k
    have := len54 hy (m := (k : Int) + 1)
    simp only [ms54]
    omega

theorem runM54 {y m : Int} (hy : 2000 ≤ y ∧ y ≤ 2099) (hm : 1 ≤ m ∧ m ≤ 12) (v : Int) (hv : 0 ≤ v ∧ v ≤ 1000000) : ∀ (k i : Nat), (i : Int) + k = m - 1 →
    R54_3 (k + 1) (v + ms54 y i) ((i : Int) + 1) y m [⟨.int .i64, v + ms54 y (m - 1).toNat⟩] := by
  intro k
  induction k with
  | zero =>
    intro i hi
    rw [R54_3, if_neg (by simp; omega), show (m - 1).toNat = i by omega]
  | succ k ih =>
    intro i hi
    obtain ⟨p, l1, l2⟩ := len54 hy (m := (i : Int) + 1)
    obtain ⟨b1, b2⟩ := msb54 hy i
    rw [R54_3, if_pos (by simp; omega)]
    have e1 : v + ms54 y i + g53_0 y ((i : Int) + 1) = v + ms54 y (i + 1) := by simp only [ms54]; omega
    have e2 : (i : Int) + 1 + 1 = ((i + 1 : Nat) : Int) + 1 := by omega
    refine ⟨p, by rw [i64_iff]; omega, by rw [i64_iff]; omega, ?_⟩
    rw [e1, e2]
    exact ih (i + 1) (by omega)

theorem top54 (x0 x1 x2 : Int) (h : P54 x0 x1 x2) : R54 ((x1 - 1).toNat + 1 + 1) x0 x1 x2 [⟨.int .i64, g54_0 x0 x1 x2⟩] := by
  obtain ⟨h0, h1, h2⟩ := h
  have e : Int.tdiv (x0 - 1997) 4 = (x0 - 1997) / 4 := Int.tdiv_eq_ediv_of_nonneg (by omega)
  rw [R54]
  have := runM54 h0 h1 (bs54 x0 x2) (by unfold bs54; rw [e]; omega) (x1 - 1).toNat 0 (by omega)
  refine ⟨by rw [i64_iff]; omega, by rw [i64_iff]; omega, by rw [i64_iff]; omega, by rw [i64_iff, e]; omega, by rw [i64_iff, e]; omega, by rw [i64_iff, e]; omega, by rw [i64_iff, e]; omega, ?_⟩
  simpa [ms54, g54_0, bs54] using this

def S54 : Am.Spec := { sig := sig54, pre := fun ⟨x0, x1, x2, _⟩ => P54 x0 x1 x2, res := fun ⟨x0, x1, x2, _⟩ => [⟨.int .i64, g54_0 x0 x1 x2⟩] }
theorem con54 : Contract Tryz.prog 54 S54 := contract_of Tryz.func54 hb54 (Nat.le_of_ble_eq_true (by kernel_rfl)) (fun ⟨x0, x1, x2, _⟩ h hwf K q =>
  (snd54 _).1 x0 x1 x2 _ (top54 x0 x1 x2 h) K q)

end
end Go.Proofs.YtbkkdnkbgnhodaaGreatDoor

/- Function 41 (impl.dateOf): its runs between cut points. Written by a program of this repo (gen). -/
set_option linter.unusedVariables false
set_option linter.unusedSimpArgs false
set_option maxRecDepth 100000
namespace Go.Proofs.YtbkkdnkbgnhodaaGreatDoor
open Go Go.Am Go.Proofs
noncomputable section
def ext41 : Ext := [(54, S54)]
theorem call41_54 : Callable Tryz.prog 54 := ⟨Tryz.f54, Tryz.func54, by kernel_rfl, by kernel_rfl⟩
theorem ext41Ok : ExtOk Tryz.prog ext41 := ⟨⟨call41_54, con54⟩, trivial⟩

noncomputable def b41 : Code := bodyOf Tryz.f41
theorem hb41 : Tryz.f41.body = some b41 := by kernel_rfl
def sig41 : List AT := [AT.v (Ty.int IntKind.i64)]
def tys41 : List Ty := [Ty.int IntKind.i64, Ty.int IntKind.i64, Ty.int IntKind.i64]
def kds41 : List RK := []
def oks41 : List AT := owns sig41
def E41_2 (v5 : Int) (x0 : Int) : Env := [(0, PV.a (Atom.val (Value.int IntKind.i64 x0))), (5, PV.a (Atom.val (Value.int IntKind.i64 v5))), (6, PV.a (Atom.val (Value.int IntKind.i64 1)))]
def L41_2 (v5 : Int) (x0 : Int) : Heap := []
def E41_4 (v6 : Int) (x0 : Int) (v5 : Int) : Env := [(0, PV.a (Atom.val (Value.int IntKind.i64 x0))), (5, PV.a (Atom.val (Value.int IntKind.i64 v5))), (6, PV.a (Atom.val (Value.int IntKind.i64 v6)))]
def L41_4 (v6 : Int) (x0 : Int) (v5 : Int) : Heap := []
mutual
def R41 : Nat → Int → List Dyn → Prop
  | 0, _, _ => False
  | n + 1, x0, ds => (R41_2 n (2000) (x0) ds)
def R41_2 : Nat → Int → Int → List Dyn → Prop
  | 0, _, _, _ => False
  | n + 1, v5, x0, ds => (if (Decidable.decide (v5 < 2099)) = true then ((InR IntKind.i64 (v5 + 1)) ∧ ((P54 (v5 + 1) 1 1) ∧ (if (Decidable.decide (g54_0 (v5 + 1) 1 1 ≤ x0)) = true then ((InR IntKind.i64 (v5 + 1)) ∧ (R41_2 n (v5 + 1) (x0) ds)) else (R41_4 n (1) (x0) (v5) ds)))) else (R41_4 n (1) (x0) (v5) ds))
def R41_4 : Nat → Int → Int → Int → List Dyn → Prop
  | 0, _, _, _, _ => False
  | n + 1, v6, x0, v5, ds => (if (Decidable.decide (v6 < 12)) = true then ((InR IntKind.i64 (v6 + 1)) ∧ ((P54 v5 (v6 + 1) 1) ∧ (if (Decidable.decide (g54_0 v5 (v6 + 1) 1 ≤ x0)) = true then ((InR IntKind.i64 (v6 + 1)) ∧ (R41_4 n (v6 + 1) (x0) (v5) ds)) else ((P54 v5 v6 1) ∧ ((InR IntKind.i64 (x0 - g54_0 v5 v6 1)) ∧ ((InR IntKind.i64 (x0 - g54_0 v5 v6 1 + 1)) ∧ (ds = [Dyn.mk (Ty.int IntKind.i64) v5, Dyn.mk (Ty.int IntKind.i64) v6, Dyn.mk (Ty.int IntKind.i64) (x0 - g54_0 v5 v6 1 + 1)]))))))) else ((P54 v5 v6 1) ∧ ((InR IntKind.i64 (x0 - g54_0 v5 v6 1)) ∧ ((InR IntKind.i64 (x0 - g54_0 v5 v6 1 + 1)) ∧ (ds = [Dyn.mk (Ty.int IntKind.i64) v5, Dyn.mk (Ty.int IntKind.i64) v6, Dyn.mk (Ty.int IntKind.i64) (x0 - g54_0 v5 v6 1 + 1)])))))
end
theorem snd41 : ∀ n, (∀ (x0 : Int) ds, R41 n x0 ds → ∀ K q, AtV Tryz.prog 41 (PostR kds41 oks41 ds [] [] q K) 38 K q [] [.code b41] (entE 0 0 sig41 (x0, ())) (entL sig41 (x0, ()))) ∧ (∀ (v5 : Int) (x0 : Int) ds, R41_2 n v5 x0 ds → ∀ K q, AtV Tryz.prog 41 (PostR kds41 oks41 ds [] [] q K) 38 K q [] (cutAt b41 2) (E41_2 v5 x0) (L41_2 v5 x0)) ∧ (∀ (v6 : Int) (x0 : Int) (v5 : Int) ds, R41_4 n v6 x0 v5 ds → ∀ K q, AtV Tryz.prog 41 (PostR kds41 oks41 ds [] [] q K) 38 K q [] (cutAt b41 4) (E41_4 v6 x0 v5) (L41_4 v6 x0 v5)) := by
  intro n
  induction n with
  | zero => exact ⟨fun _ _ h => by simp only [R41] at h, fun _ _ _ h => by simp only [R41_2] at h, fun _ _ _ _ h => by simp only [R41_4] at h⟩
  | succ n ih =>
  obtain ⟨ih, ih2, ih4⟩ := ih
  refine ⟨?_, ?_, ?_⟩
  · intro x0 ds h K q
    rw [R41] at h
    exact AtV.go tabOk ext41Ok mixed false [] [] [0, 5, 6] [] [] trivial (ih2 _ _ _ h K q) (by kernel_rfl)

  · intro v5 x0 ds h K q
    rw [R41_2] at h
    by_cases b0 : (Decidable.decide (v5 < 2099)) = true
    · rw [if_pos b0] at h
      obtain ⟨s0, h⟩ := h
      obtain ⟨s1, h⟩ := h
      by_cases b1 : (Decidable.decide (g54_0 (v5 + 1) 1 1 ≤ x0)) = true
      · rw [if_pos b1] at h
        obtain ⟨s2, h⟩ := h
        exact AtV.go tabOk ext41Ok mixed false [] [] [0, 5, 6] [] [true, true] (a1 b0 (a1 s0 (a1 s1 (a1 b1 (a1 s2 trivial))))) (ih2 _ _ _ h K q) (by kernel_rfl)
      · rw [if_neg b1] at h
        replace b1 := Bool.eq_false_iff.2 b1
        exact AtV.go tabOk ext41Ok mixed false [] [] [0, 5, 6] [] [true, false] (a1 b0 (a1 s0 (a1 s1 (a1 b1 trivial)))) (ih4 _ _ _ _ h K q) (by kernel_rfl)
    · rw [if_neg b0] at h
      replace b0 := Bool.eq_false_iff.2 b0
      exact AtV.go tabOk ext41Ok mixed false [] [] [0, 5, 6] [] [false, false] (a1 b0 (a1 (rfl : Bool.false = Bool.false) trivial)) (ih4 _ _ _ _ h K q) (by kernel_rfl)

  · intro v6 x0 v5 ds h K q
    rw [R41_4] at h
    by_cases b0 : (Decidable.decide (v6 < 12)) = true
    · rw [if_pos b0] at h
      obtain ⟨s0, h⟩ := h
      obtain ⟨s1, h⟩ := h
      by_cases b1 : (Decidable.decide (g54_0 v5 (v6 + 1) 1 ≤ x0)) = true
      · rw [if_pos b1] at h
        obtain ⟨s2, h⟩ := h
        exact AtV.go tabOk ext41Ok mixed false [] [] [0, 5, 6] [] [true, true] (a1 b0 (a1 s0 (a1 s1 (a1 b1 (a1 s2 trivial))))) (ih4 _ _ _ _ h K q) (by kernel_rfl)
      · rw [if_neg b1] at h
        replace b1 := Bool.eq_false_iff.2 b1
        obtain ⟨s2, h⟩ := h
        obtain ⟨s3, h⟩ := h
        obtain ⟨s4, h⟩ := h
        subst h
        exact AtV.ret Tryz.func41 tabOk ext41Ok mixed false [] tys41 [true, false] (a1 b0 (a1 s0 (a1 s1 (a1 b1 (a1 s2 (a1 s3 (a1 s4 trivial))))))) (by kernel_rfl)
    · rw [if_neg b0] at h
      replace b0 := Bool.eq_false_iff.2 b0
      obtain ⟨s0, h⟩ := h
      obtain ⟨s1, h⟩ := h
      obtain ⟨s2, h⟩ := h
      subst h
      exact AtV.ret Tryz.func41 tabOk ext41Ok mixed false [] tys41 [false, false] (a1 b0 (a1 (rfl : Bool.false = Bool.false) (a1 s0 (a1 s1 (a1 s2 trivial))))) (by kernel_rfl)



def yr41 (day : Int) : Nat → Int → Int
  | 0, y => y
  | k + 1, y => if g54_0 (y + 1) 1 1 ≤ day then yr41 day k (y + 1) else y
def mo41 (day y : Int) : Nat → Int → Int
  | 0, m => m
  | k + 1, m => if g54_0 y (m + 1) 1 ≤ day then mo41 day y k (m + 1) else m
def g41_0 (x0 : Int) : Int := yr41 x0 99 2000
def g41_1 (x0 : Int) : Int := mo41 x0 (g41_0 x0) 11 1
def g41_2 (x0 : Int) : Int := x0 - g54_0 (g41_0 x0) (g41_1 x0) 1 + 1
def P41 (x0 : Int) : Prop := 0 ≤ x0 ∧ x0 ≤ 1000000

theorem day41 {y m : Int} (hy : 2000 ≤ y ∧ y ≤ 2099) (hm : 1 ≤ m ∧ m ≤ 12) : P54 y m 1 ∧ 0 ≤ g54_0 y m 1 ∧ g54_0 y m 1 ≤ 1000000 := by
  have e : Int.tdiv (y - 1997) 4 = (y - 1997) / 4 := Int.tdiv_eq_ediv_of_nonneg (by omega)
  have := msb54 hy (m - 1).toNat
  refine ⟨⟨hy, hm, by omega⟩, ?_, ?_⟩ <;> unfold g54_0 bs54 <;> rw [e] <;> omega

theorem runM41 {y day : Int} (hy : 2000 ≤ y ∧ y ≤ 2099) (hd : 0 ≤ day ∧ day ≤ 1000000) (e : Nat) : ∀ (k : Nat) (m : Int), m + k = 12 → 1 ≤ m →
    R41_4 (k + 1 + e) m day y [⟨.int .i64, y⟩, ⟨.int .i64, mo41 day y k m⟩, ⟨.int .i64, day - g54_0 y (mo41 day y k m) 1 + 1⟩] := by
  intro k
  induction k with
  | zero =>
    intro m hm h1
    obtain ⟨p, b1, b2⟩ := day41 hy (m := m) (by omega)
    rw [show 0 + 1 + e = e + 1 by omega, R41_4, if_neg (by simp; omega)]
    exact ⟨p, by rw [i64_iff]; omega, by rw [i64_iff]; omega, rfl⟩
  | succ k ih =>
    intro m hm h1
    obtain ⟨p, b1, b2⟩ := day41 hy (m := m) (by omega)
    obtain ⟨q, c1, c2⟩ := day41 hy (m := m + 1) (by omega)
    rw [show k + 1 + 1 + e = (k + 1 + e) + 1 by omega, R41_4, if_pos (by simp; omega)]
    refine ⟨by rw [i64_iff]; omega, q, ?_⟩
    unfold mo41
    by_cases hc : g54_0 y (m + 1) 1 ≤ day
    · rw [if_pos (by simpa using hc), if_pos hc]
      exact ⟨by rw [i64_iff]; omega, ih (m + 1) (by omega) (by omega)⟩
    · rw [if_neg (by simpa using hc), if_neg hc]
      exact ⟨p, by rw [i64_iff]; omega, by rw [i64_iff]; omega, rfl⟩

theorem runY41 {day : Int} (hd : 0 ≤ day ∧ day ≤ 1000000) : ∀ (k : Nat) (y : Int), y + k = 2099 → 2000 ≤ y →
    R41_2 (k + 1 + 12) y day [⟨.int .i64, yr41 day k y⟩, ⟨.int .i64, mo41 day (yr41 day k y) 11 1⟩, ⟨.int .i64, day - g54_0 (yr41 day k y) (mo41 day (yr41 day k y) 11 1) 1 + 1⟩] := by
  intro k
  induction k with
  | zero =>
    intro y hy h1
    rw [show 0 + 1 + 12 = (11 + 1 + 0) + 1 by omega, R41_2, if_neg (by simp; omega)]
    exact runM41 (by omega) hd 0 11 1 (by omega) (by omega)
  | succ k ih =>
    intro y hy h1
    obtain ⟨q, c1, c2⟩ := day41 (y := y + 1) (m := 1) (by omega) (by omega)
    rw [show k + 1 + 1 + 12 = (k + 1 + 12) + 1 by omega, R41_2, if_pos (by simp; omega)]
    refine ⟨by rw [i64_iff]; omega, q, ?_⟩
    unfold yr41
    by_cases hc : g54_0 (y + 1) 1 1 ≤ day
    · rw [if_pos (by simpa using hc), if_pos hc]
      exact ⟨by rw [i64_iff]; omega, ih (y + 1) (by omega) (by omega)⟩
    · rw [if_neg (by simpa using hc), if_neg hc, show k + 1 + 12 = 11 + 1 + (k + 1) by omega]
      exact runM41 (by omega) hd (k + 1) 11 1 (by omega) (by omega)

theorem top41 (x0 : Int) (h : P41 x0) : R41 (99 + 1 + 12 + 1) x0 [⟨.int .i64, g41_0 x0⟩, ⟨.int .i64, g41_1 x0⟩, ⟨.int .i64, g41_2 x0⟩] := by
  rw [R41]
  exact runY41 h 99 2000 (by omega) (by omega)

def S41 : Am.Spec := { sig := sig41, pre := fun ⟨x0, _⟩ => P41 x0, res := fun ⟨x0, _⟩ => [⟨.int .i64, g41_0 x0⟩, ⟨.int .i64, g41_1 x0⟩, ⟨.int .i64, g41_2 x0⟩] }
theorem con41 : Contract Tryz.prog 41 S41 := contract_of Tryz.func41 hb41 (Nat.le_of_ble_eq_true (by kernel_rfl)) (fun ⟨x0, _⟩ h hwf K q =>
  (snd41 _).1 x0 _ (top41 x0 h) K q)

end
end Go.Proofs.YtbkkdnkbgnhodaaGreatDoor

/- The contracts of the library that this program uses, laid at this program. Written by a tool of the kit. -/
set_option linter.unusedVariables false
set_option maxRecDepth 100000
namespace Go.Proofs
open Go.Shelf
def Tryz.lays169_ren : Go.Shelf.Ren := ⟨fun | 169 => 61 | n => n, fun | 70 => 83 | 9 => 9 | 0 => 0 | 72 => 85 | 37 => 22 | 127 => 104 | 3 => 3 | 5 => 5 | n => n, fun | n => n⟩
theorem Tryz.lays169 : Go.Proofs.Lays.n169 Tryz.prog Tryz.lays169_ren := {
  mixed := by kernel_rfl
  f169 := Tryz.func61.trans (congrArg some (by kernel_rfl))
  t0 := Tryz.underlying0
  a0 := Tryz.isAgg0
  z0 := Tryz.sizeOf0
  v0 := Tryz.zeroValue0
  t3 := Tryz.underlying3
  a3 := Tryz.isAgg3
  z3 := Tryz.sizeOf3
  v3 := Tryz.zeroValue3
  t9 := Tryz.underlying9
  a9 := Tryz.isAgg9
  z9 := Tryz.sizeOf9
  v9 := Tryz.zeroValue9
  t37 := Tryz.underlying22
  a37 := Tryz.isAgg22
  z37 := Tryz.sizeOf22
  v37 := Tryz.zeroValue22
  t70 := Tryz.underlying83
  a70 := Tryz.isAgg83
  z70 := Tryz.sizeOf83
  v70 := Tryz.zeroValue83
  t72 := Tryz.underlying85
  a72 := Tryz.isAgg85
  z72 := Tryz.sizeOf85
  v72 := Tryz.zeroValue85
  t127 := Tryz.underlying104
  a127 := Tryz.isAgg104
  z127 := Tryz.sizeOf104
  v127 := Tryz.zeroValue104 }
theorem Tryz.Builder_Extra_169 : Builder.Extra Tryz.prog Tryz.lays169_ren := {
  sizeBuilder := by kernel_rfl
  liesBuilder := by kernel_rfl
  t5 := Tryz.underlying5
  a5 := Tryz.isAgg5
  z5 := Tryz.sizeOf5
  v5 := Tryz.zeroValue5
  infoByte := by kernel_rfl
  cellsByte := by kernel_rfl
  sizeByte := by kernel_rfl
  neB5 := by decide }
def Tryz.lays156_ren : Go.Shelf.Ren := ⟨fun | 156 => 47 | 165 => 59 | 166 => 60 | 169 => 61 | 240 => 76 | 241 => 77 | 276 => 96 | 277 => 97 | n => n, fun | 31 => 67 | 9 => 9 | 3 => 3 | 4 => 4 | 0 => 0 | 20 => 20 | 72 => 85 | 76 => 89 | 70 => 83 | 37 => 22 | 75 => 88 | 127 => 104 | 164 => 121 | 5 => 5 | 80 => 91 | n => n, fun | n => n⟩
theorem Tryz.lays156 : Go.Proofs.Lays.n156 Tryz.prog Tryz.lays156_ren := {
  mixed := by kernel_rfl
  f156 := Tryz.func47.trans (congrArg some (by kernel_rfl))
  f165 := Tryz.func59.trans (congrArg some (by kernel_rfl))
  f166 := Tryz.func60.trans (congrArg some (by kernel_rfl))
  f169 := Tryz.func61.trans (congrArg some (by kernel_rfl))
  f240 := Tryz.func76.trans (congrArg some (by kernel_rfl))
  f241 := Tryz.func77.trans (congrArg some (by kernel_rfl))
  f276 := Tryz.func96.trans (congrArg some (by kernel_rfl))
  f277 := Tryz.func97.trans (congrArg some (by kernel_rfl))
  t0 := Tryz.underlying0
  a0 := Tryz.isAgg0
  z0 := Tryz.sizeOf0
  v0 := Tryz.zeroValue0
  t3 := Tryz.underlying3
  a3 := Tryz.isAgg3
  z3 := Tryz.sizeOf3
  v3 := Tryz.zeroValue3
  t4 := Tryz.underlying4
  a4 := Tryz.isAgg4
  z4 := Tryz.sizeOf4
  v4 := Tryz.zeroValue4
  t9 := Tryz.underlying9
  a9 := Tryz.isAgg9
  z9 := Tryz.sizeOf9
  v9 := Tryz.zeroValue9
  t20 := Tryz.underlying20
  a20 := Tryz.isAgg20
  z20 := Tryz.sizeOf20
  v20 := Tryz.zeroValue20
  t31 := Tryz.underlying67
  a31 := Tryz.isAgg67
  z31 := Tryz.sizeOf67
  v31 := Tryz.zeroValue67
  t37 := Tryz.underlying22
  a37 := Tryz.isAgg22
  z37 := Tryz.sizeOf22
  v37 := Tryz.zeroValue22
  t70 := Tryz.underlying83
  a70 := Tryz.isAgg83
  z70 := Tryz.sizeOf83
  v70 := Tryz.zeroValue83
  t72 := Tryz.underlying85
  a72 := Tryz.isAgg85
  z72 := Tryz.sizeOf85
  v72 := Tryz.zeroValue85
  t75 := Tryz.underlying88
  a75 := Tryz.isAgg88
  z75 := Tryz.sizeOf88
  v75 := Tryz.zeroValue88
  t76 := Tryz.underlying89
  a76 := Tryz.isAgg89
  z76 := Tryz.sizeOf89
  v76 := Tryz.zeroValue89
  t127 := Tryz.underlying104
  a127 := Tryz.isAgg104
  z127 := Tryz.sizeOf104
  v127 := Tryz.zeroValue104
  t164 := Tryz.underlying121
  a164 := Tryz.isAgg121
  z164 := Tryz.sizeOf121
  v164 := Tryz.zeroValue121 }
theorem Tryz.Builder_Extra_156 : Builder.Extra Tryz.prog Tryz.lays156_ren := {
  sizeBuilder := by kernel_rfl
  liesBuilder := by kernel_rfl
  t5 := Tryz.underlying5
  a5 := Tryz.isAgg5
  z5 := Tryz.sizeOf5
  v5 := Tryz.zeroValue5
  infoByte := by kernel_rfl
  cellsByte := by kernel_rfl
  sizeByte := by kernel_rfl
  neB5 := by decide }
open Go.RowKit in theorem Tryz.strings_Join_none (a : Option Addr) (c : Nat) (sep : ByteArray) (w : World) :
    Calls Tryz.prog 47 #[.slice a 0 c, .string sep] w fun e w' => e = .returned (.string ⟨#[]⟩) ∧ w' = w := Any.strings_Join_none Tryz.lays156 Tryz.Builder_Extra_156 a c sep w
open Go.RowKit in theorem Tryz.strings_Join (bk o c : Nat) (xs : List ByteArray) (sep : ByteArray) (w : World) (hcells : ∀ (j : Nat) x, xs[j]? = some x → w.cell? ⟨bk, o + j, none⟩ = some (.string x)) (hbk : bk < w.heap.size) (hN : xs.length ≤ 140737488355328) (hcap : xs.length ≤ c) (hlen : (Lib.join (xs.map (·.data.toList)) sep.data.toList).length ≤ 140737488355328) :
    Calls Tryz.prog 47 #[.slice (some ⟨bk, o, none⟩) xs.length c, .string sep] w fun e w' => e = .returned (.string ⟨(Lib.join (xs.map (·.data.toList)) sep.data.toList).toArray⟩) ∧ Below w.heap.size w w' := Any.strings_Join Tryz.lays156 Tryz.Builder_Extra_156 bk o c xs sep w hcells hbk hN hcap hlen
open Go.RowKit in theorem Tryz.Builder_String_any_k (B b : Nat) (l : List UInt8) (w : World) (h : Lib.IsBuilderF 85 5 B b (Lib.byteCells l) w) (hBw : B ≤ w.heap.size) :
    Calls Tryz.prog 61 #[.pointer (some ⟨b, 0, none⟩)] w fun e w' => e = .returned (.string ⟨l.toArray⟩) ∧ (Lib.IsBuilderF 85 5 B b (Lib.byteCells l) w' ∧ Below B w w' ∧ Lib.OthersKept 5 (some b) w w') := Any.Builder_String_any_k Tryz.lays169 Tryz.Builder_Extra_169 B b l w h hBw
def Tryz.laysM173_ren : Go.Shelf.Ren := ⟨fun | 173 => 56 | 246 => 72 | 283 => 89 | 284 => 90 | 285 => 91 | 286 => 92 | 129 => 105 | 317 => 104 | 318 => 106 | 319 => 107 | 320 => 108 | 337 => 114 | 338 => 115 | n => n, fun | 2 => 2 | 3 => 3 | 9 => 9 | 4 => 4 | 171 => 113 | 0 => 0 | 53 => 63 | 37 => 22 | 5 => 5 | 173 => 116 | 212 => 131 | 51 => 105 | 20 => 20 | 213 => 132 | 46 => 77 | 232 => 149 | 233 => 150 | n => n, fun | 17 => 1 | 18 => 6 | 19 => 7 | n => n⟩
theorem Tryz.laysM173 : Go.Proofs.LaysM.n173 Tryz.prog Tryz.laysM173_ren := {
  mixed := by kernel_rfl
  f129 := Tryz.func105.trans (congrArg some (by kernel_rfl))
  f173 := Tryz.func56.trans (congrArg some (by kernel_rfl))
  f246 := Tryz.func72.trans (congrArg some (by kernel_rfl))
  f283 := Tryz.func89.trans (congrArg some (by kernel_rfl))
  f284 := Tryz.func90.trans (congrArg some (by kernel_rfl))
  f285 := Tryz.func91.trans (congrArg some (by kernel_rfl))
  f286 := Tryz.func92.trans (congrArg some (by kernel_rfl))
  f317 := Tryz.func104.trans (congrArg some (by kernel_rfl))
  f318 := Tryz.func106.trans (congrArg some (by kernel_rfl))
  f319 := Tryz.func107.trans (congrArg some (by kernel_rfl))
  f320 := Tryz.func108.trans (congrArg some (by kernel_rfl))
  f337 := Tryz.func114.trans (congrArg some (by kernel_rfl))
  f338 := Tryz.func115.trans (congrArg some (by kernel_rfl))
  t0 := Tryz.underlying0
  a0 := Tryz.isAgg0
  z0 := Tryz.sizeOf0
  v0 := Tryz.zeroValue0
  t2 := Tryz.underlying2
  a2 := Tryz.isAgg2
  z2 := Tryz.sizeOf2
  v2 := Tryz.zeroValue2
  t3 := Tryz.underlying3
  a3 := Tryz.isAgg3
  z3 := Tryz.sizeOf3
  v3 := Tryz.zeroValue3
  t4 := Tryz.underlying4
  a4 := Tryz.isAgg4
  z4 := Tryz.sizeOf4
  v4 := Tryz.zeroValue4
  t5 := Tryz.underlying5
  a5 := Tryz.isAgg5
  z5 := Tryz.sizeOf5
  v5 := Tryz.zeroValue5
  t9 := Tryz.underlying9
  a9 := Tryz.isAgg9
  z9 := Tryz.sizeOf9
  v9 := Tryz.zeroValue9
  t20 := Tryz.underlying20
  a20 := Tryz.isAgg20
  z20 := Tryz.sizeOf20
  v20 := Tryz.zeroValue20
  t37 := Tryz.underlying22
  a37 := Tryz.isAgg22
  z37 := Tryz.sizeOf22
  v37 := Tryz.zeroValue22
  t46 := Tryz.underlying77
  a46 := Tryz.isAgg77
  z46 := Tryz.sizeOf77
  v46 := Tryz.zeroValue77
  t51 := Tryz.underlying105
  a51 := Tryz.isAgg105
  z51 := Tryz.sizeOf105
  v51 := Tryz.zeroValue105
  t53 := Tryz.underlying63
  a53 := Tryz.isAgg63
  z53 := Tryz.sizeOf63
  v53 := Tryz.zeroValue63
  t171 := Tryz.underlying113
  a171 := Tryz.isAgg113
  z171 := Tryz.sizeOf113
  v171 := Tryz.zeroValue113
  t173 := Tryz.underlying116
  a173 := Tryz.isAgg116
  z173 := Tryz.sizeOf116
  v173 := Tryz.zeroValue116
  t212 := Tryz.underlying131
  a212 := Tryz.isAgg131
  z212 := Tryz.sizeOf131
  v212 := Tryz.zeroValue131
  t213 := Tryz.underlying132
  a213 := Tryz.isAgg132
  z213 := Tryz.sizeOf132
  t232 := Tryz.underlying149
  a232 := Tryz.isAgg149
  z232 := Tryz.sizeOf149
  v232 := Tryz.zeroValue149
  t233 := Tryz.underlying150
  a233 := Tryz.isAgg150
  z233 := Tryz.sizeOf150
  v233 := Tryz.zeroValue150
  g17 := by kernel_rfl
  g18 := by kernel_rfl
  g19 := by kernel_rfl
  i0 := by kernel_rfl
  i2 := by kernel_rfl
  i3 := by kernel_rfl
  i4 := by kernel_rfl
  i5 := by kernel_rfl
  i9 := by kernel_rfl
  i20 := by kernel_rfl
  i37 := by kernel_rfl
  i46 := by kernel_rfl
  i51 := by kernel_rfl
  i53 := by kernel_rfl
  i171 := by kernel_rfl
  i173 := by kernel_rfl
  i212 := by kernel_rfl
  i232 := by kernel_rfl
  i233 := by kernel_rfl
  m17 := by kernel_rfl
  m18 := by kernel_rfl
  m19 := by kernel_rfl }
open Go.RowKit Go.Sort Go.Lib in theorem Tryz.strconv_FormatInt_10 (n : Int) (h0 : -9223372036854775808 ≤ n) (h1 : n ≤ 9223372036854775807) (w : World) (htab : Lib.TabIs Tryz.prog w "internal/strconv.uint64pow10" .u64 Lib.pow10Tab) :
    Calls Tryz.prog 56 #[.int .i64 n, .int .i64 10] w fun e w' => e = .returned (.string ⟨(Lib.itoa n).toArray⟩) ∧ ∃ k os, w' = grow (w.drewN k) os := Any.strconv_FormatInt_10 Tryz.laysM173 n h0 h1 w htab
def Tryz.laysC174_ren : Go.Shelf.Ren := ⟨fun | 174 => 71 | 247 => 87 | 245 => 88 | 287 => 99 | 279 => 100 | 280 => 101 | 281 => 102 | 282 => 103 | 321 => 109 | 322 => 110 | 316 => 111 | 171 => 113 | 205 => 112 | 243 => 116 | 246 => 72 | 283 => 89 | 284 => 90 | 285 => 91 | 286 => 92 | 129 => 105 | 317 => 104 | 318 => 106 | 319 => 107 | 320 => 108 | 337 => 114 | 338 => 115 | n => n, fun | 9 => 9 | 3 => 3 | 2 => 2 | 75 => 88 | 85 => 98 | 4 => 4 | 167 => 124 | 5 => 5 | 53 => 63 | 175 => 125 | 46 => 77 | 168 => 127 | 37 => 22 | 0 => 0 | 210 => 143 | 21 => 21 | 127 => 104 | 145 => 148 | 143 => 146 | 171 => 113 | 173 => 116 | 212 => 131 | 51 => 105 | 20 => 20 | 213 => 132 | 232 => 149 | 233 => 150 | 80 => 91 | n => n, fun | 15 => 4 | 16 => 5 | 17 => 1 | 18 => 6 | 19 => 7 | n => n⟩
theorem Tryz.laysC174 : Go.Proofs.LaysC.n174 Tryz.prog Tryz.laysC174_ren := {
  mixed := by kernel_rfl
  f129 := Tryz.func105.trans (congrArg some (by kernel_rfl))
  f171 := Tryz.func113.trans (congrArg some (by kernel_rfl))
  f174 := Tryz.func71.trans (congrArg some (by kernel_rfl))
  f205 := Tryz.func112.trans (congrArg some (by kernel_rfl))
  f243 := Tryz.func116.trans (congrArg some (by kernel_rfl))
  f245 := Tryz.func88.trans (congrArg some (by kernel_rfl))
  f246 := Tryz.func72.trans (congrArg some (by kernel_rfl))
  f247 := Tryz.func87.trans (congrArg some (by kernel_rfl))
  f279 := Tryz.func100.trans (congrArg some (by kernel_rfl))
  f280 := Tryz.func101.trans (congrArg some (by kernel_rfl))
  f281 := Tryz.func102.trans (congrArg some (by kernel_rfl))
  f282 := Tryz.func103.trans (congrArg some (by kernel_rfl))
  f283 := Tryz.func89.trans (congrArg some (by kernel_rfl))
  f284 := Tryz.func90.trans (congrArg some (by kernel_rfl))
  f285 := Tryz.func91.trans (congrArg some (by kernel_rfl))
  f286 := Tryz.func92.trans (congrArg some (by kernel_rfl))
  f287 := Tryz.func99.trans (congrArg some (by kernel_rfl))
  f316 := Tryz.func111.trans (congrArg some (by kernel_rfl))
  f317 := Tryz.func104.trans (congrArg some (by kernel_rfl))
  f318 := Tryz.func106.trans (congrArg some (by kernel_rfl))
  f319 := Tryz.func107.trans (congrArg some (by kernel_rfl))
  f320 := Tryz.func108.trans (congrArg some (by kernel_rfl))
  f321 := Tryz.func109.trans (congrArg some (by kernel_rfl))
  f322 := Tryz.func110.trans (congrArg some (by kernel_rfl))
  f337 := Tryz.func114.trans (congrArg some (by kernel_rfl))
  f338 := Tryz.func115.trans (congrArg some (by kernel_rfl))
  t0 := Tryz.underlying0
  a0 := Tryz.isAgg0
  z0 := Tryz.sizeOf0
  v0 := Tryz.zeroValue0
  t2 := Tryz.underlying2
  a2 := Tryz.isAgg2
  z2 := Tryz.sizeOf2
  v2 := Tryz.zeroValue2
  t3 := Tryz.underlying3
  a3 := Tryz.isAgg3
  z3 := Tryz.sizeOf3
  v3 := Tryz.zeroValue3
  t4 := Tryz.underlying4
  a4 := Tryz.isAgg4
  z4 := Tryz.sizeOf4
  v4 := Tryz.zeroValue4
  t5 := Tryz.underlying5
  a5 := Tryz.isAgg5
  z5 := Tryz.sizeOf5
  v5 := Tryz.zeroValue5
  t9 := Tryz.underlying9
  a9 := Tryz.isAgg9
  z9 := Tryz.sizeOf9
  v9 := Tryz.zeroValue9
  t20 := Tryz.underlying20
  a20 := Tryz.isAgg20
  z20 := Tryz.sizeOf20
  v20 := Tryz.zeroValue20
  t21 := Tryz.underlying21
  a21 := Tryz.isAgg21
  z21 := Tryz.sizeOf21
  v21 := Tryz.zeroValue21
  t37 := Tryz.underlying22
  a37 := Tryz.isAgg22
  z37 := Tryz.sizeOf22
  v37 := Tryz.zeroValue22
  t46 := Tryz.underlying77
  a46 := Tryz.isAgg77
  z46 := Tryz.sizeOf77
  v46 := Tryz.zeroValue77
  t51 := Tryz.underlying105
  a51 := Tryz.isAgg105
  z51 := Tryz.sizeOf105
  v51 := Tryz.zeroValue105
  t53 := Tryz.underlying63
  a53 := Tryz.isAgg63
  z53 := Tryz.sizeOf63
  v53 := Tryz.zeroValue63
  t75 := Tryz.underlying88
  a75 := Tryz.isAgg88
  z75 := Tryz.sizeOf88
  v75 := Tryz.zeroValue88
  t85 := Tryz.underlying98
  a85 := Tryz.isAgg98
  z85 := Tryz.sizeOf98
  v85 := Tryz.zeroValue98
  t127 := Tryz.underlying104
  a127 := Tryz.isAgg104
  z127 := Tryz.sizeOf104
  v127 := Tryz.zeroValue104
  t143 := Tryz.underlying146
  a143 := Tryz.isAgg146
  z143 := Tryz.sizeOf146
  v143 := Tryz.zeroValue146
  t145 := Tryz.underlying148
  a145 := Tryz.isAgg148
  z145 := Tryz.sizeOf148
  v145 := Tryz.zeroValue148
  t167 := Tryz.underlying124
  a167 := Tryz.isAgg124
  z167 := Tryz.sizeOf124
  v167 := Tryz.zeroValue124
  t168 := Tryz.underlying127
  a168 := Tryz.isAgg127
  z168 := Tryz.sizeOf127
  v168 := Tryz.zeroValue127
  t171 := Tryz.underlying113
  a171 := Tryz.isAgg113
  z171 := Tryz.sizeOf113
  v171 := Tryz.zeroValue113
  t173 := Tryz.underlying116
  a173 := Tryz.isAgg116
  z173 := Tryz.sizeOf116
  v173 := Tryz.zeroValue116
  t175 := Tryz.underlying125
  a175 := Tryz.isAgg125
  z175 := Tryz.sizeOf125
  v175 := Tryz.zeroValue125
  t210 := Tryz.underlying143
  a210 := Tryz.isAgg143
  z210 := Tryz.sizeOf143
  v210 := Tryz.zeroValue143
  t212 := Tryz.underlying131
  a212 := Tryz.isAgg131
  z212 := Tryz.sizeOf131
  v212 := Tryz.zeroValue131
  t213 := Tryz.underlying132
  a213 := Tryz.isAgg132
  z213 := Tryz.sizeOf132
  t232 := Tryz.underlying149
  a232 := Tryz.isAgg149
  z232 := Tryz.sizeOf149
  v232 := Tryz.zeroValue149
  t233 := Tryz.underlying150
  a233 := Tryz.isAgg150
  z233 := Tryz.sizeOf150
  v233 := Tryz.zeroValue150
  g15 := by kernel_rfl
  g16 := by kernel_rfl
  g17 := by kernel_rfl
  g18 := by kernel_rfl
  g19 := by kernel_rfl
  t80 := Tryz.underlying91
  a80 := Tryz.isAgg91
  z80 := Tryz.sizeOf91
  v80 := Tryz.zeroValue91
  i0 := by kernel_rfl
  i2 := by kernel_rfl
  i3 := by kernel_rfl
  i4 := by kernel_rfl
  i5 := by kernel_rfl
  i9 := by kernel_rfl
  i20 := by kernel_rfl
  i21 := by kernel_rfl
  i37 := by kernel_rfl
  i46 := by kernel_rfl
  i51 := by kernel_rfl
  i53 := by kernel_rfl
  i75 := by kernel_rfl
  i80 := by kernel_rfl
  i85 := by kernel_rfl
  i127 := by kernel_rfl
  i143 := by kernel_rfl
  i145 := by kernel_rfl
  i167 := by kernel_rfl
  i168 := by kernel_rfl
  i171 := by kernel_rfl
  i173 := by kernel_rfl
  i175 := by kernel_rfl
  i210 := by kernel_rfl
  i212 := by kernel_rfl
  i232 := by kernel_rfl
  i233 := by kernel_rfl
  m15 := by kernel_rfl
  m16 := by kernel_rfl
  m17 := by kernel_rfl
  m18 := by kernel_rfl
  m19 := by kernel_rfl
  c0 := by kernel_rfl
  c2 := by kernel_rfl
  c3 := by kernel_rfl
  c4 := by kernel_rfl
  c5 := by kernel_rfl
  c9 := by kernel_rfl
  c20 := by kernel_rfl
  c21 := by kernel_rfl
  c37 := by kernel_rfl
  c46 := by kernel_rfl
  c51 := by kernel_rfl
  c53 := by kernel_rfl
  c75 := by kernel_rfl
  c80 := by kernel_rfl
  c85 := by kernel_rfl
  c127 := by kernel_rfl
  c143 := by kernel_rfl
  c145 := by kernel_rfl
  c167 := by kernel_rfl
  c168 := by kernel_rfl
  c171 := by kernel_rfl
  c173 := by kernel_rfl
  c175 := by kernel_rfl
  c210 := by kernel_rfl
  c212 := by kernel_rfl
  c213 := by kernel_rfl
  c232 := by kernel_rfl
  c233 := by kernel_rfl }
open Go.RowKit in theorem Tryz.strconv_ParseInt_10_at64_ok (s : ByteArray) (hmax : s.size ≤ 9223372036854775806) (v : Int) (h : Lib.parseIntB 64 s.data.toList = .ok v) (w : World) :
    Calls Tryz.prog 71 #[.string s, .int .i64 10, .int .i64 64] w fun e w' => e = .returned (.tuple #[.int .i64 v, .nilIface]) ∧ (w' = w ∨ ∃ t, w' = Lib.bytesWorld w 5 t) := Any.strconv_ParseInt_10_at64_ok Tryz.laysC174 s hmax v h w
open Go.RowKit in theorem Tryz.strconv_ParseInt_10_at64_syntax (s : ByteArray) (hlim : s.size ≤ 281474976710656) (h : Lib.parseIntB 64 s.data.toList = .syntax) (ev : Value) (w : World) (hv : w.cell? ⟨4, 0, none⟩ = some ev) (hev : ev = .nilIface ∨ ∃ te pe, ev = .iface te pe) :
    Calls Tryz.prog 71 #[.string s, .int .i64 10, .int .i64 64] w fun e w' => ∃ N, e = .returned (.tuple #[.int .i64 (0), .iface 127 (.pointer (some ⟨N, 0, none⟩))]) ∧ w.heap.size ≤ N ∧ w'.heap[N]? = some (.cells #[.string ⟨#[80, 97, 114, 115, 101, 73, 110, 116]⟩, .string s, ev] 143 (0, 0)) ∧ Below w.heap.size w w' := Any.strconv_ParseInt_10_at64_syntax Tryz.laysC174 s hlim h ev w hv hev
open Go.RowKit in theorem Tryz.strconv_ParseInt_10_at64_range (s : ByteArray) (hlim : s.size ≤ 281474976710656) (h : Lib.parseIntB 64 s.data.toList = .range) (ev : Value) (w : World) (hv : w.cell? ⟨5, 0, none⟩ = some ev) (hev : ev = .nilIface ∨ ∃ te pe, ev = .iface te pe) :
    Calls Tryz.prog 71 #[.string s, .int .i64 10, .int .i64 64] w fun e w' => ∃ N, e = .returned (.tuple #[.int .i64 (Lib.intSat 64 s.data.toList), .iface 127 (.pointer (some ⟨N, 0, none⟩))]) ∧ w.heap.size ≤ N ∧ w'.heap[N]? = some (.cells #[.string ⟨#[80, 97, 114, 115, 101, 73, 110, 116]⟩, .string s, ev] 143 (0, 0)) ∧ Below w.heap.size w w' := Any.strconv_ParseInt_10_at64_range Tryz.laysC174 s hlim h ev w hv hev
def Tryz.lays145_ren : Go.Shelf.Ren := ⟨fun | 145 => 23 | 220 => 36 | 219 => 51 | 217 => 63 | 225 => 64 | 224 => 65 | 267 => 66 | 266 => 81 | 314 => 82 | n => n, fun | 9 => 9 | 4 => 4 | 59 => 51 | 3 => 3 | 5 => 5 | 46 => 77 | 146 => 106 | 51 => 105 | n => n, fun | 1 => 0 | n => n⟩
theorem Tryz.lays145 : Go.Proofs.Lays.n145 Tryz.prog Tryz.lays145_ren := {
  mixed := by kernel_rfl
  f145 := Tryz.func23.trans (congrArg some (by kernel_rfl))
  f217 := Tryz.func63.trans (congrArg some (by kernel_rfl))
  f219 := Tryz.func51.trans (congrArg some (by kernel_rfl))
  f220 := Tryz.func36.trans (congrArg some (by kernel_rfl))
  f224 := Tryz.func65.trans (congrArg some (by kernel_rfl))
  f225 := Tryz.func64.trans (congrArg some (by kernel_rfl))
  f266 := Tryz.func81.trans (congrArg some (by kernel_rfl))
  f267 := Tryz.func66.trans (congrArg some (by kernel_rfl))
  f314 := Tryz.func82.trans (congrArg some (by kernel_rfl))
  t3 := Tryz.underlying3
  a3 := Tryz.isAgg3
  z3 := Tryz.sizeOf3
  v3 := Tryz.zeroValue3
  t4 := Tryz.underlying4
  a4 := Tryz.isAgg4
  z4 := Tryz.sizeOf4
  v4 := Tryz.zeroValue4
  t5 := Tryz.underlying5
  a5 := Tryz.isAgg5
  z5 := Tryz.sizeOf5
  v5 := Tryz.zeroValue5
  t9 := Tryz.underlying9
  a9 := Tryz.isAgg9
  z9 := Tryz.sizeOf9
  v9 := Tryz.zeroValue9
  t46 := Tryz.underlying77
  a46 := Tryz.isAgg77
  z46 := Tryz.sizeOf77
  v46 := Tryz.zeroValue77
  t51 := Tryz.underlying105
  a51 := Tryz.isAgg105
  z51 := Tryz.sizeOf105
  v51 := Tryz.zeroValue105
  t59 := Tryz.underlying51
  a59 := Tryz.isAgg51
  z59 := Tryz.sizeOf51
  v59 := Tryz.zeroValue51
  t146 := Tryz.underlying106
  a146 := Tryz.isAgg106
  z146 := Tryz.sizeOf106
  v146 := Tryz.zeroValue106
  g1 := by kernel_rfl }
open Go.RowKit Go.Lib in theorem Tryz.strings_Cut (s sep : ByteArray) (m : Int) (w : World) (hs : s.size < 4294967281) (hm : w.cell? ⟨0, 0, none⟩ = some (.int .i64 m)) :
    Calls Tryz.prog 23 #[.string s, .string sep] w fun e w' => e = .returned (.tuple #[.string ⟨(Lib.cut s.data.toList sep.data.toList).1.toArray⟩, .string ⟨(Lib.cut s.data.toList sep.data.toList).2.1.toArray⟩, .bool (Lib.cut s.data.toList sep.data.toList).2.2]) ∧ ∃ n, w' = w.drewN n := Any.strings_Cut Tryz.lays145 s sep m w hs hm
def Tryz.lays99_ren : Go.Shelf.Ren := ⟨fun | 99 => 74 | 206 => 95 | n => n, fun | 9 => 9 | 4 => 4 | 3 => 3 | n => n, fun | n => n⟩
theorem Tryz.lays99 : Go.Proofs.Lays.n99 Tryz.prog Tryz.lays99_ren := {
  mixed := by kernel_rfl
  f99 := Tryz.func74.trans (congrArg some (by kernel_rfl))
  f206 := Tryz.func95.trans (congrArg some (by kernel_rfl))
  t3 := Tryz.underlying3
  a3 := Tryz.isAgg3
  z3 := Tryz.sizeOf3
  v3 := Tryz.zeroValue3
  t4 := Tryz.underlying4
  a4 := Tryz.isAgg4
  z4 := Tryz.sizeOf4
  v4 := Tryz.zeroValue4
  t9 := Tryz.underlying9
  a9 := Tryz.isAgg9
  z9 := Tryz.sizeOf9
  v9 := Tryz.zeroValue9 }
open Go.RowKit Go.Lib in theorem Tryz.strings_HasPrefix (s p : ByteArray) (w : World) :
    Calls Tryz.prog 74 #[.string s, .string p] w fun e w' => e = .returned (.bool (Lib.hasPrefix s.data.toList p.data.toList)) ∧ w' = w := Any.strings_HasPrefix Tryz.lays99 s p w
def Tryz.lays101_ren : Go.Shelf.Ren := ⟨fun | 101 => 70 | 208 => 86 | 206 => 95 | n => n, fun | 9 => 9 | 4 => 4 | 3 => 3 | n => n, fun | n => n⟩
theorem Tryz.lays101 : Go.Proofs.Lays.n101 Tryz.prog Tryz.lays101_ren := {
  mixed := by kernel_rfl
  f101 := Tryz.func70.trans (congrArg some (by kernel_rfl))
  f206 := Tryz.func95.trans (congrArg some (by kernel_rfl))
  f208 := Tryz.func86.trans (congrArg some (by kernel_rfl))
  t3 := Tryz.underlying3
  a3 := Tryz.isAgg3
  z3 := Tryz.sizeOf3
  v3 := Tryz.zeroValue3
  t4 := Tryz.underlying4
  a4 := Tryz.isAgg4
  z4 := Tryz.sizeOf4
  v4 := Tryz.zeroValue4
  t9 := Tryz.underlying9
  a9 := Tryz.isAgg9
  z9 := Tryz.sizeOf9
  v9 := Tryz.zeroValue9 }
open Go.RowKit Go.Lib in theorem Tryz.strings_TrimPrefix (s p : ByteArray) (w : World) :
    Calls Tryz.prog 70 #[.string s, .string p] w fun e w' => e = .returned (.string ⟨(Lib.trimPrefix s.data.toList p.data.toList).toArray⟩) ∧ w' = w := Any.strings_TrimPrefix Tryz.lays101 s p w
def Tryz.lays146_ren : Go.Shelf.Ren := ⟨fun | 146 => 37 | 221 => 52 | 268 => 67 | 138 => 68 | 143 => 69 | 195 => 83 | 197 => 84 | 218 => 85 | 219 => 51 | 260 => 98 | 217 => 63 | 225 => 64 | 224 => 65 | 267 => 66 | 266 => 81 | 314 => 82 | n => n, fun | 9 => 9 | 31 => 67 | 3 => 3 | 4 => 4 | 0 => 0 | 105 => 109 | 21 => 21 | 5 => 5 | 46 => 77 | 119 => 135 | 139 => 138 | 138 => 137 | 146 => 106 | 51 => 105 | n => n, fun | 1 => 0 | 3 => 2 | 4 => 3 | n => n⟩
theorem Tryz.lays146 : Go.Proofs.Lays.n146 Tryz.prog Tryz.lays146_ren := {
  mixed := by kernel_rfl
  f138 := Tryz.func68.trans (congrArg some (by kernel_rfl))
  f143 := Tryz.func69.trans (congrArg some (by kernel_rfl))
  f146 := Tryz.func37.trans (congrArg some (by kernel_rfl))
  f195 := Tryz.func83.trans (congrArg some (by kernel_rfl))
  f197 := Tryz.func84.trans (congrArg some (by kernel_rfl))
  f217 := Tryz.func63.trans (congrArg some (by kernel_rfl))
  f218 := Tryz.func85.trans (congrArg some (by kernel_rfl))
  f219 := Tryz.func51.trans (congrArg some (by kernel_rfl))
  f221 := Tryz.func52.trans (congrArg some (by kernel_rfl))
  f224 := Tryz.func65.trans (congrArg some (by kernel_rfl))
  f225 := Tryz.func64.trans (congrArg some (by kernel_rfl))
  f260 := Tryz.func98.trans (congrArg some (by kernel_rfl))
  f266 := Tryz.func81.trans (congrArg some (by kernel_rfl))
  f267 := Tryz.func66.trans (congrArg some (by kernel_rfl))
  f268 := Tryz.func67.trans (congrArg some (by kernel_rfl))
  f314 := Tryz.func82.trans (congrArg some (by kernel_rfl))
  t0 := Tryz.underlying0
  a0 := Tryz.isAgg0
  z0 := Tryz.sizeOf0
  v0 := Tryz.zeroValue0
  t3 := Tryz.underlying3
  a3 := Tryz.isAgg3
  z3 := Tryz.sizeOf3
  v3 := Tryz.zeroValue3
  t4 := Tryz.underlying4
  a4 := Tryz.isAgg4
  z4 := Tryz.sizeOf4
  v4 := Tryz.zeroValue4
  t5 := Tryz.underlying5
  a5 := Tryz.isAgg5
  z5 := Tryz.sizeOf5
  v5 := Tryz.zeroValue5
  t9 := Tryz.underlying9
  a9 := Tryz.isAgg9
  z9 := Tryz.sizeOf9
  v9 := Tryz.zeroValue9
  t21 := Tryz.underlying21
  a21 := Tryz.isAgg21
  z21 := Tryz.sizeOf21
  v21 := Tryz.zeroValue21
  t31 := Tryz.underlying67
  a31 := Tryz.isAgg67
  z31 := Tryz.sizeOf67
  v31 := Tryz.zeroValue67
  t46 := Tryz.underlying77
  a46 := Tryz.isAgg77
  z46 := Tryz.sizeOf77
  v46 := Tryz.zeroValue77
  t51 := Tryz.underlying105
  a51 := Tryz.isAgg105
  z51 := Tryz.sizeOf105
  v51 := Tryz.zeroValue105
  t105 := Tryz.underlying109
  a105 := Tryz.isAgg109
  z105 := Tryz.sizeOf109
  v105 := Tryz.zeroValue109
  t119 := Tryz.underlying135
  a119 := Tryz.isAgg135
  z119 := Tryz.sizeOf135
  t138 := Tryz.underlying137
  a138 := Tryz.isAgg137
  z138 := Tryz.sizeOf137
  v138 := Tryz.zeroValue137
  t139 := Tryz.underlying138
  a139 := Tryz.isAgg138
  z139 := Tryz.sizeOf138
  v139 := Tryz.zeroValue138
  t146 := Tryz.underlying106
  a146 := Tryz.isAgg106
  z146 := Tryz.sizeOf106
  v146 := Tryz.zeroValue106
  g1 := by kernel_rfl
  g3 := by kernel_rfl
  g4 := by kernel_rfl }
open Go.RowKit Go.Lib in theorem Tryz.strings_Split (s sep : ByteArray) (m : Int) (w : World) (hs : s.size < 4294967281) (hm : w.cell? ⟨0, 0, none⟩ = some (.int .i64 m)) (h1 : 1 ≤ sep.size) :
    Calls Tryz.prog 37 #[.string s, .string sep] w fun e w' =>
      e = .returned (.slice (some ⟨w.heap.size, 0, none⟩) (Lib.countB s sep + 1) (Lib.countB s sep + 1)) ∧ w' = w.alloc (.cells ((Lib.splitB sep 0 (Lib.countB s sep) s).map Value.string).toArray 9) := Any.strings_Split Tryz.lays146 (by kernel_rfl) s sep m w hs hm h1
def Tryz.lays105_ren : Go.Shelf.Ren := ⟨fun | 105 => 57 | 212 => 73 | 99 => 74 | 165 => 59 | 166 => 60 | 170 => 75 | 169 => 61 | 263 => 93 | 264 => 94 | 206 => 95 | 240 => 76 | 241 => 77 | 276 => 96 | 277 => 97 | n => n, fun | 9 => 9 | 3 => 3 | 4 => 4 | 20 => 20 | 0 => 0 | 46 => 77 | 109 => 100 | 5 => 5 | 72 => 85 | 76 => 89 | 51 => 105 | 146 => 106 | 53 => 63 | 148 => 119 | 70 => 83 | 37 => 22 | 75 => 88 | 127 => 104 | 164 => 121 | 80 => 91 | n => n, fun | n => n⟩
theorem Tryz.lays105 : Go.Proofs.Lays.n105 Tryz.prog Tryz.lays105_ren := {
  mixed := by kernel_rfl
  f99 := Tryz.func74.trans (congrArg some (by kernel_rfl))
  f105 := Tryz.func57.trans (congrArg some (by kernel_rfl))
  f165 := Tryz.func59.trans (congrArg some (by kernel_rfl))
  f166 := Tryz.func60.trans (congrArg some (by kernel_rfl))
  f169 := Tryz.func61.trans (congrArg some (by kernel_rfl))
  f170 := Tryz.func75.trans (congrArg some (by kernel_rfl))
  f206 := Tryz.func95.trans (congrArg some (by kernel_rfl))
  f212 := Tryz.func73.trans (congrArg some (by kernel_rfl))
  f240 := Tryz.func76.trans (congrArg some (by kernel_rfl))
  f241 := Tryz.func77.trans (congrArg some (by kernel_rfl))
  f263 := Tryz.func93.trans (congrArg some (by kernel_rfl))
  f264 := Tryz.func94.trans (congrArg some (by kernel_rfl))
  f276 := Tryz.func96.trans (congrArg some (by kernel_rfl))
  f277 := Tryz.func97.trans (congrArg some (by kernel_rfl))
  t0 := Tryz.underlying0
  a0 := Tryz.isAgg0
  z0 := Tryz.sizeOf0
  v0 := Tryz.zeroValue0
  t3 := Tryz.underlying3
  a3 := Tryz.isAgg3
  z3 := Tryz.sizeOf3
  v3 := Tryz.zeroValue3
  t4 := Tryz.underlying4
  a4 := Tryz.isAgg4
  z4 := Tryz.sizeOf4
  v4 := Tryz.zeroValue4
  t5 := Tryz.underlying5
  a5 := Tryz.isAgg5
  z5 := Tryz.sizeOf5
  v5 := Tryz.zeroValue5
  t9 := Tryz.underlying9
  a9 := Tryz.isAgg9
  z9 := Tryz.sizeOf9
  v9 := Tryz.zeroValue9
  t20 := Tryz.underlying20
  a20 := Tryz.isAgg20
  z20 := Tryz.sizeOf20
  v20 := Tryz.zeroValue20
  t37 := Tryz.underlying22
  a37 := Tryz.isAgg22
  z37 := Tryz.sizeOf22
  v37 := Tryz.zeroValue22
  t46 := Tryz.underlying77
  a46 := Tryz.isAgg77
  z46 := Tryz.sizeOf77
  v46 := Tryz.zeroValue77
  t51 := Tryz.underlying105
  a51 := Tryz.isAgg105
  z51 := Tryz.sizeOf105
  v51 := Tryz.zeroValue105
  t53 := Tryz.underlying63
  a53 := Tryz.isAgg63
  z53 := Tryz.sizeOf63
  v53 := Tryz.zeroValue63
  t70 := Tryz.underlying83
  a70 := Tryz.isAgg83
  z70 := Tryz.sizeOf83
  v70 := Tryz.zeroValue83
  t72 := Tryz.underlying85
  a72 := Tryz.isAgg85
  z72 := Tryz.sizeOf85
  v72 := Tryz.zeroValue85
  t75 := Tryz.underlying88
  a75 := Tryz.isAgg88
  z75 := Tryz.sizeOf88
  v75 := Tryz.zeroValue88
  t76 := Tryz.underlying89
  a76 := Tryz.isAgg89
  z76 := Tryz.sizeOf89
  v76 := Tryz.zeroValue89
  t109 := Tryz.underlying100
  a109 := Tryz.isAgg100
  z109 := Tryz.sizeOf100
  v109 := Tryz.zeroValue100
  t127 := Tryz.underlying104
  a127 := Tryz.isAgg104
  z127 := Tryz.sizeOf104
  v127 := Tryz.zeroValue104
  t146 := Tryz.underlying106
  a146 := Tryz.isAgg106
  z146 := Tryz.sizeOf106
  v146 := Tryz.zeroValue106
  t148 := Tryz.underlying119
  a148 := Tryz.isAgg119
  z148 := Tryz.sizeOf119
  v148 := Tryz.zeroValue119
  t164 := Tryz.underlying121
  a164 := Tryz.isAgg121
  z164 := Tryz.sizeOf121
  v164 := Tryz.zeroValue121 }
theorem Tryz.Builder_Extra_105 : Builder.Extra Tryz.prog Tryz.lays105_ren := {
  sizeBuilder := by kernel_rfl
  liesBuilder := by kernel_rfl
  t5 := Tryz.underlying5
  a5 := Tryz.isAgg5
  z5 := Tryz.sizeOf5
  v5 := Tryz.zeroValue5
  infoByte := by kernel_rfl
  cellsByte := by kernel_rfl
  sizeByte := by kernel_rfl
  neB5 := by decide }
open Go.RowKit Go.Lib in theorem Tryz.strings_Repeat (s : ByteArray) (c : Nat) (w : World) (hc : c ≤ 9223372036854775807) (hlen : s.size * c ≤ 140737488355328) :
    Calls Tryz.prog 57 #[.string s, .int .i64 c] w fun e w' => e = .returned (.string ⟨(Lib.repeatL s.data.toList c).toArray⟩) ∧ Below w.heap.size w w' := Any.strings_Repeat Tryz.lays105 Tryz.Builder_Extra_105 s c w hc hlen
end Go.Proofs

/- Function 56 (strconv.FormatInt): its contract, off what is known of the library. -/
set_option linter.unusedVariables false
set_option linter.unusedSimpArgs false
set_option maxRecDepth 100000
namespace Go.Proofs.YtbkkdnkbgnhodaaGreatDoor
open Go Go.Am Go.Proofs

def sig56 : List AT := [AT.v (Ty.int .i64), AT.v (Ty.int .i64)]
def g56_0 (x0 x1 : Int) : ByteArray := numB x0
def P56 (x0 x1 : Int) : Prop := x1 = 10
def S56 : Am.Spec := { sig := sig56, pre := fun ⟨x0, x1, _⟩ => P56 x0 x1, res := fun ⟨x0, x1, _⟩ => [⟨Ty.str, g56_0 x0 x1⟩] }
theorem con56 : Contract Tryz.prog 56 S56 := contract_flat rfl fun w ⟨x0, x1, _⟩ vs bss hg hp hw ha => by
  obtain ⟨v0, s0, _, _, rfl, _, ⟨_, rfl, hi⟩, v1, s1, _, _, rfl, _, ⟨_, rfl, _⟩, rfl, _⟩ := ha
  obtain rfl : x1 = 10 := hp
  have hi : InR .i64 x0 := hi
  rw [i64_iff] at hi
  refine ⟨fun d hd => ?_, ?_⟩
  · rw [List.mem_singleton.1 hd]
    refine ⟨rfl, ?_⟩
    show (numB x0).size ≤ maxLen
    have := numB_size x0 hi.1 hi.2
    unfold maxLen; omega
  · refine (Tryz.strconv_FormatInt_10 x0 hi.1 hi.2 w (pow10G hg)).mono ?_
    rintro e w' ⟨rfl, n, os, rfl⟩
    exact ⟨rfl, kept_grow _ _ _⟩

end Go.Proofs.YtbkkdnkbgnhodaaGreatDoor

/- Function 42 (impl.Decimal): its runs between cut points. Written by a program of this repo (gen). -/
set_option linter.unusedVariables false
set_option linter.unusedSimpArgs false
set_option maxRecDepth 100000
namespace Go.Proofs.YtbkkdnkbgnhodaaGreatDoor
open Go Go.Am Go.Proofs
noncomputable section
def ext42 : Ext := [(56, S56)]
theorem call42_56 : Callable Tryz.prog 56 := ⟨Tryz.f56, Tryz.func56, by kernel_rfl, by kernel_rfl⟩
theorem ext42Ok : ExtOk Tryz.prog ext42 := ⟨⟨call42_56, con56⟩, trivial⟩

noncomputable def b42 : Code := bodyOf Tryz.f42
theorem hb42 : Tryz.f42.body = some b42 := by kernel_rfl
def sig42 : List AT := [AT.v (Ty.int IntKind.i64)]
def tys42 : List Ty := [Ty.str]
def kds42 : List RK := []
def oks42 : List AT := owns sig42
def P42 (x0 : Int) : Prop := ((P56 x0 10) ∧ True)
def g42_0 (x0 : Int) : ByteArray := g56_0 x0 10
theorem at42 (x0 : Int) (h : P42 x0) (K : Ctx) (q : Nat → Value) : AtV Tryz.prog 42 (PostR kds42 oks42 [⟨Ty.str, g42_0 x0⟩] [] [] q K) 5 K q [] [.code b42] (entE 0 0 sig42 (x0, ())) (entL sig42 (x0, ())) := by
  unfold P42 at h
  unfold g42_0
  obtain ⟨s0, h⟩ := h
  exact AtV.ret Tryz.func42 tabOk ext42Ok mixed false [] tys42 [] (a1 s0 trivial) (by kernel_rfl)

def S42 : Am.Spec := { sig := sig42, pre := fun ⟨x0, _⟩ => P42 x0, res := fun ⟨x0, _⟩ => [⟨Ty.str, g42_0 x0⟩], kds := kds42 }
theorem con42 : Contract Tryz.prog 42 S42 := contract_of Tryz.func42 hb42 (Nat.le_of_ble_eq_true (by kernel_rfl)) (fun ⟨x0, _⟩ h _ K q => at42 x0 h K q)


end
end Go.Proofs.YtbkkdnkbgnhodaaGreatDoor

/- Function 57 (strings.Repeat): its contract, off what is known of the library. -/
set_option linter.unusedVariables false
set_option linter.unusedSimpArgs false
set_option maxRecDepth 100000
namespace Go.Proofs.YtbkkdnkbgnhodaaGreatDoor
open Go Go.Am Go.Proofs

def sig57 : List AT := [AT.v Ty.str, AT.v (Ty.int .i64)]
def g57_0 (x0 : ByteArray) (x1 : Int) : ByteArray := ⟨(Lib.repeatL x0.data.toList x1.toNat).toArray⟩
def P57 (x0 : ByteArray) (x1 : Int) : Prop := 0 ≤ x1 ∧ (x0.size : Int) * x1 ≤ 140737488355328
def S57 : Am.Spec := { sig := sig57, pre := fun ⟨x0, x1, _⟩ => P57 x0 x1, res := fun ⟨x0, x1, _⟩ => [⟨Ty.str, g57_0 x0 x1⟩] }
theorem con57 : Contract Tryz.prog 57 S57 := contract_flat rfl fun w ⟨x0, x1, _⟩ vs bss hg hp hw ha => by
  obtain ⟨v0, s0, _, _, rfl, _, ⟨_, rfl, _⟩, v1, s1, _, _, rfl, _, ⟨_, rfl, _⟩, rfl, _⟩ := ha
  obtain ⟨h0, h1⟩ := hp
  obtain ⟨c, rfl⟩ : ∃ c : Nat, x1 = (c : Int) := Int.eq_ofNat_of_zero_le h0
  have hi : InR .i64 (c : Int) := hw.2.1
  rw [i64_iff] at hi
  have hm : x0.size * c ≤ 140737488355328 := by
    have : ((x0.size * c : Nat) : Int) = (x0.size : Int) * (c : Int) := Int.natCast_mul _ _
    omega
  refine ⟨fun d hd => ?_, ?_⟩
  · rw [List.mem_singleton.1 hd]
    refine ⟨rfl, ?_⟩
    show (ByteArray.mk (Lib.repeatL x0.data.toList c).toArray).size ≤ maxLen
    have : (ByteArray.mk (Lib.repeatL x0.data.toList c).toArray).size = c * x0.data.toList.length := by
      show (Lib.repeatL x0.data.toList c).toArray.size = _
      rw [List.size_toArray, Lib.repeatL_length]
    rw [this, Nat.mul_comm]
    have e : x0.data.toList.length = x0.size := rfl
    rw [e]
    unfold maxLen
    omega
  · refine (Tryz.strings_Repeat x0 c w (by omega) hm).mono ?_
    rintro e w' ⟨rfl, hb⟩
    exact ⟨rfl, Kept.of_below hb⟩

end Go.Proofs.YtbkkdnkbgnhodaaGreatDoor

/- Function 43 (impl.padded): its runs between cut points. Written by a program of this repo (gen). -/
set_option linter.unusedVariables false
set_option linter.unusedSimpArgs false
set_option maxRecDepth 100000
namespace Go.Proofs.YtbkkdnkbgnhodaaGreatDoor
open Go Go.Am Go.Proofs
noncomputable section
def ext43 : Ext := [(42, S42), (57, S57)]
theorem call43_42 : Callable Tryz.prog 42 := ⟨Tryz.f42, Tryz.func42, by kernel_rfl, by kernel_rfl⟩
theorem call43_57 : Callable Tryz.prog 57 := ⟨Tryz.f57, Tryz.func57, by kernel_rfl, by kernel_rfl⟩
theorem ext43Ok : ExtOk Tryz.prog ext43 := ⟨⟨call43_42, con42⟩, ⟨call43_57, con57⟩, trivial⟩

noncomputable def b43 : Code := bodyOf Tryz.f43
theorem hb43 : Tryz.f43.body = some b43 := by kernel_rfl
def sig43 : List AT := [AT.v (Ty.int IntKind.i64), AT.v (Ty.int IntKind.i64)]
def tys43 : List Ty := [Ty.str]
def kds43 : List RK := []
def oks43 : List AT := owns sig43
def P43 (x0 : Int) (x1 : Int) : Prop := ((P42 x0) ∧ ((InR IntKind.i64 (x1 - (↑(ByteArray.size (g42_0 x0)) : Int))) ∧ ((P57 (ByteArray.mk #[48]) (if 0 < x1 - (↑(ByteArray.size (g42_0 x0)) : Int) then x1 - (↑(ByteArray.size (g42_0 x0)) : Int) else 0)) ∧ ((ByteArray.size (g57_0 (ByteArray.mk #[48]) (if 0 < x1 - (↑(ByteArray.size (g42_0 x0)) : Int) then x1 - (↑(ByteArray.size (g42_0 x0)) : Int) else 0)) + ByteArray.size (g42_0 x0) ≤ 9223372036854775807) ∧ True))))
def g43_0 (x0 : Int) (x1 : Int) : ByteArray := g57_0 (ByteArray.mk #[48]) (if 0 < x1 - (↑(ByteArray.size (g42_0 x0)) : Int) then x1 - (↑(ByteArray.size (g42_0 x0)) : Int) else 0) ++ g42_0 x0
theorem at43 (x0 : Int) (x1 : Int) (h : P43 x0 x1) (K : Ctx) (q : Nat → Value) : AtV Tryz.prog 43 (PostR kds43 oks43 [⟨Ty.str, g43_0 x0 x1⟩] [] [] q K) 16 K q [] [.code b43] (entE 0 0 sig43 (x0, x1, ())) (entL sig43 (x0, x1, ())) := by
  unfold P43 at h
  unfold g43_0
  obtain ⟨s0, h⟩ := h
  obtain ⟨s1, h⟩ := h
  obtain ⟨s2, h⟩ := h
  obtain ⟨s3, h⟩ := h
  exact AtV.ret Tryz.func43 tabOk ext43Ok mixed false [] tys43 [] (a1 s0 (a1 s1 (a1 s2 (a1 s3 trivial)))) (by kernel_rfl)

def S43 : Am.Spec := { sig := sig43, pre := fun ⟨x0, x1, _⟩ => P43 x0 x1, res := fun ⟨x0, x1, _⟩ => [⟨Ty.str, g43_0 x0 x1⟩], kds := kds43 }
theorem con43 : Contract Tryz.prog 43 S43 := contract_of Tryz.func43 hb43 (Nat.le_of_ble_eq_true (by kernel_rfl)) (fun ⟨x0, x1, _⟩ h _ K q => at43 x0 x1 h K q)


end
end Go.Proofs.YtbkkdnkbgnhodaaGreatDoor

/- Function 26 (impl.DateText): its runs between cut points. Written by a program of this repo (gen). -/
set_option linter.unusedVariables false
set_option linter.unusedSimpArgs false
set_option maxRecDepth 100000
namespace Go.Proofs.YtbkkdnkbgnhodaaGreatDoor
open Go Go.Am Go.Proofs
noncomputable section
def ext26 : Ext := [(31, S31), (41, S41), (42, S42), (43, S43)]
theorem call26_31 : Callable Tryz.prog 31 := ⟨Tryz.f31, Tryz.func31, by kernel_rfl, by kernel_rfl⟩
theorem call26_41 : Callable Tryz.prog 41 := ⟨Tryz.f41, Tryz.func41, by kernel_rfl, by kernel_rfl⟩
theorem call26_42 : Callable Tryz.prog 42 := ⟨Tryz.f42, Tryz.func42, by kernel_rfl, by kernel_rfl⟩
theorem call26_43 : Callable Tryz.prog 43 := ⟨Tryz.f43, Tryz.func43, by kernel_rfl, by kernel_rfl⟩
theorem ext26Ok : ExtOk Tryz.prog ext26 := ⟨⟨call26_31, con31⟩, ⟨call26_41, con41⟩, ⟨call26_42, con42⟩, ⟨call26_43, con43⟩, trivial⟩

noncomputable def b26 : Code := bodyOf Tryz.f26
theorem hb26 : Tryz.f26.body = some b26 := by kernel_rfl
def sig26 : List AT := [AT.v (Ty.int IntKind.i64)]
def tys26 : List Ty := [Ty.str]
def kds26 : List RK := []
def oks26 : List AT := owns sig26
def P26 (x0 : Int) : Prop := (if (!g31_0 x0) = true then True else ((P41 x0) ∧ ((P42 (g41_0 x0)) ∧ ((ByteArray.size (g42_0 (g41_0 x0)) + 1 ≤ 9223372036854775807) ∧ ((P43 (g41_1 x0) 2) ∧ ((ByteArray.size (g42_0 (g41_0 x0) ++ ByteArray.mk #[45]) + ByteArray.size (g43_0 (g41_1 x0) 2) ≤ 9223372036854775807) ∧ ((ByteArray.size (g42_0 (g41_0 x0) ++ ByteArray.mk #[45] ++ g43_0 (g41_1 x0) 2) + 1 ≤ 9223372036854775807) ∧ ((P43 (g41_2 x0) 2) ∧ ((ByteArray.size (g42_0 (g41_0 x0) ++ ByteArray.mk #[45] ++ g43_0 (g41_1 x0) 2 ++ ByteArray.mk #[45]) + ByteArray.size (g43_0 (g41_2 x0) 2) ≤ 9223372036854775807) ∧ True)))))))))
def g26_0 (x0 : Int) : ByteArray := (if (!g31_0 x0) = true then ByteArray.mk #[] else g42_0 (g41_0 x0) ++ ByteArray.mk #[45] ++ g43_0 (g41_1 x0) 2 ++ ByteArray.mk #[45] ++ g43_0 (g41_2 x0) 2)
theorem at26 (x0 : Int) (h : P26 x0) (K : Ctx) (q : Nat → Value) : AtV Tryz.prog 26 (PostR kds26 oks26 [⟨Ty.str, g26_0 x0⟩] [] [] q K) 25 K q [] [.code b26] (entE 0 0 sig26 (x0, ())) (entL sig26 (x0, ())) := by
  unfold P26 at h
  unfold g26_0
  by_cases b0 : (!g31_0 x0) = true
  · try simp only [if_pos b0] at h ⊢
    exact AtV.ret Tryz.func26 tabOk ext26Ok mixed false [] tys26 [true] (a1 trivial (a1 b0 trivial)) (by kernel_rfl)
  · try simp only [if_neg b0] at h ⊢
    replace b0 := Bool.eq_false_iff.2 b0
    obtain ⟨s0, h⟩ := h
    obtain ⟨s1, h⟩ := h
    obtain ⟨s2, h⟩ := h
    obtain ⟨s3, h⟩ := h
    obtain ⟨s4, h⟩ := h
    obtain ⟨s5, h⟩ := h
    obtain ⟨s6, h⟩ := h
    obtain ⟨s7, h⟩ := h
    exact AtV.ret Tryz.func26 tabOk ext26Ok mixed false [] tys26 [false] (a1 trivial (a1 b0 (a1 s0 (a1 s1 (a1 s2 (a1 s3 (a1 s4 (a1 s5 (a1 s6 (a1 s7 trivial)))))))))) (by kernel_rfl)

def S26 : Am.Spec := { sig := sig26, pre := fun ⟨x0, _⟩ => P26 x0, res := fun ⟨x0, _⟩ => [⟨Ty.str, g26_0 x0⟩], kds := kds26 }
theorem con26 : Contract Tryz.prog 26 S26 := contract_of Tryz.func26 hb26 (Nat.le_of_ble_eq_true (by kernel_rfl)) (fun ⟨x0, _⟩ h _ K q => at26 x0 h K q)


end
end Go.Proofs.YtbkkdnkbgnhodaaGreatDoor

/- Function 47 (strings.Join): its contract, off what is known of the library. -/
set_option linter.unusedVariables false
set_option linter.unusedSimpArgs false
set_option maxRecDepth 100000
namespace Go.Proofs.YtbkkdnkbgnhodaaGreatDoor
open Go Go.Am Go.Proofs

def sig47 : List AT := [AT.v (Ty.sl Ty.str), AT.v Ty.str]
def g47_0 (x0 : List ByteArray) (x1 : ByteArray) : ByteArray := ⟨(Lib.join (x0.map fun x => x.data.toList) x1.data.toList).toArray⟩
def P47 (x0 : List ByteArray) (x1 : ByteArray) : Prop := x0.length ≤ 1048576 ∧ (Lib.join (x0.map fun x => x.data.toList) x1.data.toList).length ≤ 140737488355328
def S47 : Am.Spec := { sig := sig47, pre := fun ⟨x0, x1, _⟩ => P47 x0 x1, res := fun ⟨x0, x1, _⟩ => [⟨Ty.str, g47_0 x0 x1⟩] }
theorem con47 : Contract Tryz.prog 47 S47 := contract_flat rfl fun w ⟨x0, x1, _⟩ vs bss hg hp hw ha => by
  obtain ⟨v0, s0, _, _, rfl, _, ⟨_, ho⟩, v1, s1, _, _, rfl, _, ⟨_, rfl, _⟩, rfl, _⟩ := ha
  obtain ⟨h0, h1⟩ : x0.length ≤ 1048576 ∧ (Lib.join (x0.map fun x => x.data.toList) x1.data.toList).length ≤ 140737488355328 := hp
  refine ⟨fun d hd => ?_, ?_⟩
  · rw [List.mem_singleton.1 hd]
    refine ⟨rfl, ?_⟩
    show (List.toArray _).size ≤ maxLen
    rw [List.size_toArray]; exact Nat.le_trans h1 (by decide)
  · obtain ⟨_, _, hcase⟩ := slAt_flat (t := .str) rfl ho
    rcases hcase with ⟨ad, rfl, rfl⟩ | ⟨b', off, cap, rfl, h2, h3, hG, hcells⟩
    · refine (Tryz.strings_Join_none ad 0 x1 w).mono ?_
      rintro e w' ⟨rfl, rfl⟩
      exact ⟨rfl, Kept.refl _ _⟩
    · refine (Tryz.strings_Join b' off cap x0 x1 w (fun j x hx => ?_) hG.1 (by omega) h2 h1).mono ?_
      · refine hcells j _ ?_
        have e : fcs .str x0 = x0.map Value.string := by
          have : ∀ xs : List ByteArray, fcs .str xs = xs.map Value.string := by
            intro xs
            induction xs with
            | nil => rfl
            | cons a r ih => unfold fcs at ih ⊢; rw [List.map_cons, List.flatten_cons, ih]; rfl
          exact this x0
        rw [e, List.getElem?_map, hx]
        rfl
      · rintro e w' ⟨rfl, hb⟩
        exact ⟨rfl, Kept.of_below hb⟩

end Go.Proofs.YtbkkdnkbgnhodaaGreatDoor

/- Function 46 (impl.isValue): its runs between cut points. Written by a program of this repo (gen). -/
set_option linter.unusedVariables false
set_option linter.unusedSimpArgs false
set_option maxRecDepth 100000
namespace Go.Proofs.YtbkkdnkbgnhodaaGreatDoor
open Go Go.Am Go.Proofs
noncomputable section
def ext46 : Ext := [(30, S30)]
theorem call46_30 : Callable Tryz.prog 30 := ⟨Tryz.f30, Tryz.func30, by kernel_rfl, by kernel_rfl⟩
theorem ext46Ok : ExtOk Tryz.prog ext46 := ⟨⟨call46_30, con30⟩, trivial⟩

noncomputable def b46 : Code := bodyOf Tryz.f46
theorem hb46 : Tryz.f46.body = some b46 := by kernel_rfl
def sig46 : List AT := [AT.v (Ty.int IntKind.i64)]
def tys46 : List Ty := [Ty.bool]
def kds46 : List RK := []
def oks46 : List AT := owns sig46
def P46 (x0 : Int) : Prop := True
def g46_0 (x0 : Int) : Bool := g30_0 x0 (-1000000000000) 1000000000000
theorem at46 (x0 : Int) (h : P46 x0) (K : Ctx) (q : Nat → Value) : AtV Tryz.prog 46 (PostR kds46 oks46 [⟨Ty.bool, g46_0 x0⟩] [] [] q K) 5 K q [] [.code b46] (entE 0 0 sig46 (x0, ())) (entL sig46 (x0, ())) := by
  unfold P46 at h
  unfold g46_0
  exact AtV.ret Tryz.func46 tabOk ext46Ok mixed false [] tys46 [] (a1 trivial trivial) (by kernel_rfl)

def S46 : Am.Spec := { sig := sig46, pre := fun ⟨x0, _⟩ => P46 x0, res := fun ⟨x0, _⟩ => [⟨Ty.bool, g46_0 x0⟩], kds := kds46 }
theorem con46 : Contract Tryz.prog 46 S46 := contract_of Tryz.func46 hb46 (Nat.le_of_ble_eq_true (by kernel_rfl)) (fun ⟨x0, _⟩ h _ K q => at46 x0 h K q)


end
end Go.Proofs.YtbkkdnkbgnhodaaGreatDoor

/- Function 45 (impl.ListText$1): its runs between cut points. Written by a program of this repo (gen). -/
set_option linter.unusedVariables false
set_option linter.unusedSimpArgs false
set_option maxRecDepth 100000
namespace Go.Proofs.YtbkkdnkbgnhodaaGreatDoor
open Go Go.Am Go.Proofs
noncomputable section
def ext45 : Ext := [(46, S46)]
theorem call45_46 : Callable Tryz.prog 46 := ⟨Tryz.f46, Tryz.func46, by kernel_rfl, by kernel_rfl⟩
theorem ext45Ok : ExtOk Tryz.prog ext45 := ⟨⟨call45_46, con46⟩, trivial⟩

noncomputable def b45 : Code := bodyOf Tryz.f45
theorem hb45 : Tryz.f45.body = some b45 := by kernel_rfl
def sig45 : List AT := [AT.v (Ty.int IntKind.i64)]
def tys45 : List Ty := [Ty.bool]
def kds45 : List RK := []
def oks45 : List AT := owns sig45
def P45 (x0 : Int) : Prop := True
def g45_0 (x0 : Int) : Bool := !g46_0 x0
theorem at45 (x0 : Int) (h : P45 x0) (K : Ctx) (q : Nat → Value) : AtV Tryz.prog 45 (PostR kds45 oks45 [⟨Ty.bool, g45_0 x0⟩] [] [] q K) 6 K q [] [.code b45] (entE 0 0 sig45 (x0, ())) (entL sig45 (x0, ())) := by
  unfold P45 at h
  unfold g45_0
  exact AtV.ret Tryz.func45 tabOk ext45Ok mixed false [] tys45 [] (a1 trivial trivial) (by kernel_rfl)

def S45 : Am.Spec := { sig := sig45, pre := fun ⟨x0, _⟩ => P45 x0, res := fun ⟨x0, _⟩ => [⟨Ty.bool, g45_0 x0⟩], kds := kds45 }
theorem con45 : Contract Tryz.prog 45 S45 := contract_of Tryz.func45 hb45 (Nat.le_of_ble_eq_true (by kernel_rfl)) (fun ⟨x0, _⟩ h _ K q => at45 x0 h K q)


end
end Go.Proofs.YtbkkdnkbgnhodaaGreatDoor

/- Function 58 (slices.IndexFunc[[]int64,int64]): its runs between cut points. Written by a program of this repo (gen). -/
set_option linter.unusedVariables false
set_option linter.unusedSimpArgs false
set_option maxRecDepth 100000
namespace Go.Proofs.YtbkkdnkbgnhodaaGreatDoor
open Go Go.Am Go.Proofs
noncomputable section
def ext58c45 : Ext := [(45, S45)]
theorem call58c45_45 : Callable Tryz.prog 45 := ⟨Tryz.f45, Tryz.func45, by kernel_rfl, by kernel_rfl⟩
theorem ext58c45Ok : ExtOk Tryz.prog ext58c45 := ⟨⟨call58c45_45, con45⟩, trivial⟩

noncomputable def b58c45 : Code := bodyOf Tryz.f58
theorem hb58c45 : Tryz.f58.body = some b58c45 := by kernel_rfl
def sig58c45 : List AT := [AT.v (Ty.sl (Ty.int IntKind.i64)), AT.fn 45 []]
def tys58c45 : List Ty := [Ty.int IntKind.i64]
def kds58c45 : List RK := []
def oks58c45 : List AT := owns sig58c45
def E58c45_2 (v8 : Int) (x0 : List Int) : Env := [(0, PV.a (Atom.sl (Ty.int IntKind.i64) x0)), (1, PV.fn 45 []), (7, PV.a (Atom.val (Value.int IntKind.i64 (↑(List.length x0) : Int)))), (8, PV.a (Atom.val (Value.int IntKind.i64 v8)))]
def L58c45_2 (v8 : Int) (x0 : List Int) : Heap := []
mutual
def R58c45 : Nat → List Int → List Dyn → Prop
  | 0, _, _ => False
  | n + 1, x0, ds => (R58c45_2 n (0) (x0) ds)
def R58c45_2 : Nat → Int → List Int → List Dyn → Prop
  | 0, _, _, _ => False
  | n + 1, v8, x0, ds => (if (Decidable.decide (v8 < (↑(List.length x0) : Int))) = true then ((0 ≤ v8) ∧ (v8 < (↑(List.length x0) : Int)) ∧ (if (g45_0 (List.getD x0 (Int.toNat v8) 0)) = true then (ds = [Dyn.mk (Ty.int IntKind.i64) v8]) else ((InR IntKind.i64 (v8 + 1)) ∧ (R58c45_2 n (v8 + 1) (x0) ds)))) else (ds = [Dyn.mk (Ty.int IntKind.i64) (-1)]))
end
theorem snd58c45 : ∀ n, (∀ (x0 : List Int) ds, R58c45 n x0 ds → ∀ K q, AtV Tryz.prog 58 (PostR kds58c45 oks58c45 ds [] [] q K) 19 K q [] [.code b58c45] (entE 0 0 sig58c45 (x0, (), ())) (entL sig58c45 (x0, (), ()))) ∧ (∀ (v8 : Int) (x0 : List Int) ds, R58c45_2 n v8 x0 ds → ∀ K q, AtV Tryz.prog 58 (PostR kds58c45 oks58c45 ds [] [] q K) 19 K q [] (cutAt b58c45 2) (E58c45_2 v8 x0) (L58c45_2 v8 x0)) := by
  intro n
  induction n with
  | zero => exact ⟨fun _ _ h => by simp only [R58c45] at h, fun _ _ _ h => by simp only [R58c45_2] at h⟩
  | succ n ih =>
  obtain ⟨ih, ih2⟩ := ih
  refine ⟨?_, ?_⟩
  · intro x0 ds h K q
    rw [R58c45] at h
    exact AtV.go tabOk ext58c45Ok mixed false [] [] [0, 1, 7, 8] [] [] trivial (ih2 _ _ _ h K q) (by kernel_rfl)

  · intro v8 x0 ds h K q
    rw [R58c45_2] at h
    by_cases b0 : (Decidable.decide (v8 < (↑(List.length x0) : Int))) = true
    · rw [if_pos b0] at h
      obtain ⟨s0, s1, h⟩ := h
      by_cases b1 : (g45_0 (List.getD x0 (Int.toNat v8) 0)) = true
      · rw [if_pos b1] at h
        subst h
        exact AtV.ret Tryz.func58 tabOk ext58c45Ok mixed false [] tys58c45 [true, true] (a1 b0 (a1 s0 (a1 s1 (a1 trivial (a1 b1 trivial))))) (by kernel_rfl)
      · rw [if_neg b1] at h
        replace b1 := Bool.eq_false_iff.2 b1
        obtain ⟨s2, h⟩ := h
        exact AtV.go tabOk ext58c45Ok mixed false [] [] [0, 1, 7, 8] [] [true, false] (a1 b0 (a1 s0 (a1 s1 (a1 trivial (a1 b1 (a1 s2 trivial)))))) (ih2 _ _ _ h K q) (by kernel_rfl)
    · rw [if_neg b0] at h
      replace b0 := Bool.eq_false_iff.2 b0
      subst h
      exact AtV.ret Tryz.func58 tabOk ext58c45Ok mixed false [] tys58c45 [false] (a1 b0 trivial) (by kernel_rfl)



def g58c45_0 (x0 : List (Int)) : Int := idx (x0.findIdx? g45_0)
def P58c45 (x0 : List (Int)) : Prop := True

theorem top58c45 (x0 : List (Int)) (hm : x0.length ≤ maxLen) : R58c45 (x0.length + 1 + 1) x0 [⟨.int .i64, g58c45_0 x0⟩] := by
  rw [R58c45]
  have key := loop_find x0 (0 : Int) g45_0 [(⟨.int .i64, -1⟩ : Dyn)] (fun k => [⟨.int .i64, k⟩]) (fun n i ds => R58c45_2 n i x0 ds) (fun n => ?_) (fun n i hi hok ds hr => ?_) (fun n i hi hok => ?_)
  · unfold g58c45_0
    cases h : x0.findIdx? g45_0 <;> rw [h] at key <;> exact key
  · rw [R58c45_2, if_neg (by simp)]
  · rw [R58c45_2, if_pos (by simp; omega)]
    simp only [Int.toNat_natCast]
    refine ⟨by omega, by omega, ?_⟩
    rw [if_neg (by rw [hok]; simp)]
    exact ⟨inR_up hm hi, hr⟩
  · rw [R58c45_2, if_pos (by simp; omega)]
    simp only [Int.toNat_natCast]
    refine ⟨by omega, by omega, ?_⟩
    rw [if_pos hok] <;> trivial

def S58c45 : Am.Spec := { sig := sig58c45, pre := fun ⟨x0, _⟩ => P58c45 x0, res := fun ⟨x0, _⟩ => [⟨Ty.int .i64, g58c45_0 x0⟩] }
theorem con58c45 : Contract Tryz.prog 58 S58c45 := contract_of Tryz.func58 hb58c45 (Nat.le_of_ble_eq_true (by kernel_rfl)) (fun ⟨x0, _⟩ h hwf K q =>
  (snd58c45 _).1 x0 _ (top58c45 x0 hwf.1.1) K q)

theorem any58c45 (x0 : List (Int)) : decide (g58c45_0 x0 ≥ 0) = x0.any g45_0 := by
  have := findIdx_any g45_0 x0
  unfold g58c45_0
  cases h : x0.any g45_0 with
  | true => rw [h] at this; simpa using this
  | false => rw [h] at this; simpa using this

end
end Go.Proofs.YtbkkdnkbgnhodaaGreatDoor

/- Function 44 (slices.ContainsFunc[[]int64,int64]): its runs between cut points. Written by a program of this repo (gen). -/
set_option linter.unusedVariables false
set_option linter.unusedSimpArgs false
set_option maxRecDepth 100000
namespace Go.Proofs.YtbkkdnkbgnhodaaGreatDoor
open Go Go.Am Go.Proofs
noncomputable section
def ext44c45 : Ext := [(58, S58c45), (45, S45)]
theorem call44c45_58 : Callable Tryz.prog 58 := ⟨Tryz.f58, Tryz.func58, by kernel_rfl, by kernel_rfl⟩
theorem call44c45_45 : Callable Tryz.prog 45 := ⟨Tryz.f45, Tryz.func45, by kernel_rfl, by kernel_rfl⟩
theorem ext44c45Ok : ExtOk Tryz.prog ext44c45 := ⟨⟨call44c45_58, con58c45⟩, ⟨call44c45_45, con45⟩, trivial⟩

noncomputable def b44c45 : Code := bodyOf Tryz.f44
theorem hb44c45 : Tryz.f44.body = some b44c45 := by kernel_rfl
def sig44c45 : List AT := [AT.v (Ty.sl (Ty.int IntKind.i64)), AT.fn 45 []]
def tys44c45 : List Ty := [Ty.bool]
def kds44c45 : List RK := []
def oks44c45 : List AT := owns sig44c45
def P44c45 (x0 : List Int) : Prop := True
def g44c45_0 (x0 : List Int) : Bool := Decidable.decide (g58c45_0 x0 ≥ 0)
theorem at44c45 (x0 : List Int) (h : P44c45 x0) (K : Ctx) (q : Nat → Value) : AtV Tryz.prog 44 (PostR kds44c45 oks44c45 [⟨Ty.bool, g44c45_0 x0⟩] [] [] q K) 9 K q [] [.code b44c45] (entE 0 0 sig44c45 (x0, (), ())) (entL sig44c45 (x0, (), ())) := by
  unfold P44c45 at h
  unfold g44c45_0
  exact AtV.ret Tryz.func44 tabOk ext44c45Ok mixed false [] tys44c45 [] (a1 trivial trivial) (by kernel_rfl)

def S44c45 : Am.Spec := { sig := sig44c45, pre := fun ⟨x0, _⟩ => P44c45 x0, res := fun ⟨x0, _⟩ => [⟨Ty.bool, g44c45_0 x0⟩], kds := kds44c45 }
theorem con44c45 : Contract Tryz.prog 44 S44c45 := contract_of Tryz.func44 hb44c45 (Nat.le_of_ble_eq_true (by kernel_rfl)) (fun ⟨x0, _⟩ h _ K q => at44c45 x0 h K q)


end
end Go.Proofs.YtbkkdnkbgnhodaaGreatDoor

/- Function 27 (impl.ListText): its runs between cut points. Written by a program of this repo (gen). -/
set_option linter.unusedVariables false
set_option linter.unusedSimpArgs false
set_option maxRecDepth 100000
namespace Go.Proofs.YtbkkdnkbgnhodaaGreatDoor
open Go Go.Am Go.Proofs
noncomputable section
def ext27 : Ext := [(42, S42), (47, S47), (44, S44c45)]
theorem call27_42 : Callable Tryz.prog 42 := ⟨Tryz.f42, Tryz.func42, by kernel_rfl, by kernel_rfl⟩
theorem call27_47 : Callable Tryz.prog 47 := ⟨Tryz.f47, Tryz.func47, by kernel_rfl, by kernel_rfl⟩
theorem call27_44 : Callable Tryz.prog 44 := ⟨Tryz.f44, Tryz.func44, by kernel_rfl, by kernel_rfl⟩
theorem ext27Ok : ExtOk Tryz.prog ext27 := ⟨⟨call27_42, con42⟩, ⟨call27_47, con47⟩, ⟨call27_44, con44c45⟩, trivial⟩

noncomputable def b27 : Code := bodyOf Tryz.f27
theorem hb27 : Tryz.f27.body = some b27 := by kernel_rfl
def sig27 : List AT := [AT.v (Ty.sl (Ty.int IntKind.i64))]
def tys27 : List Ty := [Ty.str]
def kds27 : List RK := []
def oks27 : List AT := owns sig27
def E27_7 (v18 : Int) (h0 : List ByteArray) (x0 : List Int) : Env := [(3, PV.a (Atom.osl 0 Option.none)), (16, PV.a (Atom.sl (Ty.int IntKind.i64) x0)), (17, PV.a (Atom.val (Value.int IntKind.i64 (↑(List.length x0) : Int)))), (18, PV.a (Atom.val (Value.int IntKind.i64 v18)))]
def L27_7 (v18 : Int) (h0 : List ByteArray) (x0 : List Int) : Heap := [Option.some (Arr.mk Ty.str h0 Bool.false Option.none Option.none)]
mutual
def R27 : Nat → List Int → List Dyn → Prop
  | 0, _, _ => False
  | n + 1, x0, ds => (if (Decidable.decide ((↑(List.length x0) : Int) > 64)) = true then (ds = [Dyn.mk Ty.str (ByteArray.mk #[])]) else (if (g44c45_0 x0) = true then (ds = [Dyn.mk Ty.str (ByteArray.mk #[])]) else (if ((↑(List.length x0) : Int) == 0) = true then (ds = [Dyn.mk Ty.str (ByteArray.mk #[45])]) else (R27_7 n (0) ([]) (x0) ds))))
def R27_7 : Nat → Int → List ByteArray → List Int → List Dyn → Prop
  | 0, _, _, _, _ => False
  | n + 1, v18, h0, x0, ds => (if (Decidable.decide (v18 < (↑(List.length x0) : Int))) = true then ((0 ≤ v18) ∧ (v18 < (↑(List.length x0) : Int)) ∧ ((P42 (List.getD x0 (Int.toNat v18) 0)) ∧ (((List.length h0 + 1) * 16 ≤ 140737488355328) ∧ ((InR IntKind.i64 (v18 + 1)) ∧ (R27_7 n (v18 + 1) (h0 ++ [g42_0 (List.getD x0 (Int.toNat v18) 0)]) (x0) ds))))) else ((P47 h0 (ByteArray.mk #[44])) ∧ (ds = [Dyn.mk Ty.str (g47_0 h0 (ByteArray.mk #[44]))])))
end
theorem snd27 : ∀ n, (∀ (x0 : List Int) ds, R27 n x0 ds → ∀ K q, AtV Tryz.prog 27 (PostR kds27 oks27 ds [] [] q K) 30 K q [] [.code b27] (entE 0 0 sig27 (x0, ())) (entL sig27 (x0, ()))) ∧ (∀ (v18 : Int) (h0 : List ByteArray) (x0 : List Int) ds, R27_7 n v18 h0 x0 ds → ∀ K q, AtV Tryz.prog 27 (PostR kds27 oks27 ds [] [] q K) 30 K q [] (cutAt b27 7) (E27_7 v18 h0 x0) (L27_7 v18 h0 x0)) := by
  intro n
  induction n with
  | zero => exact ⟨fun _ _ h => by simp only [R27] at h, fun _ _ _ _ h => by simp only [R27_7] at h⟩
  | succ n ih =>
  obtain ⟨ih, ih7⟩ := ih
  refine ⟨?_, ?_⟩
  · intro x0 ds h K q
    rw [R27] at h
    by_cases b0 : (Decidable.decide ((↑(List.length x0) : Int) > 64)) = true
    · rw [if_pos b0] at h
      subst h
      exact AtV.ret Tryz.func27 tabOk ext27Ok mixed false [] tys27 [true, true] (a1 b0 (a1 (rfl : Bool.true = Bool.true) trivial)) (by kernel_rfl)
    · rw [if_neg b0] at h
      replace b0 := Bool.eq_false_iff.2 b0
      by_cases b1 : (g44c45_0 x0) = true
      · rw [if_pos b1] at h
        subst h
        exact AtV.ret Tryz.func27 tabOk ext27Ok mixed false [] tys27 [false, true] (a1 b0 (a1 trivial (a1 b1 trivial))) (by kernel_rfl)
      · rw [if_neg b1] at h
        replace b1 := Bool.eq_false_iff.2 b1
        by_cases b2 : ((↑(List.length x0) : Int) == 0) = true
        · rw [if_pos b2] at h
          subst h
          exact AtV.ret Tryz.func27 tabOk ext27Ok mixed false [] tys27 [false, false, true] (a1 b0 (a1 trivial (a1 b1 (a1 b2 trivial)))) (by kernel_rfl)
        · rw [if_neg b2] at h
          replace b2 := Bool.eq_false_iff.2 b2
          exact AtV.go tabOk ext27Ok mixed false [] [(3, Ty.str)] [3, 16, 17, 18] [0] [false, false, false] (a1 b0 (a1 trivial (a1 b1 (a1 b2 trivial)))) (ih7 _ _ _ _ h K q) (by kernel_rfl)

  · intro v18 h0 x0 ds h K q
    rw [R27_7] at h
    by_cases b0 : (Decidable.decide (v18 < (↑(List.length x0) : Int))) = true
    · rw [if_pos b0] at h
      obtain ⟨s0, s1, h⟩ := h
      obtain ⟨s2, h⟩ := h
      obtain ⟨s3, h⟩ := h
      obtain ⟨s4, h⟩ := h
      exact AtV.go tabOk ext27Ok mixed false [] [(3, Ty.str)] [3, 16, 17, 18] [0] [true] (a1 b0 (a1 s0 (a1 s1 (a1 s2 (a1 s3 (a1 s4 trivial)))))) (ih7 _ _ _ _ h K q) (by kernel_rfl)
    · rw [if_neg b0] at h
      replace b0 := Bool.eq_false_iff.2 b0
      obtain ⟨s0, h⟩ := h
      subst h
      exact AtV.ret Tryz.func27 tabOk ext27Ok mixed false [] tys27 [false] (a1 b0 (a1 s0 trivial)) (by kernel_rfl)



def g27_0 (x0 : List Int) : ByteArray := if x0.length > 64 then ByteArray.mk #[] else if g44c45_0 x0 = true then ByteArray.mk #[] else if x0.length = 0 then ByteArray.mk #[45] else g47_0 (x0.map g42_0) (ByteArray.mk #[44])
def P27 (x0 : List Int) : Prop := True

theorem dsz27 (x : Int) (h : InR .i64 x) : (g42_0 x).size ≤ 21 := by
  rw [i64_iff] at h
  exact numB_size x (by omega) (by omega)

theorem pdec27 (x : Int) : P42 x := ⟨rfl, trivial⟩

theorem lens27 : ∀ (xs : List Int), (∀ x ∈ xs, InR .i64 x) → Lib.lens (xs.map fun x => (g42_0 x).data.toList) ≤ 21 * xs.length
  | [], _ => by simp [Lib.lens]
  | x :: r, h => by
    have ih := lens27 r fun y hy => h y (List.mem_cons_of_mem _ hy)
    have hx := dsz27 x (h x (List.mem_cons_self ..))
    have e : (g42_0 x).data.toList.length = (g42_0 x).size := rfl
    unfold Lib.lens at ih ⊢
    simp only [List.map_cons, List.sum_cons, List.length_cons, e] at ih ⊢
    omega

theorem join27 (xs : List Int) (hx : ∀ x ∈ xs, InR .i64 x) (hl : xs.length ≤ 64) : P47 (xs.map g42_0) (ByteArray.mk #[44]) := by
  refine ⟨by simp; omega, ?_⟩
  rw [List.map_map]
  cases xs with
  | nil => simp [Lib.join, List.intercalate]
  | cons x r =>
    have h := lens27 (x :: r) hx
    rw [List.map_cons] at h ⊢
    rw [Lib.join_length]
    have e : (ByteArray.mk #[44]).data.toList.length = 1 := rfl
    rw [e]
    simp only [List.length_map, List.length_cons] at *
    have h' : Lib.lens (((fun x : ByteArray => x.data.toList) ∘ g42_0) x :: List.map ((fun x : ByteArray => x.data.toList) ∘ g42_0) r) ≤ 21 * (r.length + 1) := h
    omega

theorem top27 (x0 : List Int) (hx : ∀ x ∈ x0, InR .i64 x) : R27 (x0.length + 1 + 1) x0 [⟨.str, g27_0 x0⟩] := by
  rw [R27]
  unfold g27_0
  by_cases h1 : x0.length > 64
  · rw [if_pos (by simp; omega), if_pos h1]
  · rw [if_neg (by simp; omega), if_neg h1]
    by_cases h2 : g44c45_0 x0 = true
    · rw [if_pos h2, if_pos h2]
    · rw [if_neg h2, if_neg h2]
      by_cases h0 : x0.length = 0
      · rw [if_pos (by simp [h0]), if_pos h0]
      · rw [if_neg (by simp only [beq_iff_eq]; omega), if_neg h0]
        have hm : x0.length ≤ maxLen := by unfold maxLen; omega
        have key := loop_fold (b := []) x0 0 (fun (h : List ByteArray) b => h ++ [g42_0 b]) (fun h => [(⟨.str, g47_0 h (ByteArray.mk #[44])⟩ : Dyn)]) (fun i h => h.length ≤ i ∧ h = (x0.take i).map g42_0) (fun n i h ds => R27_7 n i h x0 ds) (by simp) (fun n h hb => ?_) (fun n i h hi hl => ⟨⟨len_up hl.1, ?_⟩, fun ds hr => ?_⟩)
        · rw [foldl_snoc] at key
          simpa using key
        · show R27_7 (n + 1) x0.length h x0 _
          rw [R27_7, if_neg (by simp)]
          refine ⟨?_, rfl⟩
          rw [hb.2, List.take_length]
          exact join27 x0 hx (by omega)
        · rw [hl.2, List.take_add_one, getD_of_lt x0 i 0 hi]
          simp
        · obtain ⟨hl, _⟩ := hl
          rw [R27_7, if_pos (by simp; omega)]
          simp only [Int.toNat_natCast]
          exact ⟨by omega, by omega, pdec27 _, by omega, inR_up hm hi, hr⟩

def S27 : Am.Spec := { sig := sig27, pre := fun ⟨x0, _⟩ => P27 x0, res := fun ⟨x0, _⟩ => [⟨Ty.str, g27_0 x0⟩] }
theorem con27 : Contract Tryz.prog 27 S27 := contract_of Tryz.func27 hb27 (Nat.le_of_ble_eq_true (by kernel_rfl)) (fun ⟨x0, _⟩ h hwf K q =>
  (snd27 _).1 x0 _ (top27 x0 hwf.1.2) K q)

end
end Go.Proofs.YtbkkdnkbgnhodaaGreatDoor

/- Function 8 (impl.TestText): its runs between cut points. Written by a program of this repo (gen). -/
set_option linter.unusedVariables false
set_option linter.unusedSimpArgs false
set_option maxRecDepth 100000
namespace Go.Proofs.YtbkkdnkbgnhodaaGreatDoor
open Go Go.Am Go.Proofs
noncomputable section
def ext8 : Ext := [(21, S21), (26, S26), (27, S27)]
theorem call8_21 : Callable Tryz.prog 21 := ⟨Tryz.f21, Tryz.func21, by kernel_rfl, by kernel_rfl⟩
theorem call8_26 : Callable Tryz.prog 26 := ⟨Tryz.f26, Tryz.func26, by kernel_rfl, by kernel_rfl⟩
theorem call8_27 : Callable Tryz.prog 27 := ⟨Tryz.f27, Tryz.func27, by kernel_rfl, by kernel_rfl⟩
theorem ext8Ok : ExtOk Tryz.prog ext8 := ⟨⟨call8_21, con21⟩, ⟨call8_26, con26⟩, ⟨call8_27, con27⟩, trivial⟩

noncomputable def b8 : Code := bodyOf Tryz.f8
theorem hb8 : Tryz.f8.body = some b8 := by kernel_rfl
def sig8 : List AT := [AT.v (Ty.cons (Ty.int IntKind.i64) (Ty.cons (Ty.int IntKind.i64) (Ty.cons (Ty.int IntKind.i64) Ty.unit)))]
def tys8 : List Ty := [Ty.str]
def kds8 : List RK := []
def oks8 : List AT := owns sig8
def P8 (x0 : Int × Int × Int × Unit) : Prop := (if (!g21_0 x0) = true then True else ((P26 (Prod.fst x0)) ∧ ((ByteArray.size (g26_0 (Prod.fst x0)) + 1 ≤ 9223372036854775807) ∧ ((ByteArray.size (g26_0 (Prod.fst x0) ++ ByteArray.mk #[32]) + ByteArray.size (g27_0 [Prod.fst (Prod.snd x0), Prod.fst (Prod.snd (Prod.snd x0))]) ≤ 9223372036854775807) ∧ True))))
def g8_0 (x0 : Int × Int × Int × Unit) : ByteArray := (if (!g21_0 x0) = true then ByteArray.mk #[] else g26_0 (Prod.fst x0) ++ ByteArray.mk #[32] ++ g27_0 [Prod.fst (Prod.snd x0), Prod.fst (Prod.snd (Prod.snd x0))])
theorem at8 (x0 : Int × Int × Int × Unit) (h : P8 x0) (K : Ctx) (q : Nat → Value) : AtV Tryz.prog 8 (PostR kds8 oks8 [⟨Ty.str, g8_0 x0⟩] [] [] q K) 17 K q [] [.code b8] (entE 0 0 sig8 (x0, ())) (entL sig8 (x0, ())) := by
  unfold P8 at h
  unfold g8_0
  by_cases b0 : (!g21_0 x0) = true
  · try simp only [if_pos b0] at h ⊢
    exact AtV.ret Tryz.func8 tabOk ext8Ok mixed false [] tys8 [true] (a1 trivial (a1 b0 trivial)) (by kernel_rfl)
  · try simp only [if_neg b0] at h ⊢
    replace b0 := Bool.eq_false_iff.2 b0
    obtain ⟨s0, h⟩ := h
    obtain ⟨s1, h⟩ := h
    obtain ⟨s2, h⟩ := h
    exact AtV.ret Tryz.func8 tabOk ext8Ok mixed false [] tys8 [false] (a1 trivial (a1 b0 (a1 s0 (a1 s1 (a1 trivial (a1 s2 trivial)))))) (by kernel_rfl)

def S8 : Am.Spec := { sig := sig8, pre := fun ⟨x0, _⟩ => P8 x0, res := fun ⟨x0, _⟩ => [⟨Ty.str, g8_0 x0⟩], kds := kds8 }
theorem con8 : Contract Tryz.prog 8 S8 := contract_of Tryz.func8 hb8 (Nat.le_of_ble_eq_true (by kernel_rfl)) (fun ⟨x0, _⟩ h _ K q => at8 x0 h K q)


end
end Go.Proofs.YtbkkdnkbgnhodaaGreatDoor

/- Function 23 (strings.Cut): its contract, off what is known of the library. -/
set_option linter.unusedVariables false
set_option linter.unusedSimpArgs false
set_option maxRecDepth 100000
namespace Go.Proofs.YtbkkdnkbgnhodaaGreatDoor
open Go Go.Am Go.Proofs

def sig23 : List AT := [AT.v Ty.str, AT.v Ty.str]
def g23_0 (x0 x1 : ByteArray) : ByteArray := ⟨(Lib.cut x0.data.toList x1.data.toList).1.toArray⟩
def g23_1 (x0 x1 : ByteArray) : ByteArray := ⟨(Lib.cut x0.data.toList x1.data.toList).2.1.toArray⟩
def g23_2 (x0 x1 : ByteArray) : Bool := (Lib.cut x0.data.toList x1.data.toList).2.2
def P23 (x0 x1 : ByteArray) : Prop := x0.size < 4294967281
def S23 : Am.Spec := { sig := sig23, pre := fun ⟨x0, x1, _⟩ => P23 x0 x1, res := fun ⟨x0, x1, _⟩ => [⟨Ty.str, g23_0 x0 x1⟩, ⟨Ty.str, g23_1 x0 x1⟩, ⟨Ty.bool, g23_2 x0 x1⟩] }
theorem cutLen23 (s sep : List UInt8) : (Lib.cut s sep).1.length ≤ s.length ∧ (Lib.cut s sep).2.1.length ≤ s.length := by
  unfold Lib.cut
  split
  · exact ⟨by simp; omega, by simp⟩
  · exact ⟨Nat.le_refl _, Nat.zero_le _⟩
theorem con23 : Contract Tryz.prog 23 S23 := contract_flat rfl fun w ⟨x0, x1, _⟩ vs bss hg hp hw ha => by
  obtain ⟨v0, s0, _, _, rfl, _, ⟨_, rfl, _⟩, v1, s1, _, _, rfl, _, ⟨_, rfl, _⟩, rfl, _⟩ := ha
  have hp : x0.size < 4294967281 := hp
  obtain ⟨l1, l2⟩ := cutLen23 x0.data.toList x1.data.toList
  have e : x0.data.toList.length = x0.size := rfl
  refine ⟨fun d hd => ?_, ?_⟩
  · simp only [S23, List.mem_cons, List.mem_nil_iff, or_false] at hd
    rcases hd with rfl | rfl | rfl
    · refine ⟨rfl, ?_⟩
      show (List.toArray _).size ≤ maxLen
      rw [List.size_toArray]; unfold maxLen; omega
    · refine ⟨rfl, ?_⟩
      show (List.toArray _).size ≤ maxLen
      rw [List.size_toArray]; unfold maxLen; omega
    · exact ⟨rfl, trivial⟩
  · obtain ⟨m, hm⟩ := maxLenG hg
    refine (Tryz.strings_Cut x0 x1 m w hp hm).mono ?_
    rintro e w' ⟨rfl, n, rfl⟩
    exact ⟨rfl, ⟨rfl, rfl, rfl, Nat.le_refl _, fun _ _ _ => rfl⟩⟩

end Go.Proofs.YtbkkdnkbgnhodaaGreatDoor

/- Function 37 (strings.Split): its contract, off what is known of the library. -/
set_option linter.unusedVariables false
set_option linter.unusedSimpArgs false
set_option maxRecDepth 100000
namespace Go.Proofs.YtbkkdnkbgnhodaaGreatDoor
open Go Go.Am Go.Proofs

def sig37 : List AT := [AT.v Ty.str, AT.v Ty.str]
def g37_0 (x0 x1 : ByteArray) : List ByteArray := Lib.splitB x1 0 (Lib.countB x0 x1) x0
def P37 (x0 x1 : ByteArray) : Prop := x0.size < 4294967281 ∧ 1 ≤ x1.size
def S37 : Am.Spec := { sig := sig37, pre := fun ⟨x0, x1, _⟩ => P37 x0 x1, res := fun ⟨x0, x1, _⟩ => [⟨Ty.sl Ty.str, g37_0 x0 x1⟩] }

theorem con37 : Contract Tryz.prog 37 S37 := by
  refine Contract0.up rfl rfl ?_
  rintro w ⟨x0, x1, u⟩ vs bss hgo hp ⟨v0, s0, b0, bs0, rfl, rfl, ⟨rfl, rfl, _⟩, v1, s1, b1, bs1, rfl, rfl, ⟨rfl, rfl, _⟩, rfl, rfl⟩ hn
  obtain ⟨hs, h1⟩ : x0.size < 4294967281 ∧ 1 ≤ x1.size := hp
  obtain ⟨m, hm⟩ := maxLenG hgo.inv
  refine (Tryz.strings_Split x0 x1 m w hs hm h1).mono ?_
  rintro e w' ⟨rfl, rfl⟩
  have hlen : (g37_0 x0 x1).length = Lib.countB x0 x1 + 1 := Lib.splitB_all x1 h1 0 _ _ rfl
  have hle := Lib.countB_le x1 h1 x0.size x0 (Nat.le_refl _)
  have hparts : ∀ y ∈ g37_0 x0 x1, y.size ≤ maxLen := fun y hy => by
    have := splitB_part x1 0 _ _ y hy
    unfold maxLen; omega
  have e1 : ∀ xs : List ByteArray, fcs .str xs = xs.map Value.string := by
    intro xs
    induction xs with
    | nil => rfl
    | cons a r ih => unfold fcs at ih ⊢; rw [List.map_cons, List.flatten_cons, ih]; rfl
  have ho : OwnC (w.alloc (.cells ((g37_0 x0 x1).map Value.string).toArray 9)) (.sl .str) (g37_0 x0 x1) [.slice (some ⟨w.heap.size, 0, none⟩) (Lib.countB x0 x1 + 1) (Lib.countB x0 x1 + 1)] [w.heap.size] :=
    own_flat_mk rfl hparts hlen.symm (Nat.le_of_eq hlen) (by unfold maxLen; omega) (by rw [List.size_toArray, List.length_map, hlen]; simp [Ty.size]) (heap_new w _) (freeS_zero _ _) (fun j u hj => by
      rw [e1] at hj
      rw [Nat.zero_add, ← Array.getElem?_toList]
      exact hj)
  refine ⟨[_], [], [[w.heap.size]], rfl, (Kept.refl _ _).alloc _, ⟨_, _, _, _, _, rfl, rfl, ho, rfl, rfl, rfl⟩, ⟨rfl, rfl⟩, by simp, fun b hb hg => ?_⟩
  simp at hb
  have := hg.1
  omega

end Go.Proofs.YtbkkdnkbgnhodaaGreatDoor

/- Function 39 (impl.number): its runs between cut points. Written by a program of this repo (gen). -/
set_option linter.unusedVariables false
set_option linter.unusedSimpArgs false
set_option maxRecDepth 100000
namespace Go.Proofs.YtbkkdnkbgnhodaaGreatDoor
open Go Go.Am Go.Proofs
noncomputable section
def ext39 : Ext := []
theorem ext39Ok : ExtOk Tryz.prog ext39 := trivial

noncomputable def b39 : Code := bodyOf Tryz.f39
theorem hb39 : Tryz.f39.body = some b39 := by kernel_rfl
def sig39 : List AT := [AT.v (Ty.str)]
def tys39 : List Ty := [Ty.int IntKind.i64]
def kds39 : List RK := []
def oks39 : List AT := owns sig39
def E39_5 (v3 : Int) (v17 : Int) (x0 : ByteArray) : Env := [(3, PV.a (Atom.val (Value.int IntKind.i64 v3))), (15, PV.a (Atom.osl 0 Option.none)), (16, PV.a (Atom.val (Value.int IntKind.i64 (↑(List.length (bytesOf x0)) : Int)))), (17, PV.a (Atom.val (Value.int IntKind.i64 v17)))]
def L39_5 (v3 : Int) (v17 : Int) (x0 : ByteArray) : Heap := [Option.some (Arr.mk (Ty.int IntKind.u8) (bytesOf x0) Bool.false Option.none Option.none)]
mutual
def R39 : Nat → ByteArray → List Dyn → Prop
  | 0, _, _ => False
  | n + 1, x0, ds => (if (Decidable.decide ((↑(ByteArray.size x0) : Int) < 1)) = true then (ds = [Dyn.mk (Ty.int IntKind.i64) (-1)]) else (if (Decidable.decide ((↑(ByteArray.size x0) : Int) > 12)) = true then (ds = [Dyn.mk (Ty.int IntKind.i64) (-1)]) else (R39_5 n (0) (0) (x0) ds)))
def R39_5 : Nat → Int → Int → ByteArray → List Dyn → Prop
  | 0, _, _, _, _ => False
  | n + 1, v3, v17, x0, ds => (if (Decidable.decide (v17 < (↑(List.length (bytesOf x0)) : Int))) = true then ((0 ≤ v17) ∧ (v17 < (↑(List.length (bytesOf x0)) : Int)) ∧ (if (Decidable.decide (List.getD (bytesOf x0) (Int.toNat v17) 0 < 48)) = true then (ds = [Dyn.mk (Ty.int IntKind.i64) (-1)]) else (if (Decidable.decide (List.getD (bytesOf x0) (Int.toNat v17) 0 > 57)) = true then (ds = [Dyn.mk (Ty.int IntKind.i64) (-1)]) else ((InR IntKind.i64 (10 * v3)) ∧ ((InR IntKind.u8 (List.getD (bytesOf x0) (Int.toNat v17) 0 - 48)) ∧ ((InR IntKind.i64 (List.getD (bytesOf x0) (Int.toNat v17) 0 - 48)) ∧ ((InR IntKind.i64 (10 * v3 + (List.getD (bytesOf x0) (Int.toNat v17) 0 - 48))) ∧ ((InR IntKind.i64 (v17 + 1)) ∧ (R39_5 n (10 * v3 + (List.getD (bytesOf x0) (Int.toNat v17) 0 - 48)) (v17 + 1) (x0) ds))))))))) else (ds = [Dyn.mk (Ty.int IntKind.i64) v3]))
end
theorem snd39 : ∀ n, (∀ (x0 : ByteArray) ds, R39 n x0 ds → ∀ K q, AtV Tryz.prog 39 (PostR kds39 oks39 ds [] [] q K) 35 K q [] [.code b39] (entE 0 0 sig39 (x0, ())) (entL sig39 (x0, ()))) ∧ (∀ (v3 : Int) (v17 : Int) (x0 : ByteArray) ds, R39_5 n v3 v17 x0 ds → ∀ K q, AtV Tryz.prog 39 (PostR kds39 oks39 ds [] [] q K) 35 K q [] (cutAt b39 5) (E39_5 v3 v17 x0) (L39_5 v3 v17 x0)) := by
  intro n
  induction n with
  | zero => exact ⟨fun _ _ h => by simp only [R39] at h, fun _ _ _ _ h => by simp only [R39_5] at h⟩
  | succ n ih =>
  obtain ⟨ih, ih5⟩ := ih
  refine ⟨?_, ?_⟩
  · intro x0 ds h K q
    rw [R39] at h
    by_cases b0 : (Decidable.decide ((↑(ByteArray.size x0) : Int) < 1)) = true
    · rw [if_pos b0] at h
      subst h
      exact AtV.ret Tryz.func39 tabOk ext39Ok mixed false [] tys39 [true, true] (a1 b0 (a1 (rfl : Bool.true = Bool.true) trivial)) (by kernel_rfl)
    · rw [if_neg b0] at h
      replace b0 := Bool.eq_false_iff.2 b0
      by_cases b1 : (Decidable.decide ((↑(ByteArray.size x0) : Int) > 12)) = true
      · rw [if_pos b1] at h
        subst h
        exact AtV.ret Tryz.func39 tabOk ext39Ok mixed false [] tys39 [false, true] (a1 b0 (a1 b1 trivial)) (by kernel_rfl)
      · rw [if_neg b1] at h
        replace b1 := Bool.eq_false_iff.2 b1
        exact AtV.go tabOk ext39Ok mixed false [] [] [3, 15, 16, 17] [0] [false, false] (a1 b0 (a1 b1 trivial)) (ih5 _ _ _ _ h K q) (by kernel_rfl)

  · intro v3 v17 x0 ds h K q
    rw [R39_5] at h
    by_cases b0 : (Decidable.decide (v17 < (↑(List.length (bytesOf x0)) : Int))) = true
    · rw [if_pos b0] at h
      obtain ⟨s0, s1, h⟩ := h
      by_cases b1 : (Decidable.decide (List.getD (bytesOf x0) (Int.toNat v17) 0 < 48)) = true
      · rw [if_pos b1] at h
        subst h
        exact AtV.ret Tryz.func39 tabOk ext39Ok mixed false [] tys39 [true, true, true] (a1 b0 (a1 s0 (a1 s1 (a1 b1 (a1 (rfl : Bool.true = Bool.true) trivial))))) (by kernel_rfl)
      · rw [if_neg b1] at h
        replace b1 := Bool.eq_false_iff.2 b1
        by_cases b2 : (Decidable.decide (List.getD (bytesOf x0) (Int.toNat v17) 0 > 57)) = true
        · rw [if_pos b2] at h
          subst h
          exact AtV.ret Tryz.func39 tabOk ext39Ok mixed false [] tys39 [true, false, true] (a1 b0 (a1 s0 (a1 s1 (a1 b1 (a1 b2 trivial))))) (by kernel_rfl)
        · rw [if_neg b2] at h
          replace b2 := Bool.eq_false_iff.2 b2
          obtain ⟨s2, h⟩ := h
          obtain ⟨s3, h⟩ := h
          obtain ⟨s4, h⟩ := h
          obtain ⟨s5, h⟩ := h
          obtain ⟨s6, h⟩ := h
          exact AtV.go tabOk ext39Ok mixed false [] [] [3, 15, 16, 17] [0] [true, false, false] (a1 b0 (a1 s0 (a1 s1 (a1 b1 (a1 b2 (a1 s2 (a1 s3 (a1 s4 (a1 s5 (a1 s6 trivial)))))))))) (ih5 _ _ _ _ h K q) (by kernel_rfl)
    · rw [if_neg b0] at h
      replace b0 := Bool.eq_false_iff.2 b0
      subst h
      exact AtV.ret Tryz.func39 tabOk ext39Ok mixed false [] tys39 [false] (a1 b0 trivial) (by kernel_rfl)



def num39 : List UInt8 → Int → Int
  | [], n => n
  | b :: r, n => if decide (48 ≤ b.toNat) && decide (b.toNat ≤ 57) then num39 r (10 * n + ((b.toNat : Int) - 48)) else -1
def g39_0 (x0 : ByteArray) : Int := if x0.size < 1 ∨ 12 < x0.size then -1 else num39 x0.data.toList 0
def P39 (x0 : ByteArray) : Prop := True

theorem run39 (x0 : ByteArray) (hs : x0.size ≤ 12) : ∀ (k i m : Nat), i + k = x0.size → m < 10 ^ i →
    R39_5 (k + 1) (m : Int) (i : Int) x0 [⟨.int .i64, num39 (x0.data.toList.drop i) (m : Int)⟩] := by
  intro k
  have hll : x0.data.toList.length = x0.size := rfl
  have hbl : (bytesOf x0).length = x0.size := by unfold bytesOf; rw [List.length_map]; rfl
  induction k with
  | zero =>
    intro i m hi hm
    rw [R39_5, if_neg (by rw [hbl]; simp; omega), List.drop_of_length_le (by omega)]
    rfl
  | succ k ih =>
    intro i m hi hm
    have hlt : i < x0.data.toList.length := by rw [hll]; omega
    have hcons : x0.data.toList.drop i = x0.data.toList.getD i 0 :: x0.data.toList.drop (i + 1) := drop_get _ i 0 hlt
    have hbyte : (bytesOf x0).getD i 0 = ((x0.data.toList.getD i 0).toNat : Int) := by
      unfold bytesOf
      rw [List.getD_eq_getElem?_getD, List.getD_eq_getElem?_getD, List.getElem?_map, List.getElem?_eq_getElem hlt]
      rfl
    rw [R39_5, if_pos (by rw [hbl]; simp; omega), hcons]
    simp only [Int.toNat_natCast, hbyte, hbl]
    generalize x0.data.toList.getD i 0 = b at *
    refine ⟨by omega, by omega, ?_⟩
    unfold num39
    by_cases h1 : b.toNat < 48
    · have h1' : (b.toNat : Int) < 48 := by omega
      have h1'' : ¬ 48 ≤ b.toNat := by omega
      simp [h1', h1'']
    · have h1' : ¬ (b.toNat : Int) < 48 := by omega
      have h1'' : 48 ≤ b.toNat := by omega
      by_cases h2 : b.toNat > 57
      · have h2' : (b.toNat : Int) > 57 := by omega
        have h2'' : ¬ b.toNat ≤ 57 := by omega
        simp [h1', h2', h2'']
      · have h2' : ¬ (b.toNat : Int) > 57 := by omega
        have h2'' : b.toNat ≤ 57 := by omega
        have hp : 10 ^ i ≤ 10 ^ 11 := Nat.pow_le_pow_right (by decide) (by omega)
        have hm2 : m < 100000000000 := Nat.lt_of_lt_of_le hm hp
        simp only [h1', h1'', h2', h2'', decide_true, decide_false, Bool.and_self, Bool.false_eq_true, if_false, if_true]
        refine ⟨by rw [i64_iff]; omega, by rw [u8_iff]; omega, by rw [i64_iff]; omega, by rw [i64_iff]; omega, by rw [i64_iff]; omega, ?_⟩
        have e1 : 10 * (m : Int) + ((b.toNat : Int) - 48) = ((10 * m + (b.toNat - 48) : Nat) : Int) := by omega
        have e2 : (i : Int) + 1 = ((i + 1 : Nat) : Int) := by omega
        rw [e1, e2]
        exact ih (i + 1) (10 * m + (b.toNat - 48)) (by omega) (by rw [Nat.pow_succ]; omega)

theorem top39 (x0 : ByteArray) : R39 (x0.size + 1 + 1) x0 [⟨.int .i64, g39_0 x0⟩] := by
  rw [R39]
  unfold g39_0
  by_cases h1 : x0.size < 1
  · rw [if_pos (by simp; omega), if_pos (.inl h1)]
  · rw [if_neg (by simp; omega)]
    by_cases h2 : 12 < x0.size
    · rw [if_pos (by simp; omega), if_pos (.inr h2)]
    · rw [if_neg (by simp; omega), if_neg (by omega)]
      exact run39 x0 (by omega) x0.size 0 0 (by omega) (by decide)

def S39 : Am.Spec := { sig := sig39, pre := fun ⟨x0, _⟩ => P39 x0, res := fun ⟨x0, _⟩ => [⟨.int .i64, g39_0 x0⟩] }
theorem con39 : Contract Tryz.prog 39 S39 := contract_of Tryz.func39 hb39 (Nat.le_of_ble_eq_true (by kernel_rfl)) (fun ⟨x0, _⟩ h hwf K q =>
  (snd39 _).1 x0 _ (top39 x0) K q)

end
end Go.Proofs.YtbkkdnkbgnhodaaGreatDoor

/- Function 38 (impl.DayNumber): its runs between cut points. Written by a program of this repo (gen). -/
set_option linter.unusedVariables false
set_option linter.unusedSimpArgs false
set_option maxRecDepth 100000
namespace Go.Proofs.YtbkkdnkbgnhodaaGreatDoor
open Go Go.Am Go.Proofs
noncomputable section
def ext38 : Ext := [(30, S30), (53, S53), (54, S54)]
theorem call38_30 : Callable Tryz.prog 30 := ⟨Tryz.f30, Tryz.func30, by kernel_rfl, by kernel_rfl⟩
theorem call38_53 : Callable Tryz.prog 53 := ⟨Tryz.f53, Tryz.func53, by kernel_rfl, by kernel_rfl⟩
theorem call38_54 : Callable Tryz.prog 54 := ⟨Tryz.f54, Tryz.func54, by kernel_rfl, by kernel_rfl⟩
theorem ext38Ok : ExtOk Tryz.prog ext38 := ⟨⟨call38_30, con30⟩, ⟨call38_53, con53⟩, ⟨call38_54, con54⟩, trivial⟩

noncomputable def b38 : Code := bodyOf Tryz.f38
theorem hb38 : Tryz.f38.body = some b38 := by kernel_rfl
def sig38 : List AT := [AT.v (Ty.int IntKind.i64), AT.v (Ty.int IntKind.i64), AT.v (Ty.int IntKind.i64)]
def tys38 : List Ty := [Ty.int IntKind.i64, Ty.int IntKind.i64]
def kds38 : List RK := []
def oks38 : List AT := owns sig38
def P38 (x0 : Int) (x1 : Int) (x2 : Int) : Prop := (if (!g30_0 x0 2000 2099) = true then True else (if (!g30_0 x1 1 12) = true then True else ((P53 x0 x1) ∧ (if (!g30_0 x2 1 (g53_0 x0 x1)) = true then True else ((P54 x0 x1 x2) ∧ True)))))
def g38_0 (x0 : Int) (x1 : Int) (x2 : Int) : Int := (if (!g30_0 x0 2000 2099) = true then 0 else (if (!g30_0 x1 1 12) = true then 0 else (if (!g30_0 x2 1 (g53_0 x0 x1)) = true then 0 else g54_0 x0 x1 x2)))
def g38_1 (x0 : Int) (x1 : Int) (x2 : Int) : Int := (if (!g30_0 x0 2000 2099) = true then 2 else (if (!g30_0 x1 1 12) = true then 2 else (if (!g30_0 x2 1 (g53_0 x0 x1)) = true then 2 else 0)))
theorem at38 (x0 : Int) (x1 : Int) (x2 : Int) (h : P38 x0 x1 x2) (K : Ctx) (q : Nat → Value) : AtV Tryz.prog 38 (PostR kds38 oks38 [⟨Ty.int IntKind.i64, g38_0 x0 x1 x2⟩, ⟨Ty.int IntKind.i64, g38_1 x0 x1 x2⟩] [] [] q K) 28 K q [] [.code b38] (entE 0 0 sig38 (x0, x1, x2, ())) (entL sig38 (x0, x1, x2, ())) := by
  unfold P38 at h
  unfold g38_0 g38_1
  by_cases b0 : (!g30_0 x0 2000 2099) = true
  · try simp only [if_pos b0] at h ⊢
    exact AtV.ret Tryz.func38 tabOk ext38Ok mixed false [] tys38 [true, true, true] (a1 trivial (a1 b0 (a1 (rfl : Bool.true = Bool.true) (a1 (rfl : Bool.true = Bool.true) trivial)))) (by kernel_rfl)
  · try simp only [if_neg b0] at h ⊢
    replace b0 := Bool.eq_false_iff.2 b0
    by_cases b1 : (!g30_0 x1 1 12) = true
    · try simp only [if_pos b1] at h ⊢
      exact AtV.ret Tryz.func38 tabOk ext38Ok mixed false [] tys38 [false, true, true] (a1 trivial (a1 b0 (a1 trivial (a1 b1 (a1 (rfl : Bool.true = Bool.true) trivial))))) (by kernel_rfl)
    · try simp only [if_neg b1] at h ⊢
      replace b1 := Bool.eq_false_iff.2 b1
      obtain ⟨s0, h⟩ := h
      by_cases b2 : (!g30_0 x2 1 (g53_0 x0 x1)) = true
      · try simp only [if_pos b2] at h ⊢
        exact AtV.ret Tryz.func38 tabOk ext38Ok mixed false [] tys38 [false, false, true] (a1 trivial (a1 b0 (a1 trivial (a1 b1 (a1 s0 (a1 trivial (a1 b2 trivial))))))) (by kernel_rfl)
      · try simp only [if_neg b2] at h ⊢
        replace b2 := Bool.eq_false_iff.2 b2
        obtain ⟨s1, h⟩ := h
        exact AtV.ret Tryz.func38 tabOk ext38Ok mixed false [] tys38 [false, false, false] (a1 trivial (a1 b0 (a1 trivial (a1 b1 (a1 s0 (a1 trivial (a1 b2 (a1 s1 trivial)))))))) (by kernel_rfl)

def S38 : Am.Spec := { sig := sig38, pre := fun ⟨x0, x1, x2, _⟩ => P38 x0 x1 x2, res := fun ⟨x0, x1, x2, _⟩ => [⟨Ty.int IntKind.i64, g38_0 x0 x1 x2⟩, ⟨Ty.int IntKind.i64, g38_1 x0 x1 x2⟩], kds := kds38 }
theorem con38 : Contract Tryz.prog 38 S38 := contract_of Tryz.func38 hb38 (Nat.le_of_ble_eq_true (by kernel_rfl)) (fun ⟨x0, x1, x2, _⟩ h _ K q => at38 x0 x1 x2 h K q)


end
end Go.Proofs.YtbkkdnkbgnhodaaGreatDoor

/- Function 24 (impl.ReadDate): its runs between cut points. Written by a program of this repo (gen). -/
set_option linter.unusedVariables false
set_option linter.unusedSimpArgs false
set_option maxRecDepth 100000
namespace Go.Proofs.YtbkkdnkbgnhodaaGreatDoor
open Go Go.Am Go.Proofs
noncomputable section
def ext24 : Ext := [(37, S37), (39, S39), (38, S38), (26, S26)]
theorem call24_37 : Callable Tryz.prog 37 := ⟨Tryz.f37, Tryz.func37, by kernel_rfl, by kernel_rfl⟩
theorem call24_39 : Callable Tryz.prog 39 := ⟨Tryz.f39, Tryz.func39, by kernel_rfl, by kernel_rfl⟩
theorem call24_38 : Callable Tryz.prog 38 := ⟨Tryz.f38, Tryz.func38, by kernel_rfl, by kernel_rfl⟩
theorem call24_26 : Callable Tryz.prog 26 := ⟨Tryz.f26, Tryz.func26, by kernel_rfl, by kernel_rfl⟩
theorem ext24Ok : ExtOk Tryz.prog ext24 := ⟨⟨call24_37, con37⟩, ⟨call24_39, con39⟩, ⟨call24_38, con38⟩, ⟨call24_26, con26⟩, trivial⟩

noncomputable def b24 : Code := bodyOf Tryz.f24
theorem hb24 : Tryz.f24.body = some b24 := by kernel_rfl
def sig24 : List AT := [AT.v (Ty.str)]
def tys24 : List Ty := [Ty.int IntKind.i64, Ty.bool]
def kds24 : List RK := []
def oks24 : List AT := owns sig24
def P24 (x0 : ByteArray) : Prop := ((P37 x0 (ByteArray.mk #[45])) ∧ (if ((↑(List.length (g37_0 x0 (ByteArray.mk #[45]))) : Int) != 3) = true then True else ((0 < (↑(List.length (g37_0 x0 (ByteArray.mk #[45]))) : Int)) ∧ ((1 < (↑(List.length (g37_0 x0 (ByteArray.mk #[45]))) : Int)) ∧ ((2 < (↑(List.length (g37_0 x0 (ByteArray.mk #[45]))) : Int)) ∧ ((P38 (g39_0 (List.getD (g37_0 x0 (ByteArray.mk #[45])) 0 ByteArray.empty)) (g39_0 (List.getD (g37_0 x0 (ByteArray.mk #[45])) 1 ByteArray.empty)) (g39_0 (List.getD (g37_0 x0 (ByteArray.mk #[45])) 2 ByteArray.empty))) ∧ (if (g38_1 (g39_0 (List.getD (g37_0 x0 (ByteArray.mk #[45])) 0 ByteArray.empty)) (g39_0 (List.getD (g37_0 x0 (ByteArray.mk #[45])) 1 ByteArray.empty)) (g39_0 (List.getD (g37_0 x0 (ByteArray.mk #[45])) 2 ByteArray.empty)) != 0) = true then True else ((P26 (g38_0 (g39_0 (List.getD (g37_0 x0 (ByteArray.mk #[45])) 0 ByteArray.empty)) (g39_0 (List.getD (g37_0 x0 (ByteArray.mk #[45])) 1 ByteArray.empty)) (g39_0 (List.getD (g37_0 x0 (ByteArray.mk #[45])) 2 ByteArray.empty)))) ∧ True))))))))
def g24_0 (x0 : ByteArray) : Int := (if ((↑(List.length (g37_0 x0 (ByteArray.mk #[45]))) : Int) != 3) = true then 0 else (if (g38_1 (g39_0 (List.getD (g37_0 x0 (ByteArray.mk #[45])) 0 ByteArray.empty)) (g39_0 (List.getD (g37_0 x0 (ByteArray.mk #[45])) 1 ByteArray.empty)) (g39_0 (List.getD (g37_0 x0 (ByteArray.mk #[45])) 2 ByteArray.empty)) != 0) = true then 0 else (if (!ByteArray.toList (g26_0 (g38_0 (g39_0 (List.getD (g37_0 x0 (ByteArray.mk #[45])) 0 ByteArray.empty)) (g39_0 (List.getD (g37_0 x0 (ByteArray.mk #[45])) 1 ByteArray.empty)) (g39_0 (List.getD (g37_0 x0 (ByteArray.mk #[45])) 2 ByteArray.empty)))) == ByteArray.toList x0) = true then 0 else g38_0 (g39_0 (List.getD (g37_0 x0 (ByteArray.mk #[45])) 0 ByteArray.empty)) (g39_0 (List.getD (g37_0 x0 (ByteArray.mk #[45])) 1 ByteArray.empty)) (g39_0 (List.getD (g37_0 x0 (ByteArray.mk #[45])) 2 ByteArray.empty)))))
def g24_1 (x0 : ByteArray) : Bool := (if ((↑(List.length (g37_0 x0 (ByteArray.mk #[45]))) : Int) != 3) = true then Bool.false else (if (g38_1 (g39_0 (List.getD (g37_0 x0 (ByteArray.mk #[45])) 0 ByteArray.empty)) (g39_0 (List.getD (g37_0 x0 (ByteArray.mk #[45])) 1 ByteArray.empty)) (g39_0 (List.getD (g37_0 x0 (ByteArray.mk #[45])) 2 ByteArray.empty)) != 0) = true then Bool.false else (if (!ByteArray.toList (g26_0 (g38_0 (g39_0 (List.getD (g37_0 x0 (ByteArray.mk #[45])) 0 ByteArray.empty)) (g39_0 (List.getD (g37_0 x0 (ByteArray.mk #[45])) 1 ByteArray.empty)) (g39_0 (List.getD (g37_0 x0 (ByteArray.mk #[45])) 2 ByteArray.empty)))) == ByteArray.toList x0) = true then Bool.false else Bool.true)))
theorem at24 (x0 : ByteArray) (h : P24 x0) (K : Ctx) (q : Nat → Value) : AtV Tryz.prog 24 (PostR kds24 oks24 [⟨Ty.int IntKind.i64, g24_0 x0⟩, ⟨Ty.bool, g24_1 x0⟩] [] [] q K) 37 K q [] [.code b24] (entE 0 0 sig24 (x0, ())) (entL sig24 (x0, ())) := by
  unfold P24 at h
  unfold g24_0 g24_1
  obtain ⟨s0, h⟩ := h
  by_cases b0 : ((↑(List.length (g37_0 x0 (ByteArray.mk #[45]))) : Int) != 3) = true
  · try simp only [if_pos b0] at h ⊢
    exact AtV.ret Tryz.func24 tabOk ext24Ok mixed false [] tys24 [true] (a1 s0 (a1 b0 trivial)) (by kernel_rfl)
  · try simp only [if_neg b0] at h ⊢
    replace b0 := Bool.eq_false_iff.2 b0
    obtain ⟨s1, h⟩ := h
    obtain ⟨s2, h⟩ := h
    obtain ⟨s3, h⟩ := h
    obtain ⟨s4, h⟩ := h
    by_cases b1 : (g38_1 (g39_0 (List.getD (g37_0 x0 (ByteArray.mk #[45])) 0 ByteArray.empty)) (g39_0 (List.getD (g37_0 x0 (ByteArray.mk #[45])) 1 ByteArray.empty)) (g39_0 (List.getD (g37_0 x0 (ByteArray.mk #[45])) 2 ByteArray.empty)) != 0) = true
    · try simp only [if_pos b1] at h ⊢
      exact AtV.ret Tryz.func24 tabOk ext24Ok mixed false [] tys24 [false, true, true] (a1 s0 (a1 b0 (a1 ((by decide) : (0 : Int) ≤ (0 : Int)) (a1 s1 (a1 trivial (a1 ((by decide) : (0 : Int) ≤ (1 : Int)) (a1 s2 (a1 trivial (a1 ((by decide) : (0 : Int) ≤ (2 : Int)) (a1 s3 (a1 trivial (a1 s4 (a1 b1 (a1 (rfl : Bool.true = Bool.true) trivial)))))))))))))) (by kernel_rfl)
    · try simp only [if_neg b1] at h ⊢
      replace b1 := Bool.eq_false_iff.2 b1
      obtain ⟨s5, h⟩ := h
      by_cases b2 : (!ByteArray.toList (g26_0 (g38_0 (g39_0 (List.getD (g37_0 x0 (ByteArray.mk #[45])) 0 ByteArray.empty)) (g39_0 (List.getD (g37_0 x0 (ByteArray.mk #[45])) 1 ByteArray.empty)) (g39_0 (List.getD (g37_0 x0 (ByteArray.mk #[45])) 2 ByteArray.empty)))) == ByteArray.toList x0) = true
      · try simp only [if_pos b2] at h ⊢
        exact AtV.ret Tryz.func24 tabOk ext24Ok mixed false [] tys24 [false, false, true] (a1 s0 (a1 b0 (a1 ((by decide) : (0 : Int) ≤ (0 : Int)) (a1 s1 (a1 trivial (a1 ((by decide) : (0 : Int) ≤ (1 : Int)) (a1 s2 (a1 trivial (a1 ((by decide) : (0 : Int) ≤ (2 : Int)) (a1 s3 (a1 trivial (a1 s4 (a1 b1 (a1 s5 (a1 b2 trivial))))))))))))))) (by kernel_rfl)
      · try simp only [if_neg b2] at h ⊢
        replace b2 := Bool.eq_false_iff.2 b2
        exact AtV.ret Tryz.func24 tabOk ext24Ok mixed false [] tys24 [false, false, false] (a1 s0 (a1 b0 (a1 ((by decide) : (0 : Int) ≤ (0 : Int)) (a1 s1 (a1 trivial (a1 ((by decide) : (0 : Int) ≤ (1 : Int)) (a1 s2 (a1 trivial (a1 ((by decide) : (0 : Int) ≤ (2 : Int)) (a1 s3 (a1 trivial (a1 s4 (a1 b1 (a1 s5 (a1 b2 trivial))))))))))))))) (by kernel_rfl)

def S24 : Am.Spec := { sig := sig24, pre := fun ⟨x0, _⟩ => P24 x0, res := fun ⟨x0, _⟩ => [⟨Ty.int IntKind.i64, g24_0 x0⟩, ⟨Ty.bool, g24_1 x0⟩], kds := kds24 }
theorem con24 : Contract Tryz.prog 24 S24 := contract_of Tryz.func24 hb24 (Nat.le_of_ble_eq_true (by kernel_rfl)) (fun ⟨x0, _⟩ h _ K q => at24 x0 h K q)


end
end Go.Proofs.YtbkkdnkbgnhodaaGreatDoor

/- Function 71 (strconv.ParseInt): its contract, off what is known of the library. -/
set_option linter.unusedVariables false
set_option linter.unusedSimpArgs false
set_option maxRecDepth 100000
namespace Go.Proofs.YtbkkdnkbgnhodaaGreatDoor
open Go Go.Am Go.Proofs

theorem parseOk71 (s : ByteArray) (hs : s.size ≤ 281474976710656) (v : Int) (h : Lib.parseIntB 64 s.data.toList = .ok v) (W : World) :
    Calls Tryz.prog 71 #[.string s, .int .i64 10, .int .i64 64] W fun e w' => e = .returned (.tuple #[.int .i64 v, .nilIface]) ∧ Go.RowKit.Below W.heap.size W w' := by
  refine (Tryz.strconv_ParseInt_10_at64_ok s (by omega) v h W).mono ?_
  rintro e w' ⟨rfl, hw⟩
  refine ⟨rfl, ?_⟩
  rcases hw with rfl | ⟨t, rfl⟩
  · exact Go.RowKit.Below.refl _ _
  · exact Lib.bytesWorld_below _ _ _

theorem parseNo71 (s : ByteArray) (hs : s.size ≤ 281474976710656) (h : ∀ v, Lib.parseIntB 64 s.data.toList ≠ .ok v) (W : World) (hg : GInv W) :
    Calls Tryz.prog 71 #[.string s, .int .i64 10, .int .i64 64] W fun e w' => ∃ n t N, e = .returned (.tuple #[.int .i64 n, .iface t (.pointer (some ⟨N, 0, none⟩))]) ∧ Go.RowKit.Below W.heap.size W w' := by
  obtain ⟨es, hes, hes2⟩ := errSyntaxG hg
  obtain ⟨er, her, her2⟩ := errRangeG hg
  rcases hp : Lib.parseIntB 64 s.data.toList with v | _ | _
  · exact absurd hp (h v)
  · refine (Tryz.strconv_ParseInt_10_at64_syntax s hs hp es W hes hes2).mono ?_
    rintro e w' ⟨N, rfl, _, _, hb⟩
    exact ⟨_, _, _, rfl, hb⟩
  · refine (Tryz.strconv_ParseInt_10_at64_range s hs hp er W her her2).mono ?_
    rintro e w' ⟨N, rfl, _, _, hb⟩
    exact ⟨_, _, _, rfl, hb⟩

end Go.Proofs.YtbkkdnkbgnhodaaGreatDoor

/- Function 70 (strings.TrimPrefix): its contract, off what is known of the library. -/
set_option linter.unusedVariables false
set_option linter.unusedSimpArgs false
set_option maxRecDepth 100000
namespace Go.Proofs.YtbkkdnkbgnhodaaGreatDoor
open Go Go.Am Go.Proofs
def g70_0 (x0 x1 : ByteArray) : ByteArray := ⟨(Lib.trimPrefix x0.data.toList x1.data.toList).toArray⟩
end Go.Proofs.YtbkkdnkbgnhodaaGreatDoor

/- Function 55 (impl.ReadDecimal): its contract; by the kit's walk, the callees by their contracts. -/
set_option linter.unusedVariables false
set_option linter.unusedSimpArgs false
set_option maxRecDepth 100000
namespace Go.Proofs.YtbkkdnkbgnhodaaGreatDoor
open Go Go.Am Go.Proofs Go.RowKit

theorem dec55 (W : World) (n : Int) (hi : InR .i64 n) (hgo : GOk W []) :
    Calls Tryz.prog 42 #[.int .i64 n] W fun e w' => e = .returned (.string (numB n)) ∧ Below W.heap.size W w' := by
  have h := con42.down rfl W (n, ()) [.int .i64 n] [[]] hgo ⟨rfl, trivial⟩ ⟨_, [], [], [], rfl, rfl, ⟨rfl, rfl, hi⟩, rfl, rfl⟩ (by simp)
  refine h.mono ?_
  rintro e w' ⟨rs, ubs, rbs, rfl, hk, ⟨u, s, b1, bs1, cs, rfl, rfl, ho, hv, rfl, rfl⟩, _⟩
  obtain ⟨ho, _⟩ := ho
  have hv : cs = [u] := hv
  rw [ho] at hv
  cases hv
  exact ⟨rfl, hk.below⟩

theorem trim55 (W : World) (s d : ByteArray) (h : g70_0 s ⟨#[45]⟩ = d) : Calls Tryz.prog 70 #[.string s, .string ⟨#[45]⟩] W fun e w' => e = .returned (.string d) ∧ w' = W := by
  rw [← h]
  exact Tryz.strings_TrimPrefix s ⟨#[45]⟩ W

theorem gok55 {w W : World} (h : GOk w []) (hb : Below w.heap.size w W) : GOk W [] where
  inv := h.inv.keep fun b _ hs => hb.5 b hs
  size := Nat.le_trans h.size hb.4
  out := h.out

theorem range55 {l : List UInt8} {v : Int} (h : Lib.parseIntB 64 l = .ok v) : InR .i64 v := by
  unfold Lib.parseIntB at h
  split at h
  · cases h
  · simp only at h
    split at h
    · cases h
    · cases h
    · split at h
      · cases h
      · split at h
        · cases h
        · rename_i u _ h1 h2
          have e1 : (2 : Nat) ^ (64 - 1) = 9223372036854775808 := by decide
          rw [e1] at h1 h2
          rw [i64_iff]
          split at h
          · cases h; rename_i hn; have : ¬ 9223372036854775808 < u := fun hh => h2 ⟨hn, hh⟩; omega
          · cases h; rename_i hn; have : ¬ 9223372036854775808 ≤ u := fun hh => h1 ⟨hn, hh⟩; omega

def long55 (s : ByteArray) : Bool := decide ((g70_0 s ⟨#[45]⟩).size < 1) || decide (18 < (g70_0 s ⟨#[45]⟩).size)
def rd55 (s : ByteArray) : Option Int := if long55 s = true then none else match Lib.parseIntB 64 s.data.toList with
  | .ok v => if numB v = s then some v else none
  | _ => none

set_option maxHeartbeats 4000000 in
theorem walkShort55 (w : World) (s d : ByteArray) (HD : Aside (g70_0 s ⟨#[45]⟩ = d)) (h1 : (d.size : Int) < 1) :
    Calls Tryz.prog 55 #[.string s] w fun e w' => e = .returned (.tuple #[.int .i64 0, .bool false]) ∧ Below w.heap.size w w' := by
  have mixed := mixed
  go_enter Tryz.func55, Tryz.ntmps55
  go_wp2_with (go_at_call 70; refine (trim55 _ s d HD.out).mono ?_; rintro e w1 ⟨rfl, rfl⟩)
  go_ret2
  exact ⟨rfl, Below.refl _ _⟩

set_option maxHeartbeats 4000000 in
theorem walkLong55 (w : World) (s d : ByteArray) (HD : Aside (g70_0 s ⟨#[45]⟩ = d)) (h1 : ¬ (d.size : Int) < 1) (h2 : (d.size : Int) > 18) :
    Calls Tryz.prog 55 #[.string s] w fun e w' => e = .returned (.tuple #[.int .i64 0, .bool false]) ∧ Below w.heap.size w w' := by
  have mixed := mixed
  go_enter Tryz.func55, Tryz.ntmps55
  go_wp2_with (go_at_call 70; refine (trim55 _ s d HD.out).mono ?_; rintro e w1 ⟨rfl, rfl⟩)
  go_ret2
  exact ⟨rfl, Below.refl _ _⟩

set_option maxHeartbeats 4000000 in
theorem walkEq55 (w : World) (s d : ByteArray) (hs : s.size ≤ 281474976710656) (hgo : GOk w []) (HD : Aside (g70_0 s ⟨#[45]⟩ = d)) (h1 : ¬ (d.size : Int) < 1) (h2 : ¬ (d.size : Int) > 18) (v : Int) (HP : Aside (Lib.parseIntB 64 s.data.toList = .ok v)) (HE : Aside (numB v = s)) :
    Calls Tryz.prog 55 #[.string s] w fun e w' => e = .returned (.tuple #[.int .i64 v, .bool true]) ∧ Below w.heap.size w w' := by
  have mixed := mixed
  go_enter Tryz.func55, Tryz.ntmps55
  go_wp2_with (go_at_call 70; refine (trim55 _ s d HD.out).mono ?_; rintro e w1 ⟨rfl, rfl⟩)
  have HR : Aside (InR .i64 v) := range55 HP.out
  go_wp2_with (go_at_call 71; refine (parseOk71 s hs v HP.out _).mono ?_)
  rintro e w2 ⟨rfl, b2⟩
  go_wp2_with (go_at_call 42; refine (dec55 _ v HR.out (gok55 hgo b2)).mono ?_)
  rintro e w3 ⟨rfl, b3⟩
  rw [HE.out]
  go_wp2
  go_ret2
  exact ⟨rfl, b2.trans (b3.mono b2.size)⟩

set_option maxHeartbeats 4000000 in
theorem walkNe55 (w : World) (s d : ByteArray) (hs : s.size ≤ 281474976710656) (hgo : GOk w []) (HD : Aside (g70_0 s ⟨#[45]⟩ = d)) (h1 : ¬ (d.size : Int) < 1) (h2 : ¬ (d.size : Int) > 18) (v : Int) (HP : Aside (Lib.parseIntB 64 s.data.toList = .ok v)) (HE : Aside (¬ numB v = s)) :
    Calls Tryz.prog 55 #[.string s] w fun e w' => e = .returned (.tuple #[.int .i64 0, .bool false]) ∧ Below w.heap.size w w' := by
  have mixed := mixed
  go_enter Tryz.func55, Tryz.ntmps55
  go_wp2_with (go_at_call 70; refine (trim55 _ s d HD.out).mono ?_; rintro e w1 ⟨rfl, rfl⟩)
  have HR : Aside (InR .i64 v) := range55 HP.out
  go_wp2_with (go_at_call 71; refine (parseOk71 s hs v HP.out _).mono ?_)
  rintro e w2 ⟨rfl, b2⟩
  go_wp2_with (go_at_call 42; refine (dec55 _ v HR.out (gok55 hgo b2)).mono ?_)
  rintro e w3 ⟨rfl, b3⟩
  have he' : ((numB v).toList == s.toList) = false := by
    rw [Bool.eq_false_iff]; exact fun hh => HE.out ((bytes_eq _ _).1 hh)
  go_wp2
  go_ret2
  exact ⟨rfl, b2.trans (b3.mono b2.size)⟩

set_option maxHeartbeats 4000000 in
theorem walkNo55 (w : World) (s d : ByteArray) (hs : s.size ≤ 281474976710656) (hgo : GOk w []) (HD : Aside (g70_0 s ⟨#[45]⟩ = d)) (h1 : ¬ (d.size : Int) < 1) (h2 : ¬ (d.size : Int) > 18) (HP : Aside (∀ v, Lib.parseIntB 64 s.data.toList ≠ .ok v)) :
    Calls Tryz.prog 55 #[.string s] w fun e w' => e = .returned (.tuple #[.int .i64 0, .bool false]) ∧ Below w.heap.size w w' := by
  have mixed := mixed
  go_enter Tryz.func55, Tryz.ntmps55
  go_wp2_with (go_at_call 70; refine (trim55 _ s d HD.out).mono ?_; rintro e w1 ⟨rfl, rfl⟩)
  go_wp2_with (go_at_call 71; refine (parseNo71 s hs HP.out _ hgo.inv).mono ?_)
  rintro e w2 ⟨n, t, N, rfl, b2⟩
  go_wp2
  go_ret2
  exact ⟨rfl, b2⟩

def sig55 : List AT := [AT.v .str]
def g55_0 (x0 : ByteArray) : Int := (rd55 x0).getD 0
def g55_1 (x0 : ByteArray) : Bool := (rd55 x0).isSome
def P55 (x0 : ByteArray) : Prop := x0.size ≤ 281474976710656
def S55 : Am.Spec := { sig := sig55, pre := fun ⟨x0, _⟩ => P55 x0, res := fun ⟨x0, _⟩ => [⟨.int .i64, g55_0 x0⟩, ⟨.bool, g55_1 x0⟩] }

theorem con55 : Contract Tryz.prog 55 S55 := contract_flat rfl fun w ⟨x0, _⟩ vs bss hg hp hw ha => by
  obtain ⟨v0, s0, _, _, rfl, _, ⟨_, rfl, _⟩, rfl, _⟩ := ha
  have hs : x0.size ≤ 281474976710656 := hp
  have hgo : GOk w [] := ⟨hg, hg.size, fun b hb => by cases hb⟩
  refine ⟨fun d hd => ?_, ?_⟩
  · simp only [List.mem_cons, List.mem_nil_iff, or_false] at hd
    rcases hd with rfl | rfl
    · refine ⟨rfl, ?_⟩
      show InR .i64 ((rd55 x0).getD 0)
      have z : InR .i64 0 := by rw [i64_iff]; omega
      unfold rd55
      split
      · exact z
      · split
        · rename_i v h
          split
          · exact range55 h
          · exact z
        · exact z
    · exact ⟨rfl, trivial⟩
  · show Calls Tryz.prog 55 #[.string x0] w fun e w' => e = .returned (.tuple #[.int .i64 ((rd55 x0).getD 0), .bool (rd55 x0).isSome]) ∧ Kept [] w w'
    have hd : Aside (g70_0 x0 ⟨#[45]⟩ = g70_0 x0 ⟨#[45]⟩) := rfl
    unfold rd55 long55
    by_cases h1 : (g70_0 x0 ⟨#[45]⟩).size < 1
    · rw [if_pos (by simp [h1])]
      refine (walkShort55 w x0 _ hd (by omega)).mono ?_
      rintro e w' ⟨rfl, hb⟩
      exact ⟨rfl, Kept.of_below hb⟩
    · by_cases h2 : 18 < (g70_0 x0 ⟨#[45]⟩).size
      · rw [if_pos (by simp [h2])]
        refine (walkLong55 w x0 _ hd (by omega) (by omega)).mono ?_
        rintro e w' ⟨rfl, hb⟩
        exact ⟨rfl, Kept.of_below hb⟩
      · rw [if_neg (by simp [h1, h2])]
        by_cases hok : ∃ v, Lib.parseIntB 64 x0.data.toList = .ok v
        · obtain ⟨v, hv⟩ := hok
          rw [hv]
          by_cases he : numB v = x0
          · simp only [if_pos he]
            refine (walkEq55 w x0 _ hs hgo hd (by omega) (by omega) v hv he).mono ?_
            rintro e w' ⟨rfl, hb⟩
            exact ⟨rfl, Kept.of_below hb⟩
          · simp only [if_neg he]
            refine (walkNe55 w x0 _ hs hgo hd (by omega) (by omega) v hv he).mono ?_
            rintro e w' ⟨rfl, hb⟩
            exact ⟨rfl, Kept.of_below hb⟩
        · have hno : ∀ v, Lib.parseIntB 64 x0.data.toList ≠ .ok v := fun v hv => hok ⟨v, hv⟩
          have e : (match Lib.parseIntB 64 x0.data.toList with
            | .ok v => if numB v = x0 then some v else none
            | _ => none : Option Int) = none := by
            split
            · rename_i v hv; exact absurd hv (hno v)
            · rfl
          rw [e]
          refine (walkNo55 w x0 _ hs hgo hd (by omega) (by omega) hno).mono ?_
          rintro e w' ⟨rfl, hb⟩
          exact ⟨rfl, Kept.of_below hb⟩
end Go.Proofs.YtbkkdnkbgnhodaaGreatDoor

/- Function 40 (impl.ReadList): its runs between cut points. Written by a program of this repo (gen). -/
set_option linter.unusedVariables false
set_option linter.unusedSimpArgs false
set_option maxRecDepth 100000
namespace Go.Proofs.YtbkkdnkbgnhodaaGreatDoor
open Go Go.Am Go.Proofs
noncomputable section
def ext40 : Ext := [(37, S37), (55, S55), (27, S27)]
theorem call40_37 : Callable Tryz.prog 37 := ⟨Tryz.f37, Tryz.func37, by kernel_rfl, by kernel_rfl⟩
theorem call40_55 : Callable Tryz.prog 55 := ⟨Tryz.f55, Tryz.func55, by kernel_rfl, by kernel_rfl⟩
theorem call40_27 : Callable Tryz.prog 27 := ⟨Tryz.f27, Tryz.func27, by kernel_rfl, by kernel_rfl⟩
theorem ext40Ok : ExtOk Tryz.prog ext40 := ⟨⟨call40_37, con37⟩, ⟨call40_55, con55⟩, ⟨call40_27, con27⟩, trivial⟩

noncomputable def b40 : Code := bodyOf Tryz.f40
theorem hb40 : Tryz.f40.body = some b40 := by kernel_rfl
def sig40 : List AT := [AT.v (Ty.str)]
def tys40 : List Ty := [Ty.sl (Ty.int IntKind.i64), Ty.bool]
def kds40 : List RK := []
def oks40 : List AT := owns sig40
def E40_5 (v14 : Int) (h0 : List Int) (x0 : ByteArray) : Env := [(0, PV.a (Atom.val (Value.string x0))), (4, PV.a (Atom.osl 0 Option.none)), (12, PV.a (Atom.osl 1 Option.none)), (13, PV.a (Atom.val (Value.int IntKind.i64 (↑(List.length (g37_0 x0 (ByteArray.mk #[44]))) : Int)))), (14, PV.a (Atom.val (Value.int IntKind.i64 v14)))]
def L40_5 (v14 : Int) (h0 : List Int) (x0 : ByteArray) : Heap := [Option.some (Arr.mk (Ty.int IntKind.i64) h0 Bool.false Option.none Option.none), Option.some (Arr.mk Ty.str (g37_0 x0 (ByteArray.mk #[44])) Bool.false Option.none Option.none)]
mutual
def R40 : Nat → ByteArray → List Dyn → Prop
  | 0, _, _ => False
  | n + 1, x0, ds => (if (ByteArray.toList x0 == ByteArray.toList (ByteArray.mk #[45])) = true then (ds = [Dyn.mk (Ty.sl (Ty.int IntKind.i64)) [], Dyn.mk Ty.bool Bool.true]) else ((P37 x0 (ByteArray.mk #[44])) ∧ (R40_5 n (0) ([]) (x0) ds)))
def R40_5 : Nat → Int → List Int → ByteArray → List Dyn → Prop
  | 0, _, _, _, _ => False
  | n + 1, v14, h0, x0, ds => (if (Decidable.decide (v14 < (↑(List.length (g37_0 x0 (ByteArray.mk #[44]))) : Int))) = true then ((0 ≤ v14) ∧ (v14 < (↑(List.length (g37_0 x0 (ByteArray.mk #[44]))) : Int)) ∧ ((P55 (List.getD (g37_0 x0 (ByteArray.mk #[44])) (Int.toNat v14) ByteArray.empty)) ∧ (((List.length h0 + 1) * 8 ≤ 140737488355328) ∧ ((InR IntKind.i64 (v14 + 1)) ∧ (R40_5 n (v14 + 1) (h0 ++ [g55_0 (List.getD (g37_0 x0 (ByteArray.mk #[44])) (Int.toNat v14) ByteArray.empty)]) (x0) ds))))) else (if (!ByteArray.toList (g27_0 h0) == ByteArray.toList x0) = true then (ds = [Dyn.mk (Ty.sl (Ty.int IntKind.i64)) [], Dyn.mk Ty.bool Bool.false]) else (ds = [Dyn.mk (Ty.sl (Ty.int IntKind.i64)) h0, Dyn.mk Ty.bool Bool.true])))
end
theorem snd40 : ∀ n, (∀ (x0 : ByteArray) ds, R40 n x0 ds → ∀ K q, AtV Tryz.prog 40 (PostR kds40 oks40 ds [] [] q K) 33 K q [] [.code b40] (entE 0 0 sig40 (x0, ())) (entL sig40 (x0, ()))) ∧ (∀ (v14 : Int) (h0 : List Int) (x0 : ByteArray) ds, R40_5 n v14 h0 x0 ds → ∀ K q, AtV Tryz.prog 40 (PostR kds40 oks40 ds [] [] q K) 33 K q [] (cutAt b40 5) (E40_5 v14 h0 x0) (L40_5 v14 h0 x0)) := by
  intro n
  induction n with
  | zero => exact ⟨fun _ _ h => by simp only [R40] at h, fun _ _ _ _ h => by simp only [R40_5] at h⟩
  | succ n ih =>
  obtain ⟨ih, ih5⟩ := ih
  refine ⟨?_, ?_⟩
  · intro x0 ds h K q
    rw [R40] at h
    by_cases b0 : (ByteArray.toList x0 == ByteArray.toList (ByteArray.mk #[45])) = true
    · rw [if_pos b0] at h
      subst h
      exact AtV.ret Tryz.func40 tabOk ext40Ok mixed false [] tys40 [true] (a1 b0 trivial) (by kernel_rfl)
    · rw [if_neg b0] at h
      replace b0 := Bool.eq_false_iff.2 b0
      obtain ⟨s0, h⟩ := h
      exact AtV.go tabOk ext40Ok mixed false [] [(4, Ty.int IntKind.i64)] [0, 4, 12, 13, 14] [1, 0] [false] (a1 b0 (a1 s0 trivial)) (ih5 _ _ _ _ h K q) (by kernel_rfl)

  · intro v14 h0 x0 ds h K q
    rw [R40_5] at h
    by_cases b0 : (Decidable.decide (v14 < (↑(List.length (g37_0 x0 (ByteArray.mk #[44]))) : Int))) = true
    · rw [if_pos b0] at h
      obtain ⟨s0, s1, h⟩ := h
      obtain ⟨s2, h⟩ := h
      obtain ⟨s3, h⟩ := h
      obtain ⟨s4, h⟩ := h
      exact AtV.go tabOk ext40Ok mixed false [] [(4, Ty.int IntKind.i64)] [0, 4, 12, 13, 14] [0, 1] [true] (a1 b0 (a1 s0 (a1 s1 (a1 s2 (a1 s3 (a1 s4 trivial)))))) (ih5 _ _ _ _ h K q) (by kernel_rfl)
    · rw [if_neg b0] at h
      replace b0 := Bool.eq_false_iff.2 b0
      by_cases b1 : (!ByteArray.toList (g27_0 h0) == ByteArray.toList x0) = true
      · rw [if_pos b1] at h
        subst h
        exact AtV.ret Tryz.func40 tabOk ext40Ok mixed false [] tys40 [false, true] (a1 b0 (a1 trivial (a1 b1 trivial))) (by kernel_rfl)
      · rw [if_neg b1] at h
        replace b1 := Bool.eq_false_iff.2 b1
        subst h
        exact AtV.ret Tryz.func40 tabOk ext40Ok mixed false [] tys40 [false, false] (a1 b0 (a1 trivial (a1 b1 trivial))) (by kernel_rfl)



def ws40 (x0 : ByteArray) : List ByteArray := g37_0 x0 (ByteArray.mk #[44])
def nums40 (x0 : ByteArray) : List Int := (ws40 x0).map g55_0
def all40 (x0 : ByteArray) : Option (List Int) := if x0 = ByteArray.mk #[45] then some [] else if g27_0 (nums40 x0) = x0 then some (nums40 x0) else none
def g40_0 (x0 : ByteArray) : List Int := (all40 x0).getD []
def g40_1 (x0 : ByteArray) : Bool := (all40 x0).isSome
def P40 (x0 : ByteArray) : Prop := x0.size ≤ 1048576

theorem wl40 (x0 : ByteArray) (hp : P40 x0) : (ws40 x0).length ≤ 1048577 := by
  have hl := Lib.splitB_all (ByteArray.mk #[44]) (Nat.le_refl 1) 0 (Lib.countB x0 (ByteArray.mk #[44])) x0 rfl
  have hc := Lib.countB_le (ByteArray.mk #[44]) (Nat.le_refl 1) x0.size x0 (Nat.le_refl _)
  have hp : x0.size ≤ 1048576 := hp
  have : (ws40 x0).length = Lib.countB x0 (ByteArray.mk #[44]) + 1 := hl
  omega

theorem wz40 (x0 : ByteArray) (hp : P40 x0) : ∀ w ∈ ws40 x0, w.size ≤ 1048576 := fun w hw => by
  have hp : x0.size ≤ 1048576 := hp
  have := splitB_part (ByteArray.mk #[44]) 0 _ _ w hw
  omega

theorem top40 (x0 : ByteArray) (hp : P40 x0) : ∃ n, R40 n x0 [⟨.sl (.int .i64), g40_0 x0⟩, ⟨.bool, g40_1 x0⟩] := by
  have ew : g37_0 x0 (ByteArray.mk #[44]) = ws40 x0 := rfl
  have hp' : x0.size ≤ 1048576 := hp
  have hl := wl40 x0 hp
  have hz := wz40 x0 hp
  refine ⟨((ws40 x0).length + 1) + 1, ?_⟩
  rw [R40]
  unfold g40_0 g40_1 all40
  by_cases h0 : x0 = ByteArray.mk #[45]
  · rw [if_pos ((bytes_eq _ _).2 h0), if_pos h0]; rfl
  · rw [if_neg (fun h => h0 ((bytes_eq _ _).1 h)), if_neg h0]
    refine ⟨⟨by omega, Nat.le_refl 1⟩, ?_⟩
    have hm : (ws40 x0).length ≤ maxLen := by unfold maxLen; omega
    have key := loop_fold (b := []) (ws40 x0) ByteArray.empty (fun (h : List Int) b => h ++ [g55_0 b]) (fun h => if g27_0 h = x0 then [(⟨.sl (.int .i64), h⟩ : Dyn), ⟨.bool, true⟩] else [⟨.sl (.int .i64), []⟩, ⟨.bool, false⟩]) (fun i h => h.length ≤ i) (fun n i h ds => R40_5 n i h x0 ds) (by simp) (fun n h hb => ?_) (fun n i h hi hl => ⟨len_up hl, fun ds hr => ?_⟩)
    · rw [foldl_snoc] at key
      have e : [] ++ (ws40 x0).map g55_0 = nums40 x0 := by simp [nums40]
      simp only [e] at key
      by_cases ht : g27_0 (nums40 x0) = x0
      · rw [if_pos ht] at key ⊢; exact key
      · rw [if_neg ht] at key ⊢; exact key
    · show R40_5 (n + 1) (ws40 x0).length h x0 _
      rw [R40_5, ew, if_neg (by simp)]
      by_cases ht : g27_0 h = x0
      · rw [if_neg (by rw [(bytes_eq _ _).2 ht]; simp), if_pos ht]
      · rw [if_pos (by rw [Bool.not_eq_true', Bool.eq_false_iff]; exact fun hh => ht ((bytes_eq _ _).1 hh)), if_neg ht]
    · show R40_5 (n + 1) (i : Int) h x0 ds
      rw [R40_5, ew, if_pos (by simp only [decide_eq_true_eq]; omega)]
      simp only [Int.toNat_natCast]
      have hw := hz _ (mem_getD (ws40 x0) i ByteArray.empty hi)
      exact ⟨by omega, by omega, (show ((ws40 x0).getD i ByteArray.empty).size ≤ 281474976710656 from by omega), by omega, inR_up hm hi, hr⟩

def S40 : Am.Spec := { sig := sig40, pre := fun ⟨x0, _⟩ => P40 x0, res := fun ⟨x0, _⟩ => [⟨.sl (.int .i64), g40_0 x0⟩, ⟨.bool, g40_1 x0⟩] }
theorem con40 : Contract Tryz.prog 40 S40 := contract_of Tryz.func40 hb40 (Nat.le_of_ble_eq_true (by kernel_rfl)) (fun ⟨x0, _⟩ h hwf K q => by
  obtain ⟨n, hn⟩ := top40 x0 h
  exact (snd40 n).1 x0 _ hn K q)

end
end Go.Proofs.YtbkkdnkbgnhodaaGreatDoor

/- Function 25 (impl.readNumbers): its runs between cut points. Written by a program of this repo (gen). -/
set_option linter.unusedVariables false
set_option linter.unusedSimpArgs false
set_option maxRecDepth 100000
namespace Go.Proofs.YtbkkdnkbgnhodaaGreatDoor
open Go Go.Am Go.Proofs
noncomputable section
def ext25 : Ext := [(40, S40)]
theorem call25_40 : Callable Tryz.prog 40 := ⟨Tryz.f40, Tryz.func40, by kernel_rfl, by kernel_rfl⟩
theorem ext25Ok : ExtOk Tryz.prog ext25 := ⟨⟨call25_40, con40⟩, trivial⟩

noncomputable def b25 : Code := bodyOf Tryz.f25
theorem hb25 : Tryz.f25.body = some b25 := by kernel_rfl
def sig25 : List AT := [AT.v (Ty.str), AT.v (Ty.int IntKind.i64)]
def tys25 : List Ty := [Ty.sl (Ty.int IntKind.i64), Ty.bool]
def kds25 : List RK := []
def oks25 : List AT := owns sig25
def P25 (x0 : ByteArray) (x1 : Int) : Prop := ((P40 x0) ∧ True)
def g25_0 (x0 : ByteArray) (x1 : Int) : List Int := g40_0 x0
def g25_1 (x0 : ByteArray) (x1 : Int) : Bool := (↑(List.length (g40_0 x0)) : Int) == x1
theorem at25 (x0 : ByteArray) (x1 : Int) (h : P25 x0 x1) (K : Ctx) (q : Nat → Value) : AtV Tryz.prog 25 (PostR kds25 oks25 [⟨Ty.sl (Ty.int IntKind.i64), g25_0 x0 x1⟩, ⟨Ty.bool, g25_1 x0 x1⟩] [] [] q K) 18 K q [] [.code b25] (entE 0 0 sig25 (x0, x1, ())) (entL sig25 (x0, x1, ())) := by
  unfold P25 at h
  unfold g25_0 g25_1
  obtain ⟨s0, h⟩ := h
  exact AtV.ret Tryz.func25 tabOk ext25Ok mixed false [] tys25 [] (a1 s0 trivial) (by kernel_rfl)

def S25 : Am.Spec := { sig := sig25, pre := fun ⟨x0, x1, _⟩ => P25 x0 x1, res := fun ⟨x0, x1, _⟩ => [⟨Ty.sl (Ty.int IntKind.i64), g25_0 x0 x1⟩, ⟨Ty.bool, g25_1 x0 x1⟩], kds := kds25 }
theorem con25 : Contract Tryz.prog 25 S25 := contract_of Tryz.func25 hb25 (Nat.le_of_ble_eq_true (by kernel_rfl)) (fun ⟨x0, x1, _⟩ h _ K q => at25 x0 x1 h K q)


end
end Go.Proofs.YtbkkdnkbgnhodaaGreatDoor

/- Function 7 (impl.ReadTest): its runs between cut points. Written by a program of this repo (gen). -/
set_option linter.unusedVariables false
set_option linter.unusedSimpArgs false
set_option maxRecDepth 100000
namespace Go.Proofs.YtbkkdnkbgnhodaaGreatDoor
open Go Go.Am Go.Proofs
noncomputable section
def ext7 : Ext := [(23, S23), (24, S24), (25, S25), (8, S8)]
theorem call7_23 : Callable Tryz.prog 23 := ⟨Tryz.f23, Tryz.func23, by kernel_rfl, by kernel_rfl⟩
theorem call7_24 : Callable Tryz.prog 24 := ⟨Tryz.f24, Tryz.func24, by kernel_rfl, by kernel_rfl⟩
theorem call7_25 : Callable Tryz.prog 25 := ⟨Tryz.f25, Tryz.func25, by kernel_rfl, by kernel_rfl⟩
theorem call7_8 : Callable Tryz.prog 8 := ⟨Tryz.f8, Tryz.func8, by kernel_rfl, by kernel_rfl⟩
theorem ext7Ok : ExtOk Tryz.prog ext7 := ⟨⟨call7_23, con23⟩, ⟨call7_24, con24⟩, ⟨call7_25, con25⟩, ⟨call7_8, con8⟩, trivial⟩

noncomputable def b7 : Code := bodyOf Tryz.f7
theorem hb7 : Tryz.f7.body = some b7 := by kernel_rfl
def sig7 : List AT := [AT.v (Ty.str)]
def tys7 : List Ty := [Ty.cons (Ty.int IntKind.i64) (Ty.cons (Ty.int IntKind.i64) (Ty.cons (Ty.int IntKind.i64) Ty.unit)), Ty.bool]
def kds7 : List RK := []
def oks7 : List AT := owns sig7
def P7 (x0 : ByteArray) : Prop := ((P23 x0 (ByteArray.mk #[32])) ∧ ((P24 (g23_0 x0 (ByteArray.mk #[32]))) ∧ ((P25 (g23_1 x0 (ByteArray.mk #[32])) 2) ∧ (if (!g24_1 (g23_0 x0 (ByteArray.mk #[32]))) = true then True else (if (!g25_1 (g23_1 x0 (ByteArray.mk #[32])) 2) = true then True else ((0 < (↑(List.length (g25_0 (g23_1 x0 (ByteArray.mk #[32])) 2)) : Int)) ∧ ((1 < (↑(List.length (g25_0 (g23_1 x0 (ByteArray.mk #[32])) 2)) : Int)) ∧ ((P8 (g24_0 (g23_0 x0 (ByteArray.mk #[32])), List.getD (g25_0 (g23_1 x0 (ByteArray.mk #[32])) 2) 0 0, List.getD (g25_0 (g23_1 x0 (ByteArray.mk #[32])) 2) 1 0, ())) ∧ True))))))))
def g7_0 (x0 : ByteArray) : Int × Int × Int × Unit := (if (!g24_1 (g23_0 x0 (ByteArray.mk #[32]))) = true then (0, 0, 0, ()) else (if (!g25_1 (g23_1 x0 (ByteArray.mk #[32])) 2) = true then (0, 0, 0, ()) else (if (!ByteArray.toList (g8_0 (g24_0 (g23_0 x0 (ByteArray.mk #[32])), List.getD (g25_0 (g23_1 x0 (ByteArray.mk #[32])) 2) 0 0, List.getD (g25_0 (g23_1 x0 (ByteArray.mk #[32])) 2) 1 0, ())) == ByteArray.toList x0) = true then (0, 0, 0, ()) else (g24_0 (g23_0 x0 (ByteArray.mk #[32])), List.getD (g25_0 (g23_1 x0 (ByteArray.mk #[32])) 2) 0 0, List.getD (g25_0 (g23_1 x0 (ByteArray.mk #[32])) 2) 1 0, ()))))
def g7_1 (x0 : ByteArray) : Bool := (if (!g24_1 (g23_0 x0 (ByteArray.mk #[32]))) = true then Bool.false else (if (!g25_1 (g23_1 x0 (ByteArray.mk #[32])) 2) = true then Bool.false else (if (!ByteArray.toList (g8_0 (g24_0 (g23_0 x0 (ByteArray.mk #[32])), List.getD (g25_0 (g23_1 x0 (ByteArray.mk #[32])) 2) 0 0, List.getD (g25_0 (g23_1 x0 (ByteArray.mk #[32])) 2) 1 0, ())) == ByteArray.toList x0) = true then Bool.false else Bool.true)))
theorem at7 (x0 : ByteArray) (h : P7 x0) (K : Ctx) (q : Nat → Value) : AtV Tryz.prog 7 (PostR kds7 oks7 [⟨Ty.cons (Ty.int IntKind.i64) (Ty.cons (Ty.int IntKind.i64) (Ty.cons (Ty.int IntKind.i64) Ty.unit)), g7_0 x0⟩, ⟨Ty.bool, g7_1 x0⟩] [] [] q K) 49 K q [] [.code b7] (entE 0 0 sig7 (x0, ())) (entL sig7 (x0, ())) := by
  unfold P7 at h
  unfold g7_0 g7_1
  obtain ⟨s0, h⟩ := h
  obtain ⟨s1, h⟩ := h
  obtain ⟨s2, h⟩ := h
  by_cases b0 : (!g24_1 (g23_0 x0 (ByteArray.mk #[32]))) = true
  · try simp only [if_pos b0] at h ⊢
    exact AtV.ret Tryz.func7 tabOk ext7Ok mixed false [] tys7 [true, true] (a1 s0 (a1 s1 (a1 s2 (a1 b0 (a1 (rfl : Bool.true = Bool.true) trivial))))) (by kernel_rfl)
  · try simp only [if_neg b0] at h ⊢
    replace b0 := Bool.eq_false_iff.2 b0
    by_cases b1 : (!g25_1 (g23_1 x0 (ByteArray.mk #[32])) 2) = true
    · try simp only [if_pos b1] at h ⊢
      exact AtV.ret Tryz.func7 tabOk ext7Ok mixed false [] tys7 [false, true] (a1 s0 (a1 s1 (a1 s2 (a1 b0 (a1 b1 trivial))))) (by kernel_rfl)
    · try simp only [if_neg b1] at h ⊢
      replace b1 := Bool.eq_false_iff.2 b1
      obtain ⟨s3, h⟩ := h
      obtain ⟨s4, h⟩ := h
      obtain ⟨s5, h⟩ := h
      by_cases b2 : (!ByteArray.toList (g8_0 (g24_0 (g23_0 x0 (ByteArray.mk #[32])), List.getD (g25_0 (g23_1 x0 (ByteArray.mk #[32])) 2) 0 0, List.getD (g25_0 (g23_1 x0 (ByteArray.mk #[32])) 2) 1 0, ())) == ByteArray.toList x0) = true
      · try simp only [if_pos b2] at h ⊢
        exact AtV.ret Tryz.func7 tabOk ext7Ok mixed false [] tys7 [false, false, true] (a1 s0 (a1 s1 (a1 s2 (a1 b0 (a1 b1 (a1 ((by decide) : (0 : Int) ≤ (0 : Int)) (a1 s3 (a1 ((by decide) : (0 : Int) ≤ (1 : Int)) (a1 s4 (a1 s5 (a1 b2 trivial))))))))))) (by kernel_rfl)
      · try simp only [if_neg b2] at h ⊢
        replace b2 := Bool.eq_false_iff.2 b2
        exact AtV.ret Tryz.func7 tabOk ext7Ok mixed false [] tys7 [false, false, false] (a1 s0 (a1 s1 (a1 s2 (a1 b0 (a1 b1 (a1 ((by decide) : (0 : Int) ≤ (0 : Int)) (a1 s3 (a1 ((by decide) : (0 : Int) ≤ (1 : Int)) (a1 s4 (a1 s5 (a1 b2 trivial))))))))))) (by kernel_rfl)

def S7 : Am.Spec := { sig := sig7, pre := fun ⟨x0, _⟩ => P7 x0, res := fun ⟨x0, _⟩ => [⟨Ty.cons (Ty.int IntKind.i64) (Ty.cons (Ty.int IntKind.i64) (Ty.cons (Ty.int IntKind.i64) Ty.unit)), g7_0 x0⟩, ⟨Ty.bool, g7_1 x0⟩], kds := kds7 }
theorem con7 : Contract Tryz.prog 7 S7 := contract_of Tryz.func7 hb7 (Nat.le_of_ble_eq_true (by kernel_rfl)) (fun ⟨x0, _⟩ h _ K q => at7 x0 h K q)


end
end Go.Proofs.YtbkkdnkbgnhodaaGreatDoor

/- Function 80 (spec.l00In): its runs between cut points. Written by a program of this repo (gen). -/
set_option linter.unusedVariables false
set_option linter.unusedSimpArgs false
set_option maxRecDepth 100000
namespace Go.Proofs.YtbkkdnkbgnhodaaGreatDoor
open Go Go.Am Go.Proofs
noncomputable section
def ext80 : Ext := []
theorem ext80Ok : ExtOk Tryz.prog ext80 := trivial

noncomputable def b80 : Code := bodyOf Tryz.f80
theorem hb80 : Tryz.f80.body = some b80 := by kernel_rfl
def sig80 : List AT := [AT.v (Ty.int IntKind.i64), AT.v (Ty.int IntKind.i64), AT.v (Ty.int IntKind.i64)]
def tys80 : List Ty := [Ty.bool]
def kds80 : List RK := []
def oks80 : List AT := owns sig80
def P80 (x0 : Int) (x1 : Int) (x2 : Int) : Prop := True
def g80_0 (x0 : Int) (x1 : Int) (x2 : Int) : Bool := (if (Decidable.decide (x0 ≥ x1)) = true then Decidable.decide (x0 ≤ x2) else Bool.false)
theorem at80 (x0 : Int) (x1 : Int) (x2 : Int) (h : P80 x0 x1 x2) (K : Ctx) (q : Nat → Value) : AtV Tryz.prog 80 (PostR kds80 oks80 [⟨Ty.bool, g80_0 x0 x1 x2⟩] [] [] q K) 15 K q [] [.code b80] (entE 0 0 sig80 (x0, x1, x2, ())) (entL sig80 (x0, x1, x2, ())) := by
  unfold P80 at h
  unfold g80_0
  by_cases b0 : (Decidable.decide (x0 ≥ x1)) = true
  · try simp only [if_pos b0] at h ⊢
    exact AtV.ret Tryz.func80 tabOk ext80Ok mixed false [] tys80 [true] (a1 b0 trivial) (by kernel_rfl)
  · try simp only [if_neg b0] at h ⊢
    replace b0 := Bool.eq_false_iff.2 b0
    exact AtV.ret Tryz.func80 tabOk ext80Ok mixed false [] tys80 [false] (a1 b0 trivial) (by kernel_rfl)

def S80 : Am.Spec := { sig := sig80, pre := fun ⟨x0, x1, x2, _⟩ => P80 x0 x1 x2, res := fun ⟨x0, x1, x2, _⟩ => [⟨Ty.bool, g80_0 x0 x1 x2⟩], kds := kds80 }
theorem con80 : Contract Tryz.prog 80 S80 := contract_of Tryz.func80 hb80 (Nat.le_of_ble_eq_true (by kernel_rfl)) (fun ⟨x0, x1, x2, _⟩ h _ K q => at80 x0 x1 x2 h K q)


end
end Go.Proofs.YtbkkdnkbgnhodaaGreatDoor

/- Function 78 (spec.l02Day): its runs between cut points. Written by a program of this repo (gen). -/
set_option linter.unusedVariables false
set_option linter.unusedSimpArgs false
set_option maxRecDepth 100000
namespace Go.Proofs.YtbkkdnkbgnhodaaGreatDoor
open Go Go.Am Go.Proofs
noncomputable section
def ext78 : Ext := [(80, S80)]
theorem call78_80 : Callable Tryz.prog 80 := ⟨Tryz.f80, Tryz.func80, by kernel_rfl, by kernel_rfl⟩
theorem ext78Ok : ExtOk Tryz.prog ext78 := ⟨⟨call78_80, con80⟩, trivial⟩

noncomputable def b78 : Code := bodyOf Tryz.f78
theorem hb78 : Tryz.f78.body = some b78 := by kernel_rfl
def sig78 : List AT := [AT.v (Ty.int IntKind.i64)]
def tys78 : List Ty := [Ty.bool]
def kds78 : List RK := []
def oks78 : List AT := owns sig78
def P78 (x0 : Int) : Prop := True
def g78_0 (x0 : Int) : Bool := g80_0 x0 0 36524
theorem at78 (x0 : Int) (h : P78 x0) (K : Ctx) (q : Nat → Value) : AtV Tryz.prog 78 (PostR kds78 oks78 [⟨Ty.bool, g78_0 x0⟩] [] [] q K) 5 K q [] [.code b78] (entE 0 0 sig78 (x0, ())) (entL sig78 (x0, ())) := by
  unfold P78 at h
  unfold g78_0
  exact AtV.ret Tryz.func78 tabOk ext78Ok mixed false [] tys78 [] (a1 trivial trivial) (by kernel_rfl)

def S78 : Am.Spec := { sig := sig78, pre := fun ⟨x0, _⟩ => P78 x0, res := fun ⟨x0, _⟩ => [⟨Ty.bool, g78_0 x0⟩], kds := kds78 }
theorem con78 : Contract Tryz.prog 78 S78 := contract_of Tryz.func78 hb78 (Nat.le_of_ble_eq_true (by kernel_rfl)) (fun ⟨x0, _⟩ h _ K q => at78 x0 h K q)


end
end Go.Proofs.YtbkkdnkbgnhodaaGreatDoor

/- Function 79 (spec.l22Broken): its runs between cut points. Written by a program of this repo (gen). -/
set_option linter.unusedVariables false
set_option linter.unusedSimpArgs false
set_option maxRecDepth 100000
namespace Go.Proofs.YtbkkdnkbgnhodaaGreatDoor
open Go Go.Am Go.Proofs
noncomputable section
def ext79 : Ext := [(80, S80)]
theorem call79_80 : Callable Tryz.prog 80 := ⟨Tryz.f80, Tryz.func80, by kernel_rfl, by kernel_rfl⟩
theorem ext79Ok : ExtOk Tryz.prog ext79 := ⟨⟨call79_80, con80⟩, trivial⟩

noncomputable def b79 : Code := bodyOf Tryz.f79
theorem hb79 : Tryz.f79.body = some b79 := by kernel_rfl
def sig79 : List AT := [AT.v (Ty.int IntKind.i64)]
def tys79 : List Ty := [Ty.bool]
def kds79 : List RK := []
def oks79 : List AT := owns sig79
def P79 (x0 : Int) : Prop := True
def g79_0 (x0 : Int) : Bool := g80_0 x0 0 24000
theorem at79 (x0 : Int) (h : P79 x0) (K : Ctx) (q : Nat → Value) : AtV Tryz.prog 79 (PostR kds79 oks79 [⟨Ty.bool, g79_0 x0⟩] [] [] q K) 5 K q [] [.code b79] (entE 0 0 sig79 (x0, ())) (entL sig79 (x0, ())) := by
  unfold P79 at h
  unfold g79_0
  exact AtV.ret Tryz.func79 tabOk ext79Ok mixed false [] tys79 [] (a1 trivial trivial) (by kernel_rfl)

def S79 : Am.Spec := { sig := sig79, pre := fun ⟨x0, _⟩ => P79 x0, res := fun ⟨x0, _⟩ => [⟨Ty.bool, g79_0 x0⟩], kds := kds79 }
theorem con79 : Contract Tryz.prog 79 S79 := contract_of Tryz.func79 hb79 (Nat.le_of_ble_eq_true (by kernel_rfl)) (fun ⟨x0, _⟩ h _ K q => at79 x0 h K q)


end
end Go.Proofs.YtbkkdnkbgnhodaaGreatDoor

/- Function 62 (spec.l22One): its runs between cut points. Written by a program of this repo (gen). -/
set_option linter.unusedVariables false
set_option linter.unusedSimpArgs false
set_option maxRecDepth 100000
namespace Go.Proofs.YtbkkdnkbgnhodaaGreatDoor
open Go Go.Am Go.Proofs
noncomputable section
def ext62 : Ext := [(78, S78), (79, S79), (80, S80)]
theorem call62_78 : Callable Tryz.prog 78 := ⟨Tryz.f78, Tryz.func78, by kernel_rfl, by kernel_rfl⟩
theorem call62_79 : Callable Tryz.prog 79 := ⟨Tryz.f79, Tryz.func79, by kernel_rfl, by kernel_rfl⟩
theorem call62_80 : Callable Tryz.prog 80 := ⟨Tryz.f80, Tryz.func80, by kernel_rfl, by kernel_rfl⟩
theorem ext62Ok : ExtOk Tryz.prog ext62 := ⟨⟨call62_78, con78⟩, ⟨call62_79, con79⟩, ⟨call62_80, con80⟩, trivial⟩

noncomputable def b62 : Code := bodyOf Tryz.f62
theorem hb62 : Tryz.f62.body = some b62 := by kernel_rfl
def sig62 : List AT := [AT.p (Ty.cons (Ty.int IntKind.i64) (Ty.cons (Ty.int IntKind.i64) (Ty.cons (Ty.int IntKind.i64) Ty.unit)))]
def tys62 : List Ty := [Ty.bool]
def kds62 : List RK := []
def oks62 : List AT := owns sig62
def P62 (x0 : Int × Int × Int × Unit) : Prop := True
def g62_0 (x0 : Int × Int × Int × Unit) : Bool := (if (g78_0 (Prod.fst x0)) = true then (if (g79_0 (Prod.fst (Prod.snd x0))) = true then g80_0 (Prod.fst (Prod.snd (Prod.snd x0))) 0 1000 else Bool.false) else Bool.false)
theorem at62 (x0 : Int × Int × Int × Unit) (h : P62 x0) (K : Ctx) (q : Nat → Value) : AtV Tryz.prog 62 (PostR kds62 oks62 [⟨Ty.bool, g62_0 x0⟩] [] [] q K) 22 K q [] [.code b62] (entE 0 0 sig62 (x0, ())) (entL sig62 (x0, ())) := by
  unfold P62 at h
  unfold g62_0
  by_cases b0 : (g78_0 (Prod.fst x0)) = true
  · try simp only [if_pos b0] at h ⊢
    by_cases b1 : (g79_0 (Prod.fst (Prod.snd x0))) = true
    · try simp only [if_pos b1] at h ⊢
      exact AtV.ret Tryz.func62 tabOk ext62Ok mixed false [] tys62 [true, true] (a1 trivial (a1 b0 (a1 trivial (a1 b1 (a1 trivial trivial))))) (by kernel_rfl)
    · try simp only [if_neg b1] at h ⊢
      replace b1 := Bool.eq_false_iff.2 b1
      exact AtV.ret Tryz.func62 tabOk ext62Ok mixed false [] tys62 [true, false] (a1 trivial (a1 b0 (a1 trivial (a1 b1 trivial)))) (by kernel_rfl)
  · try simp only [if_neg b0] at h ⊢
    replace b0 := Bool.eq_false_iff.2 b0
    exact AtV.ret Tryz.func62 tabOk ext62Ok mixed false [] tys62 [false, false] (a1 trivial (a1 b0 (a1 (rfl : Bool.false = Bool.false) trivial))) (by kernel_rfl)

def S62 : Am.Spec := { sig := sig62, pre := fun ⟨x0, _⟩ => P62 x0, res := fun ⟨x0, _⟩ => [⟨Ty.bool, g62_0 x0⟩], kds := kds62 }
theorem con62 : Contract Tryz.prog 62 S62 := contract_of Tryz.func62 hb62 (Nat.le_of_ble_eq_true (by kernel_rfl)) (fun ⟨x0, _⟩ h _ K q => at62 x0 h K q)


end
end Go.Proofs.YtbkkdnkbgnhodaaGreatDoor

/- Function 48 (spec.l22Order): its runs between cut points. Written by a program of this repo (gen). -/
set_option linter.unusedVariables false
set_option linter.unusedSimpArgs false
set_option maxRecDepth 100000
namespace Go.Proofs.YtbkkdnkbgnhodaaGreatDoor
open Go Go.Am Go.Proofs
noncomputable section
def ext48 : Ext := [(62, S62)]
theorem call48_62 : Callable Tryz.prog 62 := ⟨Tryz.f62, Tryz.func62, by kernel_rfl, by kernel_rfl⟩
theorem ext48Ok : ExtOk Tryz.prog ext48 := ⟨⟨call48_62, con62⟩, trivial⟩

noncomputable def b48 : Code := bodyOf Tryz.f48
theorem hb48 : Tryz.f48.body = some b48 := by kernel_rfl
def sig48 : List AT := [AT.v (Ty.sl (Ty.cons (Ty.int IntKind.i64) (Ty.cons (Ty.int IntKind.i64) (Ty.cons (Ty.int IntKind.i64) Ty.unit))))]
def tys48 : List Ty := [Ty.bool]
def kds48 : List RK := []
def oks48 : List AT := owns sig48
def E48_2 (v3 : Int) (x0 : List (Int × Int × Int × Unit)) : Env := [(0, PV.a (Atom.sl (Ty.cons (Ty.int IntKind.i64) (Ty.cons (Ty.int IntKind.i64) (Ty.cons (Ty.int IntKind.i64) Ty.unit))) x0)), (3, PV.a (Atom.val (Value.int IntKind.i64 v3)))]
def L48_2 (v3 : Int) (x0 : List (Int × Int × Int × Unit)) : Heap := []
mutual
def R48 : Nat → List (Int × Int × Int × Unit) → List Dyn → Prop
  | 0, _, _ => False
  | n + 1, x0, ds => (R48_2 n (0) (x0) ds)
def R48_2 : Nat → Int → List (Int × Int × Int × Unit) → List Dyn → Prop
  | 0, _, _, _ => False
  | n + 1, v3, x0, ds => (if (Decidable.decide (v3 < (↑(List.length x0) : Int))) = true then ((0 ≤ v3) ∧ (v3 < (↑(List.length x0) : Int)) ∧ (if (!g62_0 (List.getD x0 (Int.toNat v3) (0, 0, 0, ()))) = true then (ds = [Dyn.mk Ty.bool Bool.false]) else (if (Decidable.decide (v3 > 0)) = true then ((InR IntKind.i64 (v3 - 1)) ∧ ((0 ≤ v3 - 1) ∧ (v3 - 1 < (↑(List.length x0) : Int)) ∧ ((0 ≤ v3) ∧ (v3 < (↑(List.length x0) : Int)) ∧ (if (Decidable.decide (Prod.fst (List.getD x0 (Int.toNat (v3 - 1)) (0, 0, 0, ())) ≥ Prod.fst (List.getD x0 (Int.toNat v3) (0, 0, 0, ())))) = true then (ds = [Dyn.mk Ty.bool Bool.false]) else ((InR IntKind.i64 (v3 - 1)) ∧ ((0 ≤ v3 - 1) ∧ (v3 - 1 < (↑(List.length x0) : Int)) ∧ ((0 ≤ v3) ∧ (v3 < (↑(List.length x0) : Int)) ∧ (if (Decidable.decide (Prod.fst (Prod.snd (List.getD x0 (Int.toNat (v3 - 1)) (0, 0, 0, ()))) > Prod.fst (Prod.snd (List.getD x0 (Int.toNat v3) (0, 0, 0, ()))))) = true then (ds = [Dyn.mk Ty.bool Bool.false]) else ((InR IntKind.i64 (v3 - 1)) ∧ ((0 ≤ v3 - 1) ∧ (v3 - 1 < (↑(List.length x0) : Int)) ∧ ((0 ≤ v3) ∧ (v3 < (↑(List.length x0) : Int)) ∧ (if (Decidable.decide (Prod.fst (Prod.snd (Prod.snd (List.getD x0 (Int.toNat (v3 - 1)) (0, 0, 0, ())))) > Prod.fst (Prod.snd (Prod.snd (List.getD x0 (Int.toNat v3) (0, 0, 0, ())))))) = true then (ds = [Dyn.mk Ty.bool Bool.false]) else ((InR IntKind.i64 (v3 + 1)) ∧ (R48_2 n (v3 + 1) (x0) ds)))))))))))))) else ((InR IntKind.i64 (v3 + 1)) ∧ (R48_2 n (v3 + 1) (x0) ds))))) else (ds = [Dyn.mk Ty.bool Bool.true]))
end
theorem snd48 : ∀ n, (∀ (x0 : List (Int × Int × Int × Unit)) ds, R48 n x0 ds → ∀ K q, AtV Tryz.prog 48 (PostR kds48 oks48 ds [] [] q K) 59 K q [] [.code b48] (entE 0 0 sig48 (x0, ())) (entL sig48 (x0, ()))) ∧ (∀ (v3 : Int) (x0 : List (Int × Int × Int × Unit)) ds, R48_2 n v3 x0 ds → ∀ K q, AtV Tryz.prog 48 (PostR kds48 oks48 ds [] [] q K) 59 K q [] (cutAt b48 2) (E48_2 v3 x0) (L48_2 v3 x0)) := by
  intro n
  induction n with
  | zero => exact ⟨fun _ _ h => by simp only [R48] at h, fun _ _ _ h => by simp only [R48_2] at h⟩
  | succ n ih =>
  obtain ⟨ih, ih2⟩ := ih
  refine ⟨?_, ?_⟩
  · intro x0 ds h K q
    rw [R48] at h
    exact AtV.go tabOk ext48Ok mixed false [] [] [0, 3] [] [] trivial (ih2 _ _ _ h K q) (by kernel_rfl)

  · intro v3 x0 ds h K q
    rw [R48_2] at h
    by_cases b0 : (Decidable.decide (v3 < (↑(List.length x0) : Int))) = true
    · rw [if_pos b0] at h
      obtain ⟨s0, s1, h⟩ := h
      by_cases b1 : (!g62_0 (List.getD x0 (Int.toNat v3) (0, 0, 0, ()))) = true
      · rw [if_pos b1] at h
        subst h
        exact AtV.ret Tryz.func48 tabOk ext48Ok mixed false [] tys48 [true, true] (a1 b0 (a1 s0 (a1 s1 (a1 trivial (a1 b1 trivial))))) (by kernel_rfl)
      · rw [if_neg b1] at h
        replace b1 := Bool.eq_false_iff.2 b1
        by_cases b2 : (Decidable.decide (v3 > 0)) = true
        · rw [if_pos b2] at h
          obtain ⟨s2, h⟩ := h
          obtain ⟨s3, s4, h⟩ := h
          obtain ⟨s5, s6, h⟩ := h
          by_cases b3 : (Decidable.decide (Prod.fst (List.getD x0 (Int.toNat (v3 - 1)) (0, 0, 0, ())) ≥ Prod.fst (List.getD x0 (Int.toNat v3) (0, 0, 0, ())))) = true
          · rw [if_pos b3] at h
            subst h
            exact AtV.ret Tryz.func48 tabOk ext48Ok mixed false [] tys48 [true, false, true, true, true, true] (a1 b0 (a1 s0 (a1 s1 (a1 trivial (a1 b1 (a1 b2 (a1 s2 (a1 s3 (a1 s4 (a1 s5 (a1 s6 (a1 b3 (a1 (rfl : Bool.true = Bool.true) (a1 (rfl : Bool.true = Bool.true) trivial)))))))))))))) (by kernel_rfl)
          · rw [if_neg b3] at h
            replace b3 := Bool.eq_false_iff.2 b3
            obtain ⟨s7, h⟩ := h
            obtain ⟨s8, s9, h⟩ := h
            obtain ⟨s10, s11, h⟩ := h
            by_cases b4 : (Decidable.decide (Prod.fst (Prod.snd (List.getD x0 (Int.toNat (v3 - 1)) (0, 0, 0, ()))) > Prod.fst (Prod.snd (List.getD x0 (Int.toNat v3) (0, 0, 0, ()))))) = true
            · rw [if_pos b4] at h
              subst h
              exact AtV.ret Tryz.func48 tabOk ext48Ok mixed false [] tys48 [true, false, true, false, true, true] (a1 b0 (a1 s0 (a1 s1 (a1 trivial (a1 b1 (a1 b2 (a1 s2 (a1 s3 (a1 s4 (a1 s5 (a1 s6 (a1 b3 (a1 s7 (a1 s8 (a1 s9 (a1 s10 (a1 s11 (a1 b4 (a1 (rfl : Bool.true = Bool.true) trivial))))))))))))))))))) (by kernel_rfl)
            · rw [if_neg b4] at h
              replace b4 := Bool.eq_false_iff.2 b4
              obtain ⟨s12, h⟩ := h
              obtain ⟨s13, s14, h⟩ := h
              obtain ⟨s15, s16, h⟩ := h
              by_cases b5 : (Decidable.decide (Prod.fst (Prod.snd (Prod.snd (List.getD x0 (Int.toNat (v3 - 1)) (0, 0, 0, ())))) > Prod.fst (Prod.snd (Prod.snd (List.getD x0 (Int.toNat v3) (0, 0, 0, ())))))) = true
              · rw [if_pos b5] at h
                subst h
                exact AtV.ret Tryz.func48 tabOk ext48Ok mixed false [] tys48 [true, false, true, false, false, true] (a1 b0 (a1 s0 (a1 s1 (a1 trivial (a1 b1 (a1 b2 (a1 s2 (a1 s3 (a1 s4 (a1 s5 (a1 s6 (a1 b3 (a1 s7 (a1 s8 (a1 s9 (a1 s10 (a1 s11 (a1 b4 (a1 s12 (a1 s13 (a1 s14 (a1 s15 (a1 s16 (a1 b5 trivial)))))))))))))))))))))))) (by kernel_rfl)
              · rw [if_neg b5] at h
                replace b5 := Bool.eq_false_iff.2 b5
                obtain ⟨s17, h⟩ := h
                exact AtV.go tabOk ext48Ok mixed false [] [] [0, 3] [] [true, false, true, false, false, false] (a1 b0 (a1 s0 (a1 s1 (a1 trivial (a1 b1 (a1 b2 (a1 s2 (a1 s3 (a1 s4 (a1 s5 (a1 s6 (a1 b3 (a1 s7 (a1 s8 (a1 s9 (a1 s10 (a1 s11 (a1 b4 (a1 s12 (a1 s13 (a1 s14 (a1 s15 (a1 s16 (a1 b5 (a1 s17 trivial))))))))))))))))))))))))) (ih2 _ _ _ h K q) (by kernel_rfl)
        · rw [if_neg b2] at h
          replace b2 := Bool.eq_false_iff.2 b2
          obtain ⟨s2, h⟩ := h
          exact AtV.go tabOk ext48Ok mixed false [] [] [0, 3] [] [true, false, false, false] (a1 b0 (a1 s0 (a1 s1 (a1 trivial (a1 b1 (a1 b2 (a1 (rfl : Bool.false = Bool.false) (a1 s2 trivial)))))))) (ih2 _ _ _ h K q) (by kernel_rfl)
    · rw [if_neg b0] at h
      replace b0 := Bool.eq_false_iff.2 b0
      subst h
      exact AtV.ret Tryz.func48 tabOk ext48Ok mixed false [] tys48 [false] (a1 b0 trivial) (by kernel_rfl)



def ord48 (y x : (Int × Int × Int × Unit)) : Bool := decide (y.1 < x.1) && decide (y.2.1 ≤ x.2.1) && decide (y.2.2.1 ≤ x.2.2.1)
def ok48 (x0 : List (Int × Int × Int × Unit)) (i : Nat) (x : (Int × Int × Int × Unit)) : Bool := g62_0 x && (i == 0 || ord48 (x0.getD (i - 1) ((0 : Int), (0 : Int), (0 : Int), ())) x)
def g48_0 (x0 : List (Int × Int × Int × Unit)) : Bool := allI (ok48 x0) 0 x0
def P48 (x0 : List (Int × Int × Int × Unit)) : Prop := True

theorem step48 (n i : Nat) (x0 : List (Int × Int × Int × Unit)) (hm : x0.length ≤ maxLen) (hi : i < x0.length) (ds : List Dyn)
    (h : if ok48 x0 i (x0.getD i ((0 : Int), (0 : Int), (0 : Int), ())) = true then R48_2 n ((i : Int) + 1) x0 ds else ds = [⟨.bool, false⟩]) : R48_2 (n + 1) (i : Int) x0 ds := by
  have hu := inR_up hm hi
  have hmx : maxLen ≤ 9223372036854775807 := by decide
  rw [R48_2, if_pos (by simp; omega)]
  refine ⟨by omega, by omega, ?_⟩
  simp only [Int.toNat_natCast]
  unfold ok48 ord48 at h
  by_cases hv : g62_0 (x0.getD i ((0 : Int), (0 : Int), (0 : Int), ())) = true
  case neg => rw [Bool.eq_false_iff.2 hv] at h; rw [if_pos (by rw [Bool.eq_false_iff.2 hv]; rfl)]; simpa using h
  rw [if_neg (by rw [hv]; simp)]
  rw [hv] at h
  by_cases h0 : (i : Int) > 0
  case neg =>
    rw [if_neg (by simpa using h0)]
    have hi0 : (i == 0) = true := by simp; omega
    rw [hi0] at h
    exact ⟨hu, by simpa using h⟩
  rw [if_pos (by simpa using h0)]
  have hi0 : (i == 0) = false := by simp; omega
  have e : ((i : Int) - 1).toNat = i - 1 := by omega
  have hd : InR .i64 ((i : Int) - 1) := by rw [i64_iff]; omega
  rw [hi0] at h
  simp only [e]
  refine ⟨hd, by omega, by omega, by omega, by omega, ?_⟩
  by_cases c0 : (x0.getD (i - 1) ((0 : Int), (0 : Int), (0 : Int), ())).1 ≥ (x0.getD i ((0 : Int), (0 : Int), (0 : Int), ())).1
  case pos =>
    rw [if_pos (decide_eq_true c0)]
    have : decide ((x0.getD (i - 1) ((0 : Int), (0 : Int), (0 : Int), ())).1 < (x0.getD i ((0 : Int), (0 : Int), (0 : Int), ())).1) = false := decide_eq_false (by omega)
    rw [this] at h
    simpa using h
  rw [if_neg (by simpa using c0)]
  refine ⟨hd, by omega, by omega, by omega, by omega, ?_⟩
  by_cases c1 : (x0.getD (i - 1) ((0 : Int), (0 : Int), (0 : Int), ())).2.1 > (x0.getD i ((0 : Int), (0 : Int), (0 : Int), ())).2.1
  case pos =>
    rw [if_pos (decide_eq_true c1)]
    have : decide ((x0.getD (i - 1) ((0 : Int), (0 : Int), (0 : Int), ())).2.1 ≤ (x0.getD i ((0 : Int), (0 : Int), (0 : Int), ())).2.1) = false := decide_eq_false (by omega)
    rw [this] at h
    simpa using h
  rw [if_neg (by simpa using c1)]
  refine ⟨hd, by omega, by omega, by omega, by omega, ?_⟩
  by_cases c2 : (x0.getD (i - 1) ((0 : Int), (0 : Int), (0 : Int), ())).2.2.1 > (x0.getD i ((0 : Int), (0 : Int), (0 : Int), ())).2.2.1
  case pos =>
    rw [if_pos (decide_eq_true c2)]
    have : decide ((x0.getD (i - 1) ((0 : Int), (0 : Int), (0 : Int), ())).2.2.1 ≤ (x0.getD i ((0 : Int), (0 : Int), (0 : Int), ())).2.2.1) = false := decide_eq_false (by omega)
    rw [this] at h
    simpa using h
  rw [if_neg (by simpa using c2)]
  have d0 : decide ((x0.getD (i - 1) ((0 : Int), (0 : Int), (0 : Int), ())).1 < (x0.getD i ((0 : Int), (0 : Int), (0 : Int), ())).1) = true := decide_eq_true (by omega)
  have d1 : decide ((x0.getD (i - 1) ((0 : Int), (0 : Int), (0 : Int), ())).2.1 ≤ (x0.getD i ((0 : Int), (0 : Int), (0 : Int), ())).2.1) = true := decide_eq_true (by omega)
  have d2 : decide ((x0.getD (i - 1) ((0 : Int), (0 : Int), (0 : Int), ())).2.2.1 ≤ (x0.getD i ((0 : Int), (0 : Int), (0 : Int), ())).2.2.1) = true := decide_eq_true (by omega)
  rw [d0, d1, d2] at h
  exact ⟨hu, by simpa using h⟩

theorem top48 (x0 : List (Int × Int × Int × Unit)) (hw : x0.length ≤ maxLen) : R48 (x0.length + 1 + 1) x0 [⟨.bool, g48_0 x0⟩] := by
  rw [R48]
  have key := loop_testI x0 ((0 : Int), (0 : Int), (0 : Int), ()) (ok48 x0) [(⟨.bool, false⟩ : Dyn)] [⟨.bool, true⟩] (fun n i ds => R48_2 n i x0 ds) (fun n => ?_) (fun n i hi hok ds hr => ?_) (fun n i hi hok => ?_)
  · unfold g48_0
    cases h : allI (ok48 x0) 0 x0 with
    | true => rw [if_pos h] at key; simpa using key
    | false => rw [if_neg (by rw [h]; simp)] at key; simpa using key
  · rw [R48_2, if_neg (by simp)]
  · exact step48 n i x0 hw hi ds (by rw [if_pos hok]; exact hr)
  · exact step48 n i x0 hw hi _ (by rw [if_neg (by rw [hok]; simp)])

def S48 : Am.Spec := { sig := sig48, pre := fun ⟨x0, _⟩ => P48 x0, res := fun ⟨x0, _⟩ => [⟨Ty.bool, g48_0 x0⟩] }
theorem con48 : Contract Tryz.prog 48 S48 := contract_of Tryz.func48 hb48 (Nat.le_of_ble_eq_true (by kernel_rfl)) (fun ⟨x0, _⟩ h hwf K q =>
  (snd48 _).1 x0 _ (top48 x0 hwf.1.1) K q)

end
end Go.Proofs.YtbkkdnkbgnhodaaGreatDoor

/- Function 28 (spec.l22Tests): its runs between cut points. Written by a program of this repo (gen). -/
set_option linter.unusedVariables false
set_option linter.unusedSimpArgs false
set_option maxRecDepth 100000
namespace Go.Proofs.YtbkkdnkbgnhodaaGreatDoor
open Go Go.Am Go.Proofs
noncomputable section
def ext28 : Ext := [(48, S48)]
theorem call28_48 : Callable Tryz.prog 48 := ⟨Tryz.f48, Tryz.func48, by kernel_rfl, by kernel_rfl⟩
theorem ext28Ok : ExtOk Tryz.prog ext28 := ⟨⟨call28_48, con48⟩, trivial⟩

noncomputable def b28 : Code := bodyOf Tryz.f28
theorem hb28 : Tryz.f28.body = some b28 := by kernel_rfl
def sig28 : List AT := [AT.v (Ty.sl (Ty.cons (Ty.int IntKind.i64) (Ty.cons (Ty.int IntKind.i64) (Ty.cons (Ty.int IntKind.i64) Ty.unit))))]
def tys28 : List Ty := [Ty.bool]
def kds28 : List RK := []
def oks28 : List AT := owns sig28
def P28 (x0 : List (Int × Int × Int × Unit)) : Prop := True
def g28_0 (x0 : List (Int × Int × Int × Unit)) : Bool := (if (Decidable.decide ((↑(List.length x0) : Int) ≤ 24)) = true then g48_0 x0 else Bool.false)
theorem at28 (x0 : List (Int × Int × Int × Unit)) (h : P28 x0) (K : Ctx) (q : Nat → Value) : AtV Tryz.prog 28 (PostR kds28 oks28 [⟨Ty.bool, g28_0 x0⟩] [] [] q K) 10 K q [] [.code b28] (entE 0 0 sig28 (x0, ())) (entL sig28 (x0, ())) := by
  unfold P28 at h
  unfold g28_0
  by_cases b0 : (Decidable.decide ((↑(List.length x0) : Int) ≤ 24)) = true
  · try simp only [if_pos b0] at h ⊢
    exact AtV.ret Tryz.func28 tabOk ext28Ok mixed false [] tys28 [true] (a1 b0 (a1 trivial trivial)) (by kernel_rfl)
  · try simp only [if_neg b0] at h ⊢
    replace b0 := Bool.eq_false_iff.2 b0
    exact AtV.ret Tryz.func28 tabOk ext28Ok mixed false [] tys28 [false] (a1 b0 trivial) (by kernel_rfl)

def S28 : Am.Spec := { sig := sig28, pre := fun ⟨x0, _⟩ => P28 x0, res := fun ⟨x0, _⟩ => [⟨Ty.bool, g28_0 x0⟩], kds := kds28 }
theorem con28 : Contract Tryz.prog 28 S28 := contract_of Tryz.func28 hb28 (Nat.le_of_ble_eq_true (by kernel_rfl)) (fun ⟨x0, _⟩ h _ K q => at28 x0 h K q)


end
end Go.Proofs.YtbkkdnkbgnhodaaGreatDoor

/- Function 9 (spec.ValidTests): its runs between cut points. Written by a program of this repo (gen). -/
set_option linter.unusedVariables false
set_option linter.unusedSimpArgs false
set_option maxRecDepth 100000
namespace Go.Proofs.YtbkkdnkbgnhodaaGreatDoor
open Go Go.Am Go.Proofs
noncomputable section
def ext9 : Ext := [(28, S28)]
theorem call9_28 : Callable Tryz.prog 28 := ⟨Tryz.f28, Tryz.func28, by kernel_rfl, by kernel_rfl⟩
theorem ext9Ok : ExtOk Tryz.prog ext9 := ⟨⟨call9_28, con28⟩, trivial⟩

noncomputable def b9 : Code := bodyOf Tryz.f9
theorem hb9 : Tryz.f9.body = some b9 := by kernel_rfl
def sig9 : List AT := [AT.v (Ty.sl (Ty.cons (Ty.int IntKind.i64) (Ty.cons (Ty.int IntKind.i64) (Ty.cons (Ty.int IntKind.i64) Ty.unit))))]
def tys9 : List Ty := [Ty.bool]
def kds9 : List RK := []
def oks9 : List AT := owns sig9
def P9 (x0 : List (Int × Int × Int × Unit)) : Prop := True
def g9_0 (x0 : List (Int × Int × Int × Unit)) : Bool := g28_0 x0
theorem at9 (x0 : List (Int × Int × Int × Unit)) (h : P9 x0) (K : Ctx) (q : Nat → Value) : AtV Tryz.prog 9 (PostR kds9 oks9 [⟨Ty.bool, g9_0 x0⟩] [] [] q K) 5 K q [] [.code b9] (entE 0 0 sig9 (x0, ())) (entL sig9 (x0, ())) := by
  unfold P9 at h
  unfold g9_0
  exact AtV.ret Tryz.func9 tabOk ext9Ok mixed false [] tys9 [] (a1 trivial trivial) (by kernel_rfl)

def S9 : Am.Spec := { sig := sig9, pre := fun ⟨x0, _⟩ => P9 x0, res := fun ⟨x0, _⟩ => [⟨Ty.bool, g9_0 x0⟩], kds := kds9 }
theorem con9 : Contract Tryz.prog 9 S9 := contract_of Tryz.func9 hb9 (Nat.le_of_ble_eq_true (by kernel_rfl)) (fun ⟨x0, _⟩ h _ K q => at9 x0 h K q)


end
end Go.Proofs.YtbkkdnkbgnhodaaGreatDoor

/- Function 49 ((*spec.l00Src).one): its runs between cut points. Written by a program of this repo (gen). -/
set_option linter.unusedVariables false
set_option linter.unusedSimpArgs false
set_option maxRecDepth 100000
namespace Go.Proofs.YtbkkdnkbgnhodaaGreatDoor
open Go Go.Am Go.Proofs
noncomputable section
def ext49 : Ext := [(17, S17)]
theorem call49_17 : Callable Tryz.prog 17 := ⟨Tryz.f17, Tryz.func17, by kernel_rfl, by kernel_rfl⟩
theorem ext49Ok : ExtOk Tryz.prog ext49 := ⟨⟨call49_17, con17⟩, trivial⟩

noncomputable def b49 : Code := bodyOf Tryz.f49
theorem hb49 : Tryz.f49.body = some b49 := by kernel_rfl
def sig49 : List AT := [AT.pb (Ty.cons (Ty.sl (Ty.int IntKind.u8)) (Ty.cons (Ty.int IntKind.i64) (Ty.cons (Ty.int IntKind.u64) Ty.unit))), AT.v (Ty.int IntKind.i64)]
def tys49 : List Ty := [Ty.bool]
def kds49 : List RK := []
def oks49 : List AT := owns sig49
def P49 (x0 : List Int × Int × Int × Unit) (x1 : Int) : Prop := ((P17 x0 x1) ∧ True)
def g49_0 (x0 : List Int × Int × Int × Unit) (x1 : Int) : Bool := g17_0 x0 x1 == 0
def u49_0 (x0 : List Int × Int × Int × Unit) (x1 : Int) : List Int × Int × Int × Unit := u17_0 x0 x1
theorem at49 (x0 : List Int × Int × Int × Unit) (x1 : Int) (h : P49 x0 x1) (K : Ctx) (q : Nat → Value) : AtV Tryz.prog 49 (PostR kds49 oks49 [⟨Ty.bool, g49_0 x0 x1⟩] [some ⟨Ty.cons (Ty.sl (Ty.int IntKind.u8)) (Ty.cons (Ty.int IntKind.i64) (Ty.cons (Ty.int IntKind.u64) Ty.unit)), [u49_0 x0 x1]⟩] [0] q K) 9 K q [0] [.code b49] (entE 0 0 sig49 (x0, x1, ())) (entL sig49 (x0, x1, ())) := by
  unfold P49 at h
  unfold g49_0 u49_0
  obtain ⟨s0, h⟩ := h
  exact AtV.weak (AtV.ret (us := [Option.some (Lst.mk (Ty.cons (Ty.sl (Ty.int IntKind.u8)) (Ty.cons (Ty.int IntKind.i64) (Ty.cons (Ty.int IntKind.u64) Ty.unit))) [u17_0 x0 x1])]) Tryz.func49 tabOk ext49Ok mixed false [] tys49 [] (a1 s0 trivial) (by kernel_rfl)) ⟨.inl rfl, trivial⟩

def S49 : Am.Spec := { sig := sig49, pre := fun ⟨x0, x1, _⟩ => P49 x0 x1, upd := fun ⟨x0, x1, _⟩ => [some ⟨Ty.cons (Ty.sl (Ty.int IntKind.u8)) (Ty.cons (Ty.int IntKind.i64) (Ty.cons (Ty.int IntKind.u64) Ty.unit)), [u49_0 x0 x1]⟩], res := fun ⟨x0, x1, _⟩ => [⟨Ty.bool, g49_0 x0 x1⟩], kds := kds49 }
theorem con49 : Contract Tryz.prog 49 S49 := contract_of Tryz.func49 hb49 (Nat.le_of_ble_eq_true (by kernel_rfl)) (fun ⟨x0, x1, _⟩ h _ K q => at49 x0 x1 h K q)


end
end Go.Proofs.YtbkkdnkbgnhodaaGreatDoor

/- Function 29 (spec.l22DrawLimit): its runs between cut points. Written by a program of this repo (gen). -/
set_option linter.unusedVariables false
set_option linter.unusedSimpArgs false
set_option maxRecDepth 100000
namespace Go.Proofs.YtbkkdnkbgnhodaaGreatDoor
open Go Go.Am Go.Proofs
noncomputable section
def ext29 : Ext := [(49, S49), (18, S18), (17, S17)]
theorem call29_49 : Callable Tryz.prog 49 := ⟨Tryz.f49, Tryz.func49, by kernel_rfl, by kernel_rfl⟩
theorem call29_18 : Callable Tryz.prog 18 := ⟨Tryz.f18, Tryz.func18, by kernel_rfl, by kernel_rfl⟩
theorem call29_17 : Callable Tryz.prog 17 := ⟨Tryz.f17, Tryz.func17, by kernel_rfl, by kernel_rfl⟩
theorem ext29Ok : ExtOk Tryz.prog ext29 := ⟨⟨call29_49, con49⟩, ⟨call29_18, con18⟩, ⟨call29_17, con17⟩, trivial⟩

noncomputable def b29 : Code := bodyOf Tryz.f29
theorem hb29 : Tryz.f29.body = some b29 := by kernel_rfl
def sig29 : List AT := [AT.pb (Ty.cons (Ty.sl (Ty.int IntKind.u8)) (Ty.cons (Ty.int IntKind.i64) (Ty.cons (Ty.int IntKind.u64) Ty.unit)))]
def tys29 : List Ty := [Ty.int IntKind.i64]
def kds29 : List RK := []
def oks29 : List AT := owns sig29
def P29 (x0 : List Int × Int × Int × Unit) : Prop := ((P49 x0 8) ∧ (if (g49_0 x0 8) = true then ((P18 (u49_0 x0 8) [-1, 0, 24000, 24001]) ∧ True) else ((P17 (u49_0 x0 8) 120) ∧ True)))
def g29_0 (x0 : List Int × Int × Int × Unit) : Int := (if (g49_0 x0 8) = true then g18_0 (u49_0 x0 8) [-1, 0, 24000, 24001] else g17_0 (u49_0 x0 8) 120)
def u29_0 (x0 : List Int × Int × Int × Unit) : List Int × Int × Int × Unit := (if (g49_0 x0 8) = true then u18_0 (u49_0 x0 8) [-1, 0, 24000, 24001] else u17_0 (u49_0 x0 8) 120)
theorem at29 (x0 : List Int × Int × Int × Unit) (h : P29 x0) (K : Ctx) (q : Nat → Value) : AtV Tryz.prog 29 (PostR kds29 oks29 [⟨Ty.int IntKind.i64, g29_0 x0⟩] [some ⟨Ty.cons (Ty.sl (Ty.int IntKind.u8)) (Ty.cons (Ty.int IntKind.i64) (Ty.cons (Ty.int IntKind.u64) Ty.unit)), [u29_0 x0]⟩] [0] q K) 10 K q [0] [.code b29] (entE 0 0 sig29 (x0, ())) (entL sig29 (x0, ())) := by
  unfold P29 at h
  unfold g29_0 u29_0
  obtain ⟨s0, h⟩ := h
  by_cases b0 : (g49_0 x0 8) = true
  · try simp only [if_pos b0] at h ⊢
    obtain ⟨s1, h⟩ := h
    exact AtV.weak (AtV.ret (us := [Option.some (Lst.mk (Ty.cons (Ty.sl (Ty.int IntKind.u8)) (Ty.cons (Ty.int IntKind.i64) (Ty.cons (Ty.int IntKind.u64) Ty.unit))) [u18_0 (u49_0 x0 8) [-1, 0, 24000, 24001]])]) Tryz.func29 tabOk ext29Ok mixed false [] tys29 [true] (a1 s0 (a1 b0 (a1 s1 trivial))) (by kernel_rfl)) ⟨.inl rfl, trivial⟩
  · try simp only [if_neg b0] at h ⊢
    replace b0 := Bool.eq_false_iff.2 b0
    obtain ⟨s1, h⟩ := h
    exact AtV.weak (AtV.ret (us := [Option.some (Lst.mk (Ty.cons (Ty.sl (Ty.int IntKind.u8)) (Ty.cons (Ty.int IntKind.i64) (Ty.cons (Ty.int IntKind.u64) Ty.unit))) [u17_0 (u49_0 x0 8) 120])]) Tryz.func29 tabOk ext29Ok mixed false [] tys29 [false] (a1 s0 (a1 b0 (a1 s1 trivial))) (by kernel_rfl)) ⟨.inl rfl, trivial⟩

def S29 : Am.Spec := { sig := sig29, pre := fun ⟨x0, _⟩ => P29 x0, upd := fun ⟨x0, _⟩ => [some ⟨Ty.cons (Ty.sl (Ty.int IntKind.u8)) (Ty.cons (Ty.int IntKind.i64) (Ty.cons (Ty.int IntKind.u64) Ty.unit)), [u29_0 x0]⟩], res := fun ⟨x0, _⟩ => [⟨Ty.int IntKind.i64, g29_0 x0⟩], kds := kds29 }
theorem con29 : Contract Tryz.prog 29 S29 := contract_of Tryz.func29 hb29 (Nat.le_of_ble_eq_true (by kernel_rfl)) (fun ⟨x0, _⟩ h _ K q => at29 x0 h K q)


end
end Go.Proofs.YtbkkdnkbgnhodaaGreatDoor

/- Function 10 (spec.DrawNextTest): its runs between cut points. Written by a program of this repo (gen). -/
set_option linter.unusedVariables false
set_option linter.unusedSimpArgs false
set_option maxRecDepth 100000
namespace Go.Proofs.YtbkkdnkbgnhodaaGreatDoor
open Go Go.Am Go.Proofs
noncomputable section
def ext10 : Ext := [(14, S14), (15, S15), (29, S29), (18, S18)]
theorem call10_14 : Callable Tryz.prog 14 := ⟨Tryz.f14, Tryz.func14, by kernel_rfl, by kernel_rfl⟩
theorem call10_15 : Callable Tryz.prog 15 := ⟨Tryz.f15, Tryz.func15, by kernel_rfl, by kernel_rfl⟩
theorem call10_29 : Callable Tryz.prog 29 := ⟨Tryz.f29, Tryz.func29, by kernel_rfl, by kernel_rfl⟩
theorem call10_18 : Callable Tryz.prog 18 := ⟨Tryz.f18, Tryz.func18, by kernel_rfl, by kernel_rfl⟩
theorem ext10Ok : ExtOk Tryz.prog ext10 := ⟨⟨call10_14, con14⟩, ⟨call10_15, con15⟩, ⟨call10_29, con29⟩, ⟨call10_18, con18⟩, trivial⟩

noncomputable def b10 : Code := bodyOf Tryz.f10
theorem hb10 : Tryz.f10.body = some b10 := by kernel_rfl
def sig10 : List AT := [AT.v (Ty.sl (Ty.int IntKind.u8))]
def tys10 : List Ty := [Ty.sl (Ty.cons (Ty.int IntKind.i64) (Ty.cons (Ty.int IntKind.i64) (Ty.cons (Ty.int IntKind.i64) Ty.unit))), Ty.int IntKind.i64, Ty.int IntKind.i64]
def kds10 : List RK := []
def oks10 : List AT := owns sig10
def P10 (x0 : List Int) : Prop := ((P15 (g14_0 x0)) ∧ ((P29 (u15_0 (g14_0 x0))) ∧ ((P18 (u29_0 (u15_0 (g14_0 x0))) [1, 30, 90, 365, 1000, 1001, 0]) ∧ True)))
def g10_0 (x0 : List Int) : List (Int × Int × Int × Unit) := g15_0 (g14_0 x0)
def g10_1 (x0 : List Int) : Int := g29_0 (u15_0 (g14_0 x0))
def g10_2 (x0 : List Int) : Int := g18_0 (u29_0 (u15_0 (g14_0 x0))) [1, 30, 90, 365, 1000, 1001, 0]
theorem at10 (x0 : List Int) (h : P10 x0) (K : Ctx) (q : Nat → Value) : AtV Tryz.prog 10 (PostR kds10 oks10 [⟨Ty.sl (Ty.cons (Ty.int IntKind.i64) (Ty.cons (Ty.int IntKind.i64) (Ty.cons (Ty.int IntKind.i64) Ty.unit))), g10_0 x0⟩, ⟨Ty.int IntKind.i64, g10_1 x0⟩, ⟨Ty.int IntKind.i64, g10_2 x0⟩] [] [] q K) 19 K q [] [.code b10] (entE 0 0 sig10 (x0, ())) (entL sig10 (x0, ())) := by
  unfold P10 at h
  unfold g10_0 g10_1 g10_2
  obtain ⟨s0, h⟩ := h
  obtain ⟨s1, h⟩ := h
  obtain ⟨s2, h⟩ := h
  exact AtV.ret Tryz.func10 tabOk ext10Ok mixed false [] tys10 [] (a1 trivial (a1 s0 (a1 s1 (a1 s2 trivial)))) (by kernel_rfl)

def S10 : Am.Spec := { sig := sig10, pre := fun ⟨x0, _⟩ => P10 x0, res := fun ⟨x0, _⟩ => [⟨Ty.sl (Ty.cons (Ty.int IntKind.i64) (Ty.cons (Ty.int IntKind.i64) (Ty.cons (Ty.int IntKind.i64) Ty.unit))), g10_0 x0⟩, ⟨Ty.int IntKind.i64, g10_1 x0⟩, ⟨Ty.int IntKind.i64, g10_2 x0⟩], kds := kds10 }
theorem con10 : Contract Tryz.prog 10 S10 := contract_of Tryz.func10 hb10 (Nat.le_of_ble_eq_true (by kernel_rfl)) (fun ⟨x0, _⟩ h _ K q => at10 x0 h K q)


end
end Go.Proofs.YtbkkdnkbgnhodaaGreatDoor

/- Function 50 (impl.abs): its runs between cut points. Written by a program of this repo (gen). -/
set_option linter.unusedVariables false
set_option linter.unusedSimpArgs false
set_option maxRecDepth 100000
namespace Go.Proofs.YtbkkdnkbgnhodaaGreatDoor
open Go Go.Am Go.Proofs
noncomputable section
def ext50 : Ext := []
theorem ext50Ok : ExtOk Tryz.prog ext50 := trivial

noncomputable def b50 : Code := bodyOf Tryz.f50
theorem hb50 : Tryz.f50.body = some b50 := by kernel_rfl
def sig50 : List AT := [AT.v (Ty.int IntKind.i64)]
def tys50 : List Ty := [Ty.int IntKind.i64]
def kds50 : List RK := []
def oks50 : List AT := owns sig50
def P50 (x0 : Int) : Prop := (if (Decidable.decide (x0 < 0)) = true then ((InR IntKind.i64 (0 - x0)) ∧ True) else True)
def g50_0 (x0 : Int) : Int := (if (Decidable.decide (x0 < 0)) = true then 0 - x0 else x0)
theorem at50 (x0 : Int) (h : P50 x0) (K : Ctx) (q : Nat → Value) : AtV Tryz.prog 50 (PostR kds50 oks50 [⟨Ty.int IntKind.i64, g50_0 x0⟩] [] [] q K) 8 K q [] [.code b50] (entE 0 0 sig50 (x0, ())) (entL sig50 (x0, ())) := by
  unfold P50 at h
  unfold g50_0
  by_cases b0 : (Decidable.decide (x0 < 0)) = true
  · try simp only [if_pos b0] at h ⊢
    obtain ⟨s0, h⟩ := h
    exact AtV.ret Tryz.func50 tabOk ext50Ok mixed false [] tys50 [true] (a1 b0 (a1 s0 trivial)) (by kernel_rfl)
  · try simp only [if_neg b0] at h ⊢
    replace b0 := Bool.eq_false_iff.2 b0
    exact AtV.ret Tryz.func50 tabOk ext50Ok mixed false [] tys50 [false] (a1 b0 trivial) (by kernel_rfl)

def S50 : Am.Spec := { sig := sig50, pre := fun ⟨x0, _⟩ => P50 x0, res := fun ⟨x0, _⟩ => [⟨Ty.int IntKind.i64, g50_0 x0⟩], kds := kds50 }
theorem con50 : Contract Tryz.prog 50 S50 := contract_of Tryz.func50 hb50 (Nat.le_of_ble_eq_true (by kernel_rfl)) (fun ⟨x0, _⟩ h _ K q => at50 x0 h K q)


end
end Go.Proofs.YtbkkdnkbgnhodaaGreatDoor

/- Function 32 (impl.nearest): its runs between cut points. Written by a program of this repo (gen). -/
set_option linter.unusedVariables false
set_option linter.unusedSimpArgs false
set_option maxRecDepth 100000
namespace Go.Proofs.YtbkkdnkbgnhodaaGreatDoor
open Go Go.Am Go.Proofs
noncomputable section
def ext32 : Ext := [(50, S50)]
theorem call32_50 : Callable Tryz.prog 50 := ⟨Tryz.f50, Tryz.func50, by kernel_rfl, by kernel_rfl⟩
theorem ext32Ok : ExtOk Tryz.prog ext32 := ⟨⟨call32_50, con50⟩, trivial⟩

noncomputable def b32 : Code := bodyOf Tryz.f32
theorem hb32 : Tryz.f32.body = some b32 := by kernel_rfl
def sig32 : List AT := [AT.v (Ty.int IntKind.i64), AT.v (Ty.int IntKind.i64)]
def tys32 : List Ty := [Ty.int IntKind.i64]
def kds32 : List RK := []
def oks32 : List AT := owns sig32
def P32 (x0 : Int) (x1 : Int) : Prop := ((x1 ≠ 0) ∧ (InR IntKind.i64 (Int.tdiv x0 x1)) ∧ ((x1 ≠ 0) ∧ (InR IntKind.i64 (Int.tmod x0 x1)) ∧ ((P50 (Int.tmod x0 x1)) ∧ ((P50 x1) ∧ ((InR IntKind.i64 (g50_0 x1 - g50_0 (Int.tmod x0 x1))) ∧ (if (Decidable.decide (g50_0 (Int.tmod x0 x1) ≥ g50_0 x1 - g50_0 (Int.tmod x0 x1))) = true then (if (!Decidable.decide (x0 < 0) == Decidable.decide (x1 < 0)) = true then ((InR IntKind.i64 (Int.tdiv x0 x1 - 1)) ∧ True) else ((InR IntKind.i64 (Int.tdiv x0 x1 + 1)) ∧ True)) else True))))))
def g32_0 (x0 : Int) (x1 : Int) : Int := (if (Decidable.decide (g50_0 (Int.tmod x0 x1) ≥ g50_0 x1 - g50_0 (Int.tmod x0 x1))) = true then (if (!Decidable.decide (x0 < 0) == Decidable.decide (x1 < 0)) = true then Int.tdiv x0 x1 - 1 else Int.tdiv x0 x1 + 1) else Int.tdiv x0 x1)
theorem at32 (x0 : Int) (x1 : Int) (h : P32 x0 x1) (K : Ctx) (q : Nat → Value) : AtV Tryz.prog 32 (PostR kds32 oks32 [⟨Ty.int IntKind.i64, g32_0 x0 x1⟩] [] [] q K) 30 K q [] [.code b32] (entE 0 0 sig32 (x0, x1, ())) (entL sig32 (x0, x1, ())) := by
  unfold P32 at h
  unfold g32_0
  obtain ⟨s0, s1, h⟩ := h
  obtain ⟨s2, s3, h⟩ := h
  obtain ⟨s4, h⟩ := h
  obtain ⟨s5, h⟩ := h
  obtain ⟨s6, h⟩ := h
  by_cases b0 : (Decidable.decide (g50_0 (Int.tmod x0 x1) ≥ g50_0 x1 - g50_0 (Int.tmod x0 x1))) = true
  · try simp only [if_pos b0] at h ⊢
    by_cases b1 : (!Decidable.decide (x0 < 0) == Decidable.decide (x1 < 0)) = true
    · try simp only [if_pos b1] at h ⊢
      obtain ⟨s7, h⟩ := h
      exact AtV.ret Tryz.func32 tabOk ext32Ok mixed false [] tys32 [true, true] (a1 s0 (a1 s1 (a1 s2 (a1 s3 (a1 s4 (a1 s5 (a1 s6 (a1 b0 (a1 b1 (a1 s7 trivial)))))))))) (by kernel_rfl)
    · try simp only [if_neg b1] at h ⊢
      replace b1 := Bool.eq_false_iff.2 b1
      obtain ⟨s7, h⟩ := h
      exact AtV.ret Tryz.func32 tabOk ext32Ok mixed false [] tys32 [true, false] (a1 s0 (a1 s1 (a1 s2 (a1 s3 (a1 s4 (a1 s5 (a1 s6 (a1 b0 (a1 b1 (a1 s7 trivial)))))))))) (by kernel_rfl)
  · try simp only [if_neg b0] at h ⊢
    replace b0 := Bool.eq_false_iff.2 b0
    exact AtV.ret Tryz.func32 tabOk ext32Ok mixed false [] tys32 [false] (a1 s0 (a1 s1 (a1 s2 (a1 s3 (a1 s4 (a1 s5 (a1 s6 (a1 b0 trivial)))))))) (by kernel_rfl)

def S32 : Am.Spec := { sig := sig32, pre := fun ⟨x0, x1, _⟩ => P32 x0 x1, res := fun ⟨x0, x1, _⟩ => [⟨Ty.int IntKind.i64, g32_0 x0 x1⟩], kds := kds32 }
theorem con32 : Contract Tryz.prog 32 S32 := contract_of Tryz.func32 hb32 (Nat.le_of_ble_eq_true (by kernel_rfl)) (fun ⟨x0, x1, _⟩ h _ K q => at32 x0 x1 h K q)


end
end Go.Proofs.YtbkkdnkbgnhodaaGreatDoor
