/- Several texts in one: the functions that this law reaches, and their laws. -/
import Derived.Test.YtnipkaomdamgaaaZ3A
import Derived.Test.YtnipkaomdamgaaaZ3B
import Derived.Test.YtnipkaomdamgaaaRows
import Derived.KernelRfl
import Derived.Shelf.Vars
import Derived.Shelf.Strings.BuilderK
import Derived.Shelf.Strings.Builder1
import Derived.Lib.SliceRun
import Derived.Laws.AppendOwn
import Derived.WalkKit
import Derived.Deep.LoopGhost
import Derived.Lib.Walk
import Derived.Shelf.RegionOpenPlain
import Derived.Shelf.Strings.BuilderF

/- The types of this program, as the abstract machine reads them. -/
set_option linter.unusedVariables false
set_option linter.unusedSimpArgs false
set_option maxRecDepth 100000
namespace Go.Proofs.Ytnipkaomdamgaaa
open Go Go.Am Go.Proofs
def tab : List TI := [TI.other,
  TI.other,
  TI.scal (Ty.int IntKind.i64),
  TI.scal (Ty.int IntKind.i64),
  TI.scal (Ty.bool),
  TI.scal (Ty.int IntKind.u8),
  TI.scal (Ty.int IntKind.u8),
  TI.struct (Ty.cons (Ty.int IntKind.i64) (Ty.cons (Ty.int IntKind.i64) (Ty.cons Ty.bool (Ty.cons (Ty.int IntKind.u8) Ty.unit)))),
  TI.struct (Ty.cons (Ty.int IntKind.i64) (Ty.cons (Ty.int IntKind.i64) (Ty.cons Ty.bool (Ty.cons (Ty.int IntKind.u8) Ty.unit)))),
  TI.scal (Ty.str),
  TI.scal (Ty.str),
  TI.scal (Ty.str),
  TI.scal (Ty.int IntKind.u64),
  TI.other,
  TI.other,
  TI.other,
  TI.other,
  TI.other,
  TI.other,
  TI.other,
  TI.other,
  TI.scal (Ty.int IntKind.i32),
  TI.slice 9 (Ty.str) 16,
  TI.other,
  TI.other,
  TI.other,
  TI.other,
  TI.other,
  TI.other,
  TI.slice 5 (Ty.int IntKind.u8) 1,
  TI.other,
  TI.other,
  TI.other,
  TI.other,
  TI.other,
  TI.other,
  TI.other,
  TI.other,
  TI.other,
  TI.other,
  TI.other,
  TI.other,
  TI.other,
  TI.other,
  TI.other,
  TI.other,
  TI.other,
  TI.other,
  TI.other,
  TI.other,
  TI.other,
  TI.other,
  TI.scal (Ty.int IntKind.u32),
  TI.scal (Ty.int IntKind.u8),
  TI.scal (Ty.int IntKind.u8),
  TI.other,
  TI.scal (Ty.int IntKind.i32),
  TI.scal (Ty.int IntKind.i32)]

theorem tabOk : TabOk Try.prog tab := tabOk_of_check (by kernel_rfl)
theorem mixed : Try.prog.follows .mixedOrders = true := by kernel_rfl
theorem ginv (W : World) (h : W.ShapedOpen Try.prog)  : GInv W := trivial
end Go.Proofs.Ytnipkaomdamgaaa

/- Function 4 (laws.szStringS): its runs between cut points. Written by a program of this repo (gen). -/
set_option linter.unusedVariables false
set_option linter.unusedSimpArgs false
set_option maxRecDepth 100000
namespace Go.Proofs.Ytnipkaomdamgaaa
open Go Go.Am Go.Proofs
def ext4 : Ext := []
theorem ext4Ok : ExtOk Try.prog ext4 := trivial
/-! Function 4. -/
noncomputable def b4 : Code := bodyOf Try.f4
theorem hb4 : Try.f4.body = some b4 := by kernel_rfl
def sig4 : List AT := [AT.v (Ty.sl Ty.str), AT.v (Ty.int IntKind.i64)]
def tys4 : List Ty := [Ty.int IntKind.i64]
def E4_5 (v1 : Int) (v5 : Int) (x0 : List ByteArray) : Env := [(0, PV.a (Atom.sl Ty.str x0)), (1, PV.a (Atom.val (Value.int IntKind.i64 v1))), (5, PV.a (Atom.val (Value.int IntKind.i64 v5)))]
def L4_5 (v1 : Int) (v5 : Int) (x0 : List ByteArray) : Heap := []
mutual
def R4 : Nat → List ByteArray → Int → List Dyn → Prop
  | 0, _, _, _ => False
  | n + 1, x0, x1, ds => ((InR IntKind.i64 (x1 - (↑(List.length x0) : Int))) ∧ (if (Decidable.decide (x1 - (↑(List.length x0) : Int) < 0)) = true then (ds = [Dyn.mk (Ty.int IntKind.i64) (-1)]) else (R4_5 n (x1 - (↑(List.length x0) : Int)) (0) (x0) ds)))
def R4_5 : Nat → Int → Int → List ByteArray → List Dyn → Prop
  | 0, _, _, _, _ => False
  | n + 1, v1, v5, x0, ds => (if (Decidable.decide (v5 < (↑(List.length x0) : Int))) = true then ((0 ≤ v5) ∧ (v5 < (↑(List.length x0) : Int)) ∧ ((InR IntKind.i64 (v1 - (↑(ByteArray.size (List.getD x0 (Int.toNat v5) ByteArray.empty)) : Int))) ∧ (if (Decidable.decide (v1 - (↑(ByteArray.size (List.getD x0 (Int.toNat v5) ByteArray.empty)) : Int) < 0)) = true then (ds = [Dyn.mk (Ty.int IntKind.i64) (-1)]) else ((InR IntKind.i64 (v5 + 1)) ∧ (R4_5 n (v1 - (↑(ByteArray.size (List.getD x0 (Int.toNat v5) ByteArray.empty)) : Int)) (v5 + 1) (x0) ds))))) else (ds = [Dyn.mk (Ty.int IntKind.i64) v1]))
end
theorem p4_0 (x0 : List ByteArray) (x1 : Int) : runF tab ext4 false 28 [] 2000 [] tys4 Try.f4.results [true] [.code b4] (entE 0 0 sig4 (x0, x1, ())) (entL sig4 (x0, x1, ())) = some ([Dyn.mk (Ty.int IntKind.i64) (-1)], [], [InR IntKind.i64 (x1 - (↑(List.length x0) : Int)), Decidable.decide (x1 - (↑(List.length x0) : Int) < 0) = Bool.true]) := by kernel_rfl
theorem p4_1 (x0 : List ByteArray) (x1 : Int) : Am.runN tab ext4 false 28 [] 2000 [] [] [0, 1, 5] [] [false] [.code b4] (entE 0 0 sig4 (x0, x1, ())) (entL sig4 (x0, x1, ())) = some (cutAt b4 5, E4_5 (x1 - (↑(List.length x0) : Int)) (0) (x0), L4_5 (x1 - (↑(List.length x0) : Int)) (0) (x0), [InR IntKind.i64 (x1 - (↑(List.length x0) : Int)), Decidable.decide (x1 - (↑(List.length x0) : Int) < 0) = Bool.false]) := by kernel_rfl
theorem p4_2 (v1 : Int) (v5 : Int) (x0 : List ByteArray) : runF tab ext4 false 28 [] 2000 [] tys4 Try.f4.results [true, true] (cutAt b4 5) (E4_5 v1 v5 x0) (L4_5 v1 v5 x0) = some ([Dyn.mk (Ty.int IntKind.i64) (-1)], [], [Decidable.decide (v5 < (↑(List.length x0) : Int)) = Bool.true, 0 ≤ v5, v5 < (↑(List.length x0) : Int), InR IntKind.i64 (v1 - (↑(ByteArray.size (List.getD x0 (Int.toNat v5) ByteArray.empty)) : Int)), Decidable.decide (v1 - (↑(ByteArray.size (List.getD x0 (Int.toNat v5) ByteArray.empty)) : Int) < 0) = Bool.true]) := by kernel_rfl
theorem p4_3 (v1 : Int) (v5 : Int) (x0 : List ByteArray) : Am.runN tab ext4 false 28 [] 2000 [] [] [0, 1, 5] [] [true, false] (cutAt b4 5) (E4_5 v1 v5 x0) (L4_5 v1 v5 x0) = some (cutAt b4 5, E4_5 (v1 - (↑(ByteArray.size (List.getD x0 (Int.toNat v5) ByteArray.empty)) : Int)) (v5 + 1) (x0), L4_5 (v1 - (↑(ByteArray.size (List.getD x0 (Int.toNat v5) ByteArray.empty)) : Int)) (v5 + 1) (x0), [Decidable.decide (v5 < (↑(List.length x0) : Int)) = Bool.true, 0 ≤ v5, v5 < (↑(List.length x0) : Int), InR IntKind.i64 (v1 - (↑(ByteArray.size (List.getD x0 (Int.toNat v5) ByteArray.empty)) : Int)), Decidable.decide (v1 - (↑(ByteArray.size (List.getD x0 (Int.toNat v5) ByteArray.empty)) : Int) < 0) = Bool.false, InR IntKind.i64 (v5 + 1)]) := by kernel_rfl
theorem p4_4 (v1 : Int) (v5 : Int) (x0 : List ByteArray) : runF tab ext4 false 28 [] 2000 [] tys4 Try.f4.results [false] (cutAt b4 5) (E4_5 v1 v5 x0) (L4_5 v1 v5 x0) = some ([Dyn.mk (Ty.int IntKind.i64) v1], [], [Decidable.decide (v5 < (↑(List.length x0) : Int)) = Bool.false]) := by kernel_rfl
theorem snd4 : ∀ n, (∀ (x0 : List ByteArray) (x1 : Int) ds, R4 n x0 x1 ds → ∀ w0 O q, AtV Try.prog 4 (PostR ds [] [] q w0 O) 28 w0 O q [] [.code b4] (entE 0 0 sig4 (x0, x1, ())) (entL sig4 (x0, x1, ()))) ∧ (∀ (v1 : Int) (v5 : Int) (x0 : List ByteArray) ds, R4_5 n v1 v5 x0 ds → ∀ w0 O q, AtV Try.prog 4 (PostR ds [] [] q w0 O) 28 w0 O q [] (cutAt b4 5) (E4_5 v1 v5 x0) (L4_5 v1 v5 x0)) := by
  intro n
  induction n with
  | zero => exact ⟨fun _ _ _ h => by simp only [R4] at h, fun _ _ _ _ h => by simp only [R4_5] at h⟩
  | succ n ih =>
  obtain ⟨ih, ih5⟩ := ih
  refine ⟨?_, ?_⟩
  · intro x0 x1 ds h w0 O q
    rw [R4] at h
    obtain ⟨s0, h⟩ := h
    by_cases b0 : (Decidable.decide (x1 - (↑(List.length x0) : Int) < 0)) = true
    · rw [if_pos b0] at h
      subst h
      exact AtV.fin Try.func4 tabOk ext4Ok mixed (p4_0 x0 x1) ⟨s0, b0, trivial⟩
    · rw [if_neg b0] at h
      replace b0 := Bool.eq_false_iff.2 b0
      exact AtV.runN tabOk ext4Ok mixed (p4_1 x0 x1) ⟨s0, b0, trivial⟩ (ih5 _ _ _ _ h w0 O q)

  · intro v1 v5 x0 ds h w0 O q
    rw [R4_5] at h
    by_cases b0 : (Decidable.decide (v5 < (↑(List.length x0) : Int))) = true
    · rw [if_pos b0] at h
      obtain ⟨s0, s1, h⟩ := h
      obtain ⟨s2, h⟩ := h
      by_cases b1 : (Decidable.decide (v1 - (↑(ByteArray.size (List.getD x0 (Int.toNat v5) ByteArray.empty)) : Int) < 0)) = true
      · rw [if_pos b1] at h
        subst h
        exact AtV.fin Try.func4 tabOk ext4Ok mixed (p4_2 v1 v5 x0) ⟨b0, s0, s1, s2, b1, trivial⟩
      · rw [if_neg b1] at h
        replace b1 := Bool.eq_false_iff.2 b1
        obtain ⟨s3, h⟩ := h
        exact AtV.runN tabOk ext4Ok mixed (p4_3 v1 v5 x0) ⟨b0, s0, s1, s2, b1, s3, trivial⟩ (ih5 _ _ _ _ h w0 O q)
    · rw [if_neg b0] at h
      replace b0 := Bool.eq_false_iff.2 b0
      subst h
      exact AtV.fin Try.func4 tabOk ext4Ok mixed (p4_4 v1 v5 x0) ⟨b0, trivial⟩



def szL4 : List ByteArray → Int → Int
  | [], l => l
  | x :: r, l => if l - x.size < 0 then -1 else szL4 r (l - x.size)

theorem szL4_sum : ∀ (xs : List ByteArray) (l : Int), ¬ szL4 xs l < 0 → szL4 xs l = l - sizes xs
  | [], l, _ => by simp [szL4, sizes]
  | x :: r, l, h => by
    simp only [szL4] at h ⊢
    split
    · rename_i hn; rw [if_pos hn] at h; omega
    · rename_i hn
      rw [if_neg hn] at h
      rw [szL4_sum r _ h]
      simp only [sizes]
      omega

def g4_0 (x0 : List ByteArray) (x1 : Int) : Int := if x1 - x0.length < 0 then -1 else szL4 x0 (x1 - x0.length)
def P4 (x0 : List ByteArray) (x1 : Int) : Prop := 0 ≤ x1

/-- What the test of size tells. -/
theorem sz4_sum (x0 : List ByteArray) (x1 : Int) (hg : ¬ g4_0 x0 x1 < 0) : g4_0 x0 x1 = x1 - x0.length - sizes x0 := by
  unfold g4_0 at hg ⊢
  split
  · rename_i h; rw [if_pos h] at hg; omega
  · rename_i h; rw [if_neg h] at hg; rw [szL4_sum _ _ hg]

theorem goL4 : ∀ (xs : List ByteArray) (l : Int), goL (fun (b : Int) (x : ByteArray) => if b - x.size < 0 then Except.error [(⟨.int .i64, -1⟩ : Dyn)] else .ok (b - x.size)) (fun b => [⟨.int .i64, b⟩]) l xs = [⟨.int .i64, szL4 xs l⟩]
  | [], l => rfl
  | x :: r, l => by
    simp only [goL, szL4]
    split
    · rename_i b' h
      split at h
      · cases h
      · rename_i hn
        cases h
        rw [if_neg hn]
        exact goL4 r _
    · rename_i d h
      split at h
      · rename_i hn; cases h; rw [if_pos hn]
      · cases h

theorem top4 (x0 : List ByteArray) (x1 : Int) (hw : Wf (.sl .str) x0) (hi : InR .i64 x1) (h : 0 ≤ x1) : R4 (x0.length + 1 + 1) x0 x1 [⟨Ty.int .i64, g4_0 x0 x1⟩] := by
  have hm' : x0.length ≤ 9223372036854775807 := hw.1
  have hi' := hi
  rw [i64_iff] at hi'
  rw [R4]
  refine ⟨by rw [i64_iff]; omega, ?_⟩
  unfold g4_0
  by_cases hn : x1 - (x0.length : Int) < 0
  · rw [if_pos (by simpa using hn), if_pos hn]
  · rw [if_neg (by simpa using hn), if_neg hn, ← goL4]
    refine loop_all x0 ByteArray.empty _ _ (fun _ b => 0 ≤ b ∧ b ≤ x1) (fun n i b ds => R4_5 n b i x0 ds) ⟨by omega, by omega⟩ ?_ ?_
    · intro n b _
      show R4_5 (n + 1) b x0.length x0 _
      rw [R4_5, if_neg (by simp)]
    · intro n i b hi2 hb
      have hs : (x0.getD i ByteArray.empty).size ≤ 9223372036854775807 := hw.2 _ (mem_getD _ _ _ hi2)
      split
      · rename_i b' hf
        split at hf
        · cases hf
        · rename_i hn
          cases hf
          refine ⟨by omega, fun ds hr => ?_⟩
          rw [R4_5, if_pos (by simp; omega)]
          simp only [Int.toNat_natCast]
          refine ⟨by omega, by omega, by rw [i64_iff]; omega, ?_⟩
          rw [if_neg (by simpa using hn)]
          exact ⟨inR_up hw.1 hi2, hr⟩
      · rename_i ds hf
        split at hf
        · rename_i hn
          cases hf
          rw [R4_5, if_pos (by simp; omega)]
          simp only [Int.toNat_natCast]
          refine ⟨by omega, by omega, by rw [i64_iff]; omega, ?_⟩
          rw [if_pos (by simpa using hn)] <;> trivial
        · cases hf

def S4 : Am.Spec := { sig := sig4, pre := fun ⟨x0, x1, _⟩ => P4 x0 x1, res := fun ⟨x0, x1, _⟩ => [⟨Ty.int .i64, g4_0 x0 x1⟩] }
theorem con4 : Contract Try.prog 4 S4 := contract_of Try.func4 hb4 (Nat.le_of_ble_eq_true (by kernel_rfl)) (fun ⟨x0, x1, _⟩ h hwf w0 O q =>
  (snd4 _).1 x0 x1 _ (top4 x0 x1 hwf.1 hwf.2.1 h) w0 O q)

end Go.Proofs.Ytnipkaomdamgaaa

/- Function 6 (laws.toStringS): its runs between cut points. Written by a program of this repo (gen). -/
set_option linter.unusedVariables false
set_option linter.unusedSimpArgs false
set_option maxRecDepth 100000
namespace Go.Proofs.Ytnipkaomdamgaaa
open Go Go.Am Go.Proofs
def ext6 : Ext := []
theorem ext6Ok : ExtOk Try.prog ext6 := trivial
/-! Function 6. -/
noncomputable def b6 : Code := bodyOf Try.f6
theorem hb6 : Try.f6.body = some b6 := by kernel_rfl
def sig6 : List AT := [AT.v (Ty.sl Ty.str)]
def tys6 : List Ty := [Ty.sl Ty.str]
def E6_3 (v4 : Int) (h0 : List ByteArray) (x0 : List ByteArray) : Env := [(0, PV.a (Atom.sl Ty.str x0)), (3, PV.a (Atom.osl 0 Option.none)), (4, PV.a (Atom.val (Value.int IntKind.i64 v4)))]
def L6_3 (v4 : Int) (h0 : List ByteArray) (x0 : List ByteArray) : Heap := [Option.some (Arr.mk Ty.str h0 Bool.false)]
mutual
def R6 : Nat → List ByteArray → List Dyn → Prop
  | 0, _, _ => False
  | n + 1, x0, ds => ((0 ≤ (↑(List.length x0) : Int)) ∧ ((↑(List.length x0) : Int) ≤ (↑(List.length x0) : Int)) ∧ (16 * (↑(List.length x0) : Int) ≤ 281474976710656) ∧ (R6_3 n (0) (List.replicate (Int.toNat (↑(List.length x0) : Int)) ByteArray.empty) (x0) ds))
def R6_3 : Nat → Int → List ByteArray → List ByteArray → List Dyn → Prop
  | 0, _, _, _, _ => False
  | n + 1, v4, h0, x0, ds => (if (Decidable.decide (v4 < (↑(List.length x0) : Int))) = true then ((0 ≤ v4) ∧ (v4 < (↑(List.length x0) : Int)) ∧ ((0 ≤ v4) ∧ (v4 < (↑(List.length h0) : Int)) ∧ ((InR IntKind.i64 (v4 + 1)) ∧ (R6_3 n (v4 + 1) (List.set h0 (Int.toNat v4) (List.getD x0 (Int.toNat v4) ByteArray.empty)) (x0) ds)))) else (ds = [Dyn.mk (Ty.sl Ty.str) h0]))
end
theorem p6_0 (x0 : List ByteArray) : Am.runN tab ext6 false 22 [] 2000 [] [] [0, 3, 4] [0] [] [.code b6] (entE 0 0 sig6 (x0, ())) (entL sig6 (x0, ())) = some (cutAt b6 3, E6_3 (0) (List.replicate (Int.toNat (↑(List.length x0) : Int)) ByteArray.empty) (x0), L6_3 (0) (List.replicate (Int.toNat (↑(List.length x0) : Int)) ByteArray.empty) (x0), [0 ≤ (↑(List.length x0) : Int), (↑(List.length x0) : Int) ≤ (↑(List.length x0) : Int), 16 * (↑(List.length x0) : Int) ≤ 281474976710656]) := by kernel_rfl
theorem p6_1 (v4 : Int) (h0 : List ByteArray) (x0 : List ByteArray) : Am.runN tab ext6 false 22 [] 2000 [] [] [0, 3, 4] [0] [true] (cutAt b6 3) (E6_3 v4 h0 x0) (L6_3 v4 h0 x0) = some (cutAt b6 3, E6_3 (v4 + 1) (List.set h0 (Int.toNat v4) (List.getD x0 (Int.toNat v4) ByteArray.empty)) (x0), L6_3 (v4 + 1) (List.set h0 (Int.toNat v4) (List.getD x0 (Int.toNat v4) ByteArray.empty)) (x0), [Decidable.decide (v4 < (↑(List.length x0) : Int)) = Bool.true, 0 ≤ v4, v4 < (↑(List.length x0) : Int), 0 ≤ v4, v4 < (↑(List.length h0) : Int), InR IntKind.i64 (v4 + 1)]) := by kernel_rfl
theorem p6_2 (v4 : Int) (h0 : List ByteArray) (x0 : List ByteArray) : runF tab ext6 false 22 [] 2000 [] tys6 Try.f6.results [false] (cutAt b6 3) (E6_3 v4 h0 x0) (L6_3 v4 h0 x0) = some ([Dyn.mk (Ty.sl Ty.str) h0], [], [Decidable.decide (v4 < (↑(List.length x0) : Int)) = Bool.false]) := by kernel_rfl
theorem snd6 : ∀ n, (∀ (x0 : List ByteArray) ds, R6 n x0 ds → ∀ w0 O q, AtV Try.prog 6 (PostR ds [] [] q w0 O) 22 w0 O q [] [.code b6] (entE 0 0 sig6 (x0, ())) (entL sig6 (x0, ()))) ∧ (∀ (v4 : Int) (h0 : List ByteArray) (x0 : List ByteArray) ds, R6_3 n v4 h0 x0 ds → ∀ w0 O q, AtV Try.prog 6 (PostR ds [] [] q w0 O) 22 w0 O q [] (cutAt b6 3) (E6_3 v4 h0 x0) (L6_3 v4 h0 x0)) := by
  intro n
  induction n with
  | zero => exact ⟨fun _ _ h => by simp only [R6] at h, fun _ _ _ _ h => by simp only [R6_3] at h⟩
  | succ n ih =>
  obtain ⟨ih, ih3⟩ := ih
  refine ⟨?_, ?_⟩
  · intro x0 ds h w0 O q
    rw [R6] at h
    obtain ⟨s0, s1, s2, h⟩ := h
    exact AtV.runN tabOk ext6Ok mixed (p6_0 x0) ⟨s0, s1, s2, trivial⟩ (ih3 _ _ _ _ h w0 O q)

  · intro v4 h0 x0 ds h w0 O q
    rw [R6_3] at h
    by_cases b0 : (Decidable.decide (v4 < (↑(List.length x0) : Int))) = true
    · rw [if_pos b0] at h
      obtain ⟨s0, s1, h⟩ := h
      obtain ⟨s2, s3, h⟩ := h
      obtain ⟨s4, h⟩ := h
      exact AtV.runN tabOk ext6Ok mixed (p6_1 v4 h0 x0) ⟨b0, s0, s1, s2, s3, s4, trivial⟩ (ih3 _ _ _ _ h w0 O q)
    · rw [if_neg b0] at h
      replace b0 := Bool.eq_false_iff.2 b0
      subst h
      exact AtV.fin Try.func6 tabOk ext6Ok mixed (p6_2 v4 h0 x0) ⟨b0, trivial⟩



theorem run6 (x0 : List ByteArray) (hm : x0.length ≤ maxLen) : ∀ (k i : Nat), i + k = x0.length →
    R6_3 (k + 1) (i : Int) (x0.take i ++ List.replicate k ByteArray.empty) x0 [⟨.sl .str, x0⟩] := by
  intro k
  induction k with
  | zero =>
    intro i hi
    rw [R6_3, if_neg (by simp; omega), List.take_of_length_le (by omega)]
    simp
  | succ k ih =>
    intro i hi
    rw [R6_3, if_pos (by simp; omega)]
    simp only [Int.toNat_natCast]
    refine ⟨by omega, by omega, by omega, by simp; omega, inR_up hm (by omega), ?_⟩
    have hs := set_step x0 ByteArray.empty i (by omega) (k + 1) (by omega)
    rw [hs]
    exact ih (i + 1) (by omega)

def g6_0 (x0 : List ByteArray) : List ByteArray := x0
def P6 (x0 : List ByteArray) : Prop := 16 * (x0.length : Int) ≤ 281474976710656
def S6 : Am.Spec := { sig := sig6, pre := fun ⟨x0, _⟩ => P6 x0, res := fun ⟨x0, _⟩ => [⟨.sl .str, g6_0 x0⟩] }
theorem con6 : Contract Try.prog 6 S6 := contract_of Try.func6 hb6 (Nat.le_of_ble_eq_true (by kernel_rfl)) (fun ⟨x0, _⟩ h hwf w0 O q => by
  refine (snd6 (x0.length + 2)).1 x0 _ ?_ w0 O q
  show R6 (x0.length + 1 + 1) x0 [⟨.sl .str, x0⟩]
  rw [R6]
  refine ⟨by omega, by omega, h, ?_⟩
  have := run6 x0 hwf.1.1 x0.length 0 (by omega)
  simpa using this)

end Go.Proofs.Ytnipkaomdamgaaa

/- Function 14 (spec.l30Line): its runs between cut points. Written by a program of this repo (gen). -/
set_option linter.unusedVariables false
set_option linter.unusedSimpArgs false
set_option maxRecDepth 100000
namespace Go.Proofs.Ytnipkaomdamgaaa
open Go Go.Am Go.Proofs
def ext14 : Ext := []
theorem ext14Ok : ExtOk Try.prog ext14 := trivial
/-! Function 14. -/
noncomputable def b14 : Code := bodyOf Try.f14
theorem hb14 : Try.f14.body = some b14 := by kernel_rfl
def sig14 : List AT := [AT.v (Ty.str)]
def tys14 : List Ty := [Ty.bool]
def E14_2 (v3 : Int) (x0 : ByteArray) : Env := [(0, PV.a (Atom.val (Value.string x0))), (3, PV.a (Atom.val (Value.int IntKind.i64 v3)))]
def L14_2 (v3 : Int) (x0 : ByteArray) : Heap := []
mutual
def R14 : Nat → ByteArray → List Dyn → Prop
  | 0, _, _ => False
  | n + 1, x0, ds => (R14_2 n (0) (x0) ds)
def R14_2 : Nat → Int → ByteArray → List Dyn → Prop
  | 0, _, _, _ => False
  | n + 1, v3, x0, ds => (if (Decidable.decide (v3 < (↑(ByteArray.size x0) : Int))) = true then ((0 ≤ v3) ∧ (v3 < (↑(ByteArray.size x0) : Int)) ∧ (if (Decidable.decide ((↑(UInt8.toNat (List.getD (Array.toList (ByteArray.data x0)) (Int.toNat v3) 0)) : Int) < 32)) = true then (ds = [Dyn.mk Ty.bool Bool.false]) else ((0 ≤ v3) ∧ (v3 < (↑(ByteArray.size x0) : Int)) ∧ (if (Decidable.decide ((↑(UInt8.toNat (List.getD (Array.toList (ByteArray.data x0)) (Int.toNat v3) 0)) : Int) > 126)) = true then (ds = [Dyn.mk Ty.bool Bool.false]) else ((InR IntKind.i64 (v3 + 1)) ∧ (R14_2 n (v3 + 1) (x0) ds)))))) else (ds = [Dyn.mk Ty.bool (Decidable.decide ((↑(ByteArray.size x0) : Int) ≤ 100))]))
end
theorem p14_0 (x0 : ByteArray) : Am.runN tab ext14 false 23 [] 2000 [] [] [0, 3] [] [] [.code b14] (entE 0 0 sig14 (x0, ())) (entL sig14 (x0, ())) = some (cutAt b14 2, E14_2 (0) (x0), L14_2 (0) (x0), []) := by kernel_rfl
theorem p14_1 (v3 : Int) (x0 : ByteArray) : runF tab ext14 false 23 [] 2000 [] tys14 Try.f14.results [true, true, true] (cutAt b14 2) (E14_2 v3 x0) (L14_2 v3 x0) = some ([Dyn.mk Ty.bool Bool.false], [], [Decidable.decide (v3 < (↑(ByteArray.size x0) : Int)) = Bool.true, 0 ≤ v3, v3 < (↑(ByteArray.size x0) : Int), Decidable.decide ((↑(UInt8.toNat (List.getD (Array.toList (ByteArray.data x0)) (Int.toNat v3) 0)) : Int) < 32) = Bool.true, Bool.true = Bool.true]) := by kernel_rfl
theorem p14_2 (v3 : Int) (x0 : ByteArray) : runF tab ext14 false 23 [] 2000 [] tys14 Try.f14.results [true, false, true] (cutAt b14 2) (E14_2 v3 x0) (L14_2 v3 x0) = some ([Dyn.mk Ty.bool Bool.false], [], [Decidable.decide (v3 < (↑(ByteArray.size x0) : Int)) = Bool.true, 0 ≤ v3, v3 < (↑(ByteArray.size x0) : Int), Decidable.decide ((↑(UInt8.toNat (List.getD (Array.toList (ByteArray.data x0)) (Int.toNat v3) 0)) : Int) < 32) = Bool.false, 0 ≤ v3, v3 < (↑(ByteArray.size x0) : Int), Decidable.decide ((↑(UInt8.toNat (List.getD (Array.toList (ByteArray.data x0)) (Int.toNat v3) 0)) : Int) > 126) = Bool.true]) := by kernel_rfl
theorem p14_3 (v3 : Int) (x0 : ByteArray) : Am.runN tab ext14 false 23 [] 2000 [] [] [0, 3] [] [true, false, false] (cutAt b14 2) (E14_2 v3 x0) (L14_2 v3 x0) = some (cutAt b14 2, E14_2 (v3 + 1) (x0), L14_2 (v3 + 1) (x0), [Decidable.decide (v3 < (↑(ByteArray.size x0) : Int)) = Bool.true, 0 ≤ v3, v3 < (↑(ByteArray.size x0) : Int), Decidable.decide ((↑(UInt8.toNat (List.getD (Array.toList (ByteArray.data x0)) (Int.toNat v3) 0)) : Int) < 32) = Bool.false, 0 ≤ v3, v3 < (↑(ByteArray.size x0) : Int), Decidable.decide ((↑(UInt8.toNat (List.getD (Array.toList (ByteArray.data x0)) (Int.toNat v3) 0)) : Int) > 126) = Bool.false, InR IntKind.i64 (v3 + 1)]) := by kernel_rfl
theorem p14_4 (v3 : Int) (x0 : ByteArray) : runF tab ext14 false 23 [] 2000 [] tys14 Try.f14.results [false] (cutAt b14 2) (E14_2 v3 x0) (L14_2 v3 x0) = some ([Dyn.mk Ty.bool (Decidable.decide ((↑(ByteArray.size x0) : Int) ≤ 100))], [], [Decidable.decide (v3 < (↑(ByteArray.size x0) : Int)) = Bool.false]) := by kernel_rfl
theorem snd14 : ∀ n, (∀ (x0 : ByteArray) ds, R14 n x0 ds → ∀ w0 O q, AtV Try.prog 14 (PostR ds [] [] q w0 O) 23 w0 O q [] [.code b14] (entE 0 0 sig14 (x0, ())) (entL sig14 (x0, ()))) ∧ (∀ (v3 : Int) (x0 : ByteArray) ds, R14_2 n v3 x0 ds → ∀ w0 O q, AtV Try.prog 14 (PostR ds [] [] q w0 O) 23 w0 O q [] (cutAt b14 2) (E14_2 v3 x0) (L14_2 v3 x0)) := by
  intro n
  induction n with
  | zero => exact ⟨fun _ _ h => by simp only [R14] at h, fun _ _ _ h => by simp only [R14_2] at h⟩
  | succ n ih =>
  obtain ⟨ih, ih2⟩ := ih
  refine ⟨?_, ?_⟩
  · intro x0 ds h w0 O q
    rw [R14] at h
    exact AtV.runN tabOk ext14Ok mixed (p14_0 x0) trivial (ih2 _ _ _ h w0 O q)

  · intro v3 x0 ds h w0 O q
    rw [R14_2] at h
    by_cases b0 : (Decidable.decide (v3 < (↑(ByteArray.size x0) : Int))) = true
    · rw [if_pos b0] at h
      obtain ⟨s0, s1, h⟩ := h
      by_cases b1 : (Decidable.decide ((↑(UInt8.toNat (List.getD (Array.toList (ByteArray.data x0)) (Int.toNat v3) 0)) : Int) < 32)) = true
      · rw [if_pos b1] at h
        subst h
        exact AtV.fin Try.func14 tabOk ext14Ok mixed (p14_1 v3 x0) ⟨b0, s0, s1, b1, rfl, trivial⟩
      · rw [if_neg b1] at h
        replace b1 := Bool.eq_false_iff.2 b1
        obtain ⟨s2, s3, h⟩ := h
        by_cases b2 : (Decidable.decide ((↑(UInt8.toNat (List.getD (Array.toList (ByteArray.data x0)) (Int.toNat v3) 0)) : Int) > 126)) = true
        · rw [if_pos b2] at h
          subst h
          exact AtV.fin Try.func14 tabOk ext14Ok mixed (p14_2 v3 x0) ⟨b0, s0, s1, b1, s2, s3, b2, trivial⟩
        · rw [if_neg b2] at h
          replace b2 := Bool.eq_false_iff.2 b2
          obtain ⟨s4, h⟩ := h
          exact AtV.runN tabOk ext14Ok mixed (p14_3 v3 x0) ⟨b0, s0, s1, b1, s2, s3, b2, s4, trivial⟩ (ih2 _ _ _ h w0 O q)
    · rw [if_neg b0] at h
      replace b0 := Bool.eq_false_iff.2 b0
      subst h
      exact AtV.fin Try.func14 tabOk ext14Ok mixed (p14_4 v3 x0) ⟨b0, trivial⟩



/-- A byte of a line. -/
def ok14 (b : Int) : Bool := decide (32 ≤ b) && decide (b ≤ 126)
def g14_0 (x0 : ByteArray) : Bool := (bytesOf x0).all ok14 && decide (x0.size ≤ 100)
def P14 (x0 : ByteArray) : Prop := True

theorem top14 (x0 : ByteArray) (hw : Wf .str x0) : R14 (x0.size + 1 + 1) x0 [⟨.bool, g14_0 x0⟩] := by
  have hl := bytesOf_length x0
  rw [R14]
  have key := loop_test (bytesOf x0) 0 ok14 [(⟨.bool, false⟩ : Dyn)] [⟨.bool, decide (x0.size ≤ 100)⟩] (fun n i ds => R14_2 n i x0 ds) (fun n => ?_) (fun n i hi hok ds hr => ?_) (fun n i hi hok => ?_)
  · rw [hl] at key
    unfold g14_0
    cases h : (bytesOf x0).all ok14 <;> rw [h] at key <;> simpa using key
  · show R14_2 (n + 1) ((bytesOf x0).length : Int) x0 _
    rw [R14_2, hl, if_neg (by simp)]
    simp only [Dyn.mk.injEq, heq_eq_eq, true_and, List.cons.injEq, and_true]
    congr 1
    exact propext ⟨fun h => by omega, fun h => by omega⟩
  · simp only [ok14, Bool.and_eq_true, decide_eq_true_eq] at hok
    rw [R14_2, if_pos (by simp; omega)]
    simp only [Int.toNat_natCast, byte_get]
    generalize (bytesOf x0).getD i 0 = c at *
    refine ⟨by omega, by omega, ?_⟩
    rw [if_neg (by simp only [decide_eq_true_eq]; omega)]
    refine ⟨by omega, by omega, ?_⟩
    rw [if_neg (by simp only [decide_eq_true_eq]; omega)]
    exact ⟨inR_up (xs := bytesOf x0) (by rw [hl]; exact hw) hi, hr⟩
  · simp only [ok14, Bool.and_eq_false_iff, decide_eq_false_iff_not] at hok
    rw [R14_2, if_pos (by simp; omega)]
    simp only [Int.toNat_natCast, byte_get]
    generalize (bytesOf x0).getD i 0 = c at *
    refine ⟨by omega, by omega, ?_⟩
    by_cases h1 : c < 32
    · rw [if_pos (by simpa using h1)] <;> trivial
    · rw [if_neg (by simpa using h1)]
      refine ⟨by omega, by omega, ?_⟩
      rw [if_pos (by simp only [decide_eq_true_eq]; omega)] <;> trivial

def S14 : Am.Spec := { sig := sig14, pre := fun ⟨x0, _⟩ => P14 x0, res := fun ⟨x0, _⟩ => [⟨Ty.bool, g14_0 x0⟩] }
theorem con14 : Contract Try.prog 14 S14 := contract_of Try.func14 hb14 (Nat.le_of_ble_eq_true (by kernel_rfl)) (fun ⟨x0, _⟩ h hwf w0 O q =>
  (snd14 _).1 x0 _ (top14 x0 hwf.1) w0 O q)

end Go.Proofs.Ytnipkaomdamgaaa

/- Function 9 (spec.l30Ok): its runs between cut points. Written by a program of this repo (gen). -/
set_option linter.unusedVariables false
set_option linter.unusedSimpArgs false
set_option maxRecDepth 100000
namespace Go.Proofs.Ytnipkaomdamgaaa
open Go Go.Am Go.Proofs
def ext9 : Ext := [(14, S14)]
theorem call9_14 : Callable Try.prog 14 := ⟨Try.f14, Try.func14, by kernel_rfl, by kernel_rfl⟩
theorem ext9Ok : ExtOk Try.prog ext9 := ⟨⟨call9_14, con14⟩, trivial⟩
/-! Function 9. -/
noncomputable def b9 : Code := bodyOf Try.f9
theorem hb9 : Try.f9.body = some b9 := by kernel_rfl
def sig9 : List AT := [AT.v (Ty.sl Ty.str)]
def tys9 : List Ty := [Ty.bool]
def E9_2 (v3 : Int) (x0 : List ByteArray) : Env := [(0, PV.a (Atom.sl Ty.str x0)), (3, PV.a (Atom.val (Value.int IntKind.i64 v3)))]
def L9_2 (v3 : Int) (x0 : List ByteArray) : Heap := []
mutual
def R9 : Nat → List ByteArray → List Dyn → Prop
  | 0, _, _ => False
  | n + 1, x0, ds => (R9_2 n (0) (x0) ds)
def R9_2 : Nat → Int → List ByteArray → List Dyn → Prop
  | 0, _, _, _ => False
  | n + 1, v3, x0, ds => (if (Decidable.decide (v3 < (↑(List.length x0) : Int))) = true then ((0 ≤ v3) ∧ (v3 < (↑(List.length x0) : Int)) ∧ (if (!g14_0 (List.getD x0 (Int.toNat v3) ByteArray.empty)) = true then (ds = [Dyn.mk Ty.bool Bool.false]) else ((InR IntKind.i64 (v3 + 1)) ∧ (R9_2 n (v3 + 1) (x0) ds)))) else (ds = [Dyn.mk Ty.bool (Decidable.decide ((↑(List.length x0) : Int) ≤ 200))]))
end
theorem p9_0 (x0 : List ByteArray) : Am.runN tab ext9 false 19 [] 2000 [] [] [0, 3] [] [] [.code b9] (entE 0 0 sig9 (x0, ())) (entL sig9 (x0, ())) = some (cutAt b9 2, E9_2 (0) (x0), L9_2 (0) (x0), []) := by kernel_rfl
theorem p9_1 (v3 : Int) (x0 : List ByteArray) : runF tab ext9 false 19 [] 2000 [] tys9 Try.f9.results [true, true] (cutAt b9 2) (E9_2 v3 x0) (L9_2 v3 x0) = some ([Dyn.mk Ty.bool Bool.false], [], [Decidable.decide (v3 < (↑(List.length x0) : Int)) = Bool.true, 0 ≤ v3, v3 < (↑(List.length x0) : Int), True, (!g14_0 (List.getD x0 (Int.toNat v3) ByteArray.empty)) = Bool.true]) := by kernel_rfl
theorem p9_2 (v3 : Int) (x0 : List ByteArray) : Am.runN tab ext9 false 19 [] 2000 [] [] [0, 3] [] [true, false] (cutAt b9 2) (E9_2 v3 x0) (L9_2 v3 x0) = some (cutAt b9 2, E9_2 (v3 + 1) (x0), L9_2 (v3 + 1) (x0), [Decidable.decide (v3 < (↑(List.length x0) : Int)) = Bool.true, 0 ≤ v3, v3 < (↑(List.length x0) : Int), True, (!g14_0 (List.getD x0 (Int.toNat v3) ByteArray.empty)) = Bool.false, InR IntKind.i64 (v3 + 1)]) := by kernel_rfl
theorem p9_3 (v3 : Int) (x0 : List ByteArray) : runF tab ext9 false 19 [] 2000 [] tys9 Try.f9.results [false] (cutAt b9 2) (E9_2 v3 x0) (L9_2 v3 x0) = some ([Dyn.mk Ty.bool (Decidable.decide ((↑(List.length x0) : Int) ≤ 200))], [], [Decidable.decide (v3 < (↑(List.length x0) : Int)) = Bool.false]) := by kernel_rfl
theorem snd9 : ∀ n, (∀ (x0 : List ByteArray) ds, R9 n x0 ds → ∀ w0 O q, AtV Try.prog 9 (PostR ds [] [] q w0 O) 19 w0 O q [] [.code b9] (entE 0 0 sig9 (x0, ())) (entL sig9 (x0, ()))) ∧ (∀ (v3 : Int) (x0 : List ByteArray) ds, R9_2 n v3 x0 ds → ∀ w0 O q, AtV Try.prog 9 (PostR ds [] [] q w0 O) 19 w0 O q [] (cutAt b9 2) (E9_2 v3 x0) (L9_2 v3 x0)) := by
  intro n
  induction n with
  | zero => exact ⟨fun _ _ h => by simp only [R9] at h, fun _ _ _ h => by simp only [R9_2] at h⟩
  | succ n ih =>
  obtain ⟨ih, ih2⟩ := ih
  refine ⟨?_, ?_⟩
  · intro x0 ds h w0 O q
    rw [R9] at h
    exact AtV.runN tabOk ext9Ok mixed (p9_0 x0) trivial (ih2 _ _ _ h w0 O q)

  · intro v3 x0 ds h w0 O q
    rw [R9_2] at h
    by_cases b0 : (Decidable.decide (v3 < (↑(List.length x0) : Int))) = true
    · rw [if_pos b0] at h
      obtain ⟨s0, s1, h⟩ := h
      by_cases b1 : (!g14_0 (List.getD x0 (Int.toNat v3) ByteArray.empty)) = true
      · rw [if_pos b1] at h
        subst h
        exact AtV.fin Try.func9 tabOk ext9Ok mixed (p9_1 v3 x0) ⟨b0, s0, s1, trivial, b1, trivial⟩
      · rw [if_neg b1] at h
        replace b1 := Bool.eq_false_iff.2 b1
        obtain ⟨s2, h⟩ := h
        exact AtV.runN tabOk ext9Ok mixed (p9_2 v3 x0) ⟨b0, s0, s1, trivial, b1, s2, trivial⟩ (ih2 _ _ _ h w0 O q)
    · rw [if_neg b0] at h
      replace b0 := Bool.eq_false_iff.2 b0
      subst h
      exact AtV.fin Try.func9 tabOk ext9Ok mixed (p9_3 v3 x0) ⟨b0, trivial⟩



def g9_0 (x0 : List ByteArray) : Bool := x0.all g14_0 && decide (x0.length ≤ 200)
def P9 (x0 : List ByteArray) : Prop := True

theorem top9 (x0 : List ByteArray) (hw : Wf (.sl .str) x0) : R9 (x0.length + 1 + 1) x0 [⟨.bool, g9_0 x0⟩] := by
  rw [R9]
  have key := loop_test x0 ByteArray.empty g14_0 [(⟨.bool, false⟩ : Dyn)] [⟨.bool, decide (x0.length ≤ 200)⟩] (fun n i ds => R9_2 n i x0 ds) (fun n => ?_) (fun n i hi hok ds hr => ?_) (fun n i hi hok => ?_)
  · unfold g9_0
    cases h : x0.all g14_0 <;> rw [h] at key <;> simpa using key
  · rw [R9_2, if_neg (by simp)]
    simp only [Dyn.mk.injEq, heq_eq_eq, true_and, List.cons.injEq, and_true]
    congr 1
    exact propext ⟨fun h => by omega, fun h => by omega⟩
  · rw [R9_2, if_pos (by simp; omega)]
    simp only [Int.toNat_natCast]
    refine ⟨by omega, by omega, ?_⟩
    rw [if_neg (by rw [hok]; simp)]
    exact ⟨inR_up hw.1 hi, hr⟩
  · rw [R9_2, if_pos (by simp; omega)]
    simp only [Int.toNat_natCast]
    refine ⟨by omega, by omega, ?_⟩
    rw [if_pos (by rw [hok]; simp)] <;> trivial

def S9 : Am.Spec := { sig := sig9, pre := fun ⟨x0, _⟩ => P9 x0, res := fun ⟨x0, _⟩ => [⟨Ty.bool, g9_0 x0⟩] }
theorem con9 : Contract Try.prog 9 S9 := contract_of Try.func9 hb9 (Nat.le_of_ble_eq_true (by kernel_rfl)) (fun ⟨x0, _⟩ h hwf w0 O q =>
  (snd9 _).1 x0 _ (top9 x0 hwf.1) w0 O q)

end Go.Proofs.Ytnipkaomdamgaaa

/- Function 10 (spec.l30Text): its runs between cut points. Written by a program of this repo (gen). -/
set_option linter.unusedVariables false
set_option linter.unusedSimpArgs false
set_option maxRecDepth 100000
namespace Go.Proofs.Ytnipkaomdamgaaa
open Go Go.Am Go.Proofs
def ext10 : Ext := []
theorem ext10Ok : ExtOk Try.prog ext10 := trivial
/-! Function 10. -/
noncomputable def b10 : Code := bodyOf Try.f10
theorem hb10 : Try.f10.body = some b10 := by kernel_rfl
def sig10 : List AT := [AT.v (Ty.sl Ty.str)]
def tys10 : List Ty := [Ty.str]
def E10_3 (v3 : ByteArray) (v4 : Int) (x0 : List ByteArray) : Env := [(0, PV.a (Atom.sl Ty.str x0)), (3, PV.a (Atom.val (Value.string v3))), (4, PV.a (Atom.val (Value.int IntKind.i64 v4)))]
def L10_3 (v3 : ByteArray) (v4 : Int) (x0 : List ByteArray) : Heap := []
mutual
def R10 : Nat → List ByteArray → List Dyn → Prop
  | 0, _, _ => False
  | n + 1, x0, ds => (R10_3 n (ByteArray.mk #[]) (0) (x0) ds)
def R10_3 : Nat → ByteArray → Int → List ByteArray → List Dyn → Prop
  | 0, _, _, _, _ => False
  | n + 1, v3, v4, x0, ds => (if (Decidable.decide (v4 < (↑(List.length x0) : Int))) = true then ((0 ≤ v4) ∧ (v4 < (↑(List.length x0) : Int)) ∧ ((ByteArray.size (List.getD x0 (Int.toNat v4) ByteArray.empty) + 1 ≤ 9223372036854775807) ∧ ((ByteArray.size v3 + ByteArray.size (List.getD x0 (Int.toNat v4) ByteArray.empty ++ ByteArray.mk #[10]) ≤ 9223372036854775807) ∧ ((InR IntKind.i64 (v4 + 1)) ∧ (R10_3 n (v3 ++ (List.getD x0 (Int.toNat v4) ByteArray.empty ++ ByteArray.mk #[10])) (v4 + 1) (x0) ds))))) else (ds = [Dyn.mk Ty.str v3]))
end
theorem p10_0 (x0 : List ByteArray) : Am.runN tab ext10 false 19 [] 2000 [] [] [0, 3, 4] [] [] [.code b10] (entE 0 0 sig10 (x0, ())) (entL sig10 (x0, ())) = some (cutAt b10 3, E10_3 (ByteArray.mk #[]) (0) (x0), L10_3 (ByteArray.mk #[]) (0) (x0), []) := by kernel_rfl
theorem p10_1 (v3 : ByteArray) (v4 : Int) (x0 : List ByteArray) : Am.runN tab ext10 false 19 [] 2000 [] [] [0, 3, 4] [] [true] (cutAt b10 3) (E10_3 v3 v4 x0) (L10_3 v3 v4 x0) = some (cutAt b10 3, E10_3 (v3 ++ (List.getD x0 (Int.toNat v4) ByteArray.empty ++ ByteArray.mk #[10])) (v4 + 1) (x0), L10_3 (v3 ++ (List.getD x0 (Int.toNat v4) ByteArray.empty ++ ByteArray.mk #[10])) (v4 + 1) (x0), [Decidable.decide (v4 < (↑(List.length x0) : Int)) = Bool.true, 0 ≤ v4, v4 < (↑(List.length x0) : Int), ByteArray.size (List.getD x0 (Int.toNat v4) ByteArray.empty) + 1 ≤ 9223372036854775807, ByteArray.size v3 + ByteArray.size (List.getD x0 (Int.toNat v4) ByteArray.empty ++ ByteArray.mk #[10]) ≤ 9223372036854775807, InR IntKind.i64 (v4 + 1)]) := by kernel_rfl
theorem p10_2 (v3 : ByteArray) (v4 : Int) (x0 : List ByteArray) : runF tab ext10 false 19 [] 2000 [] tys10 Try.f10.results [false] (cutAt b10 3) (E10_3 v3 v4 x0) (L10_3 v3 v4 x0) = some ([Dyn.mk Ty.str v3], [], [Decidable.decide (v4 < (↑(List.length x0) : Int)) = Bool.false]) := by kernel_rfl
theorem snd10 : ∀ n, (∀ (x0 : List ByteArray) ds, R10 n x0 ds → ∀ w0 O q, AtV Try.prog 10 (PostR ds [] [] q w0 O) 19 w0 O q [] [.code b10] (entE 0 0 sig10 (x0, ())) (entL sig10 (x0, ()))) ∧ (∀ (v3 : ByteArray) (v4 : Int) (x0 : List ByteArray) ds, R10_3 n v3 v4 x0 ds → ∀ w0 O q, AtV Try.prog 10 (PostR ds [] [] q w0 O) 19 w0 O q [] (cutAt b10 3) (E10_3 v3 v4 x0) (L10_3 v3 v4 x0)) := by
  intro n
  induction n with
  | zero => exact ⟨fun _ _ h => by simp only [R10] at h, fun _ _ _ _ h => by simp only [R10_3] at h⟩
  | succ n ih =>
  obtain ⟨ih, ih3⟩ := ih
  refine ⟨?_, ?_⟩
  · intro x0 ds h w0 O q
    rw [R10] at h
    exact AtV.runN tabOk ext10Ok mixed (p10_0 x0) trivial (ih3 _ _ _ _ h w0 O q)

  · intro v3 v4 x0 ds h w0 O q
    rw [R10_3] at h
    by_cases b0 : (Decidable.decide (v4 < (↑(List.length x0) : Int))) = true
    · rw [if_pos b0] at h
      obtain ⟨s0, s1, h⟩ := h
      obtain ⟨s2, h⟩ := h
      obtain ⟨s3, h⟩ := h
      obtain ⟨s4, h⟩ := h
      exact AtV.runN tabOk ext10Ok mixed (p10_1 v3 v4 x0) ⟨b0, s0, s1, s2, s3, s4, trivial⟩ (ih3 _ _ _ _ h w0 O q)
    · rw [if_neg b0] at h
      replace b0 := Bool.eq_false_iff.2 b0
      subst h
      exact AtV.fin Try.func10 tabOk ext10Ok mixed (p10_2 v3 v4 x0) ⟨b0, trivial⟩



def g10_0 (x0 : List ByteArray) : ByteArray := x0.foldl (fun o b => o ++ (b ++ ByteArray.mk #[10])) (ByteArray.mk #[])
def P10 (x0 : List ByteArray) : Prop := x0.length ≤ 1048576 ∧ ∀ x ∈ x0, x.size ≤ 1048576

theorem run10 (x0 : List ByteArray) (hp : P10 x0) : ∀ (k i : Nat) (o : ByteArray), i + k = x0.length → o.size ≤ 1048577 * i →
    R10_3 (k + 1) o (i : Int) x0 [⟨.str, (x0.drop i).foldl (fun o b => o ++ (b ++ ByteArray.mk #[10])) o⟩] := by
  obtain ⟨hl, hx⟩ := hp
  have i10 : (ByteArray.mk #[10]).size = 1 := rfl
  intro k
  induction k with
  | zero =>
    intro i o hi ho
    rw [R10_3, if_neg (by simp; omega), drop_end x0 i (by omega)]
    rfl
  | succ k ih =>
    intro i o hi ho
    have hlt : i < x0.length := by omega
    have q := hx _ (mem_getD x0 i ByteArray.empty hlt)
    rw [R10_3, if_pos (by simp; omega), drop_get x0 i ByteArray.empty hlt]
    simp only [Int.toNat_natCast, List.foldl_cons]
    have hs : (List.getD x0 i ByteArray.empty ++ ByteArray.mk #[10]).size = (List.getD x0 i ByteArray.empty).size + 1 := by rw [ByteArray.size_append, i10]
    refine ⟨by omega, by omega, by omega, by omega, inR_up (xs := x0) (by unfold maxLen; omega) hlt, ?_⟩
    exact ih (i + 1) _ (by omega) (by rw [ByteArray.size_append, hs]; omega)

theorem top10 (x0 : List ByteArray) (hp : P10 x0) : R10 (x0.length + 1 + 1) x0 [⟨.str, g10_0 x0⟩] := by
  rw [R10]
  exact run10 x0 hp x0.length 0 (ByteArray.mk #[]) (by omega) (by decide)

def S10 : Am.Spec := { sig := sig10, pre := fun ⟨x0, _⟩ => P10 x0, res := fun ⟨x0, _⟩ => [⟨Ty.str, g10_0 x0⟩] }
theorem con10 : Contract Try.prog 10 S10 := contract_of Try.func10 hb10 (Nat.le_of_ble_eq_true (by kernel_rfl)) (fun ⟨x0, _⟩ h hwf w0 O q =>
  (snd10 _).1 x0 _ (top10 x0 h) w0 O q)

end Go.Proofs.Ytnipkaomdamgaaa

/- Function 5 (spec.ReportText): its runs between cut points. Written by a program of this repo (gen). -/
set_option linter.unusedVariables false
set_option linter.unusedSimpArgs false
set_option maxRecDepth 100000
namespace Go.Proofs.Ytnipkaomdamgaaa
open Go Go.Am Go.Proofs
def ext5 : Ext := [(9, S9), (10, S10)]
theorem call5_9 : Callable Try.prog 9 := ⟨Try.f9, Try.func9, by kernel_rfl, by kernel_rfl⟩
theorem call5_10 : Callable Try.prog 10 := ⟨Try.f10, Try.func10, by kernel_rfl, by kernel_rfl⟩
theorem ext5Ok : ExtOk Try.prog ext5 := ⟨⟨call5_9, con9⟩, ⟨call5_10, con10⟩, trivial⟩
/-! Function 5. -/
noncomputable def b5 : Code := bodyOf Try.f5
theorem hb5 : Try.f5.body = some b5 := by kernel_rfl
def sig5 : List AT := [AT.v (Ty.sl Ty.str)]
def tys5 : List Ty := [Ty.str]
def P5 (x0 : List ByteArray) : Prop := (if (!g9_0 x0) = true then True else ((P10 x0) ∧ True))
def g5_0 (x0 : List ByteArray) : ByteArray := (if (!g9_0 x0) = true then ByteArray.mk #[] else g10_0 x0)
theorem p5_0 (x0 : List ByteArray) : runF tab ext5 false 8 [] 2000 [] tys5 Try.f5.results [true] [.code b5] (entE 0 0 sig5 (x0, ())) (entL sig5 (x0, ())) = some ([Dyn.mk Ty.str (ByteArray.mk #[])], [], [True, (!g9_0 x0) = Bool.true]) := by kernel_rfl
theorem p5_1 (x0 : List ByteArray) : runF tab ext5 false 8 [] 2000 [] tys5 Try.f5.results [false] [.code b5] (entE 0 0 sig5 (x0, ())) (entL sig5 (x0, ())) = some ([Dyn.mk Ty.str (g10_0 x0)], [], [True, (!g9_0 x0) = Bool.false, P10 x0]) := by kernel_rfl
theorem at5 (x0 : List ByteArray) (h : P5 x0) (w0 : World) (O : List Nat) (q : Nat → Value) : AtV Try.prog 5 (PostR [⟨Ty.str, g5_0 x0⟩] [] [] q w0 O) 8 w0 O q [] [.code b5] (entE 0 0 sig5 (x0, ())) (entL sig5 (x0, ())) := by
  unfold P5 at h
  unfold g5_0
  by_cases b0 : (!g9_0 x0) = true
  · try simp only [if_pos b0] at h ⊢
    exact AtV.fin Try.func5 tabOk ext5Ok mixed (p5_0 x0) ⟨trivial, b0, trivial⟩
  · try simp only [if_neg b0] at h ⊢
    replace b0 := Bool.eq_false_iff.2 b0
    obtain ⟨s0, h⟩ := h
    exact AtV.fin Try.func5 tabOk ext5Ok mixed (p5_1 x0) ⟨trivial, b0, s0, trivial⟩

def S5 : Am.Spec := { sig := sig5, pre := fun ⟨x0, _⟩ => P5 x0, res := fun ⟨x0, _⟩ => [⟨Ty.str, g5_0 x0⟩] }
theorem con5 : Contract Try.prog 5 S5 := contract_of Try.func5 hb5 (Nat.le_of_ble_eq_true (by kernel_rfl)) (fun ⟨x0, _⟩ h _ w0 O q => at5 x0 h w0 O q)


end Go.Proofs.Ytnipkaomdamgaaa

/- Function 21 (impl.isReportLine$1): its runs between cut points. Written by a program of this repo (gen). -/
set_option linter.unusedVariables false
set_option linter.unusedSimpArgs false
set_option maxRecDepth 100000
namespace Go.Proofs.Ytnipkaomdamgaaa
open Go Go.Am Go.Proofs
def ext21 : Ext := []
theorem ext21Ok : ExtOk Try.prog ext21 := trivial
/-! Function 21. -/
noncomputable def b21 : Code := bodyOf Try.f21
theorem hb21 : Try.f21.body = some b21 := by kernel_rfl
def sig21 : List AT := [AT.v (Ty.int IntKind.u8)]
def tys21 : List Ty := [Ty.bool]
def P21 (x0 : Int) : Prop := True
def g21_0 (x0 : Int) : Bool := (if (Decidable.decide (x0 < 32)) = true then Bool.true else Decidable.decide (x0 > 126))
theorem p21_0 (x0 : Int) : runF tab ext21 false 9 [] 2000 [] tys21 Try.f21.results [true] [.code b21] (entE 0 0 sig21 (x0, ())) (entL sig21 (x0, ())) = some ([Dyn.mk Ty.bool Bool.true], [], [Decidable.decide (x0 < 32) = Bool.true]) := by kernel_rfl
theorem p21_1 (x0 : Int) : runF tab ext21 false 9 [] 2000 [] tys21 Try.f21.results [false] [.code b21] (entE 0 0 sig21 (x0, ())) (entL sig21 (x0, ())) = some ([Dyn.mk Ty.bool (Decidable.decide (x0 > 126))], [], [Decidable.decide (x0 < 32) = Bool.false]) := by kernel_rfl
theorem at21 (x0 : Int) (h : P21 x0) (w0 : World) (O : List Nat) (q : Nat → Value) : AtV Try.prog 21 (PostR [⟨Ty.bool, g21_0 x0⟩] [] [] q w0 O) 9 w0 O q [] [.code b21] (entE 0 0 sig21 (x0, ())) (entL sig21 (x0, ())) := by
  unfold P21 at h
  unfold g21_0
  by_cases b0 : (Decidable.decide (x0 < 32)) = true
  · try simp only [if_pos b0] at h ⊢
    exact AtV.fin Try.func21 tabOk ext21Ok mixed (p21_0 x0) ⟨b0, trivial⟩
  · try simp only [if_neg b0] at h ⊢
    replace b0 := Bool.eq_false_iff.2 b0
    exact AtV.fin Try.func21 tabOk ext21Ok mixed (p21_1 x0) ⟨b0, trivial⟩

def S21 : Am.Spec := { sig := sig21, pre := fun ⟨x0, _⟩ => P21 x0, res := fun ⟨x0, _⟩ => [⟨Ty.bool, g21_0 x0⟩] }
theorem con21 : Contract Try.prog 21 S21 := contract_of Try.func21 hb21 (Nat.le_of_ble_eq_true (by kernel_rfl)) (fun ⟨x0, _⟩ h _ w0 O q => at21 x0 h w0 O q)


end Go.Proofs.Ytnipkaomdamgaaa

/- Function 23 (slices.IndexFunc[[]byte,byte]): its runs between cut points. Written by a program of this repo (gen). -/
set_option linter.unusedVariables false
set_option linter.unusedSimpArgs false
set_option maxRecDepth 100000
namespace Go.Proofs.Ytnipkaomdamgaaa
open Go Go.Am Go.Proofs
def ext23c21 : Ext := [(21, S21)]
theorem call23c21_21 : Callable Try.prog 21 := ⟨Try.f21, Try.func21, by kernel_rfl, by kernel_rfl⟩
theorem ext23c21Ok : ExtOk Try.prog ext23c21 := ⟨⟨call23c21_21, con21⟩, trivial⟩
/-! Function 23c21. -/
noncomputable def b23c21 : Code := bodyOf Try.f23
theorem hb23c21 : Try.f23.body = some b23c21 := by kernel_rfl
def sig23c21 : List AT := [AT.v (Ty.sl (Ty.int IntKind.u8)), AT.fn 21 []]
def tys23c21 : List Ty := [Ty.int IntKind.i64]
def E23c21_2 (v8 : Int) (x0 : List Int) : Env := [(0, PV.a (Atom.sl (Ty.int IntKind.u8) x0)), (1, PV.fn 21 []), (7, PV.a (Atom.val (Value.int IntKind.i64 (↑(List.length x0) : Int)))), (8, PV.a (Atom.val (Value.int IntKind.i64 v8)))]
def L23c21_2 (v8 : Int) (x0 : List Int) : Heap := []
mutual
def R23c21 : Nat → List Int → List Dyn → Prop
  | 0, _, _ => False
  | n + 1, x0, ds => (R23c21_2 n (0) (x0) ds)
def R23c21_2 : Nat → Int → List Int → List Dyn → Prop
  | 0, _, _, _ => False
  | n + 1, v8, x0, ds => (if (Decidable.decide (v8 < (↑(List.length x0) : Int))) = true then ((0 ≤ v8) ∧ (v8 < (↑(List.length x0) : Int)) ∧ (if (g21_0 (List.getD x0 (Int.toNat v8) 0)) = true then (ds = [Dyn.mk (Ty.int IntKind.i64) v8]) else ((InR IntKind.i64 (v8 + 1)) ∧ (R23c21_2 n (v8 + 1) (x0) ds)))) else (ds = [Dyn.mk (Ty.int IntKind.i64) (-1)]))
end
theorem p23c21_0 (x0 : List Int) : Am.runN tab ext23c21 false 19 [] 2000 [] [] [0, 1, 7, 8] [] [] [.code b23c21] (entE 0 0 sig23c21 (x0, (), ())) (entL sig23c21 (x0, (), ())) = some (cutAt b23c21 2, E23c21_2 (0) (x0), L23c21_2 (0) (x0), []) := by kernel_rfl
theorem p23c21_1 (v8 : Int) (x0 : List Int) : runF tab ext23c21 false 19 [] 2000 [] tys23c21 Try.f23.results [true, true] (cutAt b23c21 2) (E23c21_2 v8 x0) (L23c21_2 v8 x0) = some ([Dyn.mk (Ty.int IntKind.i64) v8], [], [Decidable.decide (v8 < (↑(List.length x0) : Int)) = Bool.true, 0 ≤ v8, v8 < (↑(List.length x0) : Int), True, g21_0 (List.getD x0 (Int.toNat v8) 0) = Bool.true]) := by kernel_rfl
theorem p23c21_2 (v8 : Int) (x0 : List Int) : Am.runN tab ext23c21 false 19 [] 2000 [] [] [0, 1, 7, 8] [] [true, false] (cutAt b23c21 2) (E23c21_2 v8 x0) (L23c21_2 v8 x0) = some (cutAt b23c21 2, E23c21_2 (v8 + 1) (x0), L23c21_2 (v8 + 1) (x0), [Decidable.decide (v8 < (↑(List.length x0) : Int)) = Bool.true, 0 ≤ v8, v8 < (↑(List.length x0) : Int), True, g21_0 (List.getD x0 (Int.toNat v8) 0) = Bool.false, InR IntKind.i64 (v8 + 1)]) := by kernel_rfl
theorem p23c21_3 (v8 : Int) (x0 : List Int) : runF tab ext23c21 false 19 [] 2000 [] tys23c21 Try.f23.results [false] (cutAt b23c21 2) (E23c21_2 v8 x0) (L23c21_2 v8 x0) = some ([Dyn.mk (Ty.int IntKind.i64) (-1)], [], [Decidable.decide (v8 < (↑(List.length x0) : Int)) = Bool.false]) := by kernel_rfl
theorem snd23c21 : ∀ n, (∀ (x0 : List Int) ds, R23c21 n x0 ds → ∀ w0 O q, AtV Try.prog 23 (PostR ds [] [] q w0 O) 19 w0 O q [] [.code b23c21] (entE 0 0 sig23c21 (x0, (), ())) (entL sig23c21 (x0, (), ()))) ∧ (∀ (v8 : Int) (x0 : List Int) ds, R23c21_2 n v8 x0 ds → ∀ w0 O q, AtV Try.prog 23 (PostR ds [] [] q w0 O) 19 w0 O q [] (cutAt b23c21 2) (E23c21_2 v8 x0) (L23c21_2 v8 x0)) := by
  intro n
  induction n with
  | zero => exact ⟨fun _ _ h => by simp only [R23c21] at h, fun _ _ _ h => by simp only [R23c21_2] at h⟩
  | succ n ih =>
  obtain ⟨ih, ih2⟩ := ih
  refine ⟨?_, ?_⟩
  · intro x0 ds h w0 O q
    rw [R23c21] at h
    exact AtV.runN tabOk ext23c21Ok mixed (p23c21_0 x0) trivial (ih2 _ _ _ h w0 O q)

  · intro v8 x0 ds h w0 O q
    rw [R23c21_2] at h
    by_cases b0 : (Decidable.decide (v8 < (↑(List.length x0) : Int))) = true
    · rw [if_pos b0] at h
      obtain ⟨s0, s1, h⟩ := h
      by_cases b1 : (g21_0 (List.getD x0 (Int.toNat v8) 0)) = true
      · rw [if_pos b1] at h
        subst h
        exact AtV.fin Try.func23 tabOk ext23c21Ok mixed (p23c21_1 v8 x0) ⟨b0, s0, s1, trivial, b1, trivial⟩
      · rw [if_neg b1] at h
        replace b1 := Bool.eq_false_iff.2 b1
        obtain ⟨s2, h⟩ := h
        exact AtV.runN tabOk ext23c21Ok mixed (p23c21_2 v8 x0) ⟨b0, s0, s1, trivial, b1, s2, trivial⟩ (ih2 _ _ _ h w0 O q)
    · rw [if_neg b0] at h
      replace b0 := Bool.eq_false_iff.2 b0
      subst h
      exact AtV.fin Try.func23 tabOk ext23c21Ok mixed (p23c21_3 v8 x0) ⟨b0, trivial⟩



def g23c21_0 (x0 : List (Int)) : Int := idx (x0.findIdx? g21_0)
def P23c21 (x0 : List (Int)) : Prop := True

theorem top23c21 (x0 : List (Int)) (hm : x0.length ≤ maxLen) : R23c21 (x0.length + 1 + 1) x0 [⟨.int .i64, g23c21_0 x0⟩] := by
  rw [R23c21]
  have key := loop_find x0 (0 : Int) g21_0 [(⟨.int .i64, -1⟩ : Dyn)] (fun k => [⟨.int .i64, k⟩]) (fun n i ds => R23c21_2 n i x0 ds) (fun n => ?_) (fun n i hi hok ds hr => ?_) (fun n i hi hok => ?_)
  · unfold g23c21_0
    cases h : x0.findIdx? g21_0 <;> rw [h] at key <;> exact key
  · rw [R23c21_2, if_neg (by simp)]
  · rw [R23c21_2, if_pos (by simp; omega)]
    simp only [Int.toNat_natCast]
    refine ⟨by omega, by omega, ?_⟩
    rw [if_neg (by rw [hok]; simp)]
    exact ⟨inR_up hm hi, hr⟩
  · rw [R23c21_2, if_pos (by simp; omega)]
    simp only [Int.toNat_natCast]
    refine ⟨by omega, by omega, ?_⟩
    rw [if_pos hok] <;> trivial

def S23c21 : Am.Spec := { sig := sig23c21, pre := fun ⟨x0, _⟩ => P23c21 x0, res := fun ⟨x0, _⟩ => [⟨Ty.int .i64, g23c21_0 x0⟩] }
theorem con23c21 : Contract Try.prog 23 S23c21 := contract_of Try.func23 hb23c21 (Nat.le_of_ble_eq_true (by kernel_rfl)) (fun ⟨x0, _⟩ h hwf w0 O q =>
  (snd23c21 _).1 x0 _ (top23c21 x0 hwf.1.1) w0 O q)

theorem any23c21 (x0 : List (Int)) : decide (g23c21_0 x0 ≥ 0) = x0.any g21_0 := by
  have := findIdx_any g21_0 x0
  unfold g23c21_0
  cases h : x0.any g21_0 with
  | true => rw [h] at this; simpa using this
  | false => rw [h] at this; simpa using this

end Go.Proofs.Ytnipkaomdamgaaa

/- Function 20 (slices.ContainsFunc[[]byte,byte]): its runs between cut points. Written by a program of this repo (gen). -/
set_option linter.unusedVariables false
set_option linter.unusedSimpArgs false
set_option maxRecDepth 100000
namespace Go.Proofs.Ytnipkaomdamgaaa
open Go Go.Am Go.Proofs
def ext20c21 : Ext := [(23, S23c21), (21, S21)]
theorem call20c21_23 : Callable Try.prog 23 := ⟨Try.f23, Try.func23, by kernel_rfl, by kernel_rfl⟩
theorem call20c21_21 : Callable Try.prog 21 := ⟨Try.f21, Try.func21, by kernel_rfl, by kernel_rfl⟩
theorem ext20c21Ok : ExtOk Try.prog ext20c21 := ⟨⟨call20c21_23, con23c21⟩, ⟨call20c21_21, con21⟩, trivial⟩
/-! Function 20c21. -/
noncomputable def b20c21 : Code := bodyOf Try.f20
theorem hb20c21 : Try.f20.body = some b20c21 := by kernel_rfl
def sig20c21 : List AT := [AT.v (Ty.sl (Ty.int IntKind.u8)), AT.fn 21 []]
def tys20c21 : List Ty := [Ty.bool]
def P20c21 (x0 : List Int) : Prop := True
def g20c21_0 (x0 : List Int) : Bool := Decidable.decide (g23c21_0 x0 ≥ 0)
theorem p20c21_0 (x0 : List Int) : runF tab ext20c21 false 9 [] 2000 [] tys20c21 Try.f20.results [] [.code b20c21] (entE 0 0 sig20c21 (x0, (), ())) (entL sig20c21 (x0, (), ())) = some ([Dyn.mk Ty.bool (Decidable.decide (g23c21_0 x0 ≥ 0))], [], [True]) := by kernel_rfl
theorem at20c21 (x0 : List Int) (h : P20c21 x0) (w0 : World) (O : List Nat) (q : Nat → Value) : AtV Try.prog 20 (PostR [⟨Ty.bool, g20c21_0 x0⟩] [] [] q w0 O) 9 w0 O q [] [.code b20c21] (entE 0 0 sig20c21 (x0, (), ())) (entL sig20c21 (x0, (), ())) := by
  unfold P20c21 at h
  unfold g20c21_0
  exact AtV.fin Try.func20 tabOk ext20c21Ok mixed (p20c21_0 x0) ⟨trivial, trivial⟩

def S20c21 : Am.Spec := { sig := sig20c21, pre := fun ⟨x0, _⟩ => P20c21 x0, res := fun ⟨x0, _⟩ => [⟨Ty.bool, g20c21_0 x0⟩] }
theorem con20c21 : Contract Try.prog 20 S20c21 := contract_of Try.func20 hb20c21 (Nat.le_of_ble_eq_true (by kernel_rfl)) (fun ⟨x0, _⟩ h _ w0 O q => at20c21 x0 h w0 O q)


end Go.Proofs.Ytnipkaomdamgaaa

/- Function 17 (impl.isReportLine): its runs between cut points. Written by a program of this repo (gen). -/
set_option linter.unusedVariables false
set_option linter.unusedSimpArgs false
set_option maxRecDepth 100000
namespace Go.Proofs.Ytnipkaomdamgaaa
open Go Go.Am Go.Proofs
def ext17 : Ext := [(20, S20c21)]
theorem call17_20 : Callable Try.prog 20 := ⟨Try.f20, Try.func20, by kernel_rfl, by kernel_rfl⟩
theorem ext17Ok : ExtOk Try.prog ext17 := ⟨⟨call17_20, con20c21⟩, trivial⟩
/-! Function 17. -/
noncomputable def b17 : Code := bodyOf Try.f17
theorem hb17 : Try.f17.body = some b17 := by kernel_rfl
def sig17 : List AT := [AT.v (Ty.str)]
def tys17 : List Ty := [Ty.bool]
def P17 (x0 : ByteArray) : Prop := True
def g17_0 (x0 : ByteArray) : Bool := (if (Decidable.decide ((↑(ByteArray.size x0) : Int) ≤ 100)) = true then !g20c21_0 (bytesOf x0) else Bool.false)
theorem p17_0 (x0 : ByteArray) : runF tab ext17 false 12 [] 2000 [] tys17 Try.f17.results [true] [.code b17] (entE 0 0 sig17 (x0, ())) (entL sig17 (x0, ())) = some ([Dyn.mk Ty.bool !g20c21_0 (bytesOf x0)], [], [Decidable.decide ((↑(ByteArray.size x0) : Int) ≤ 100) = Bool.true, True]) := by kernel_rfl
theorem p17_1 (x0 : ByteArray) : runF tab ext17 false 12 [] 2000 [] tys17 Try.f17.results [false] [.code b17] (entE 0 0 sig17 (x0, ())) (entL sig17 (x0, ())) = some ([Dyn.mk Ty.bool Bool.false], [], [Decidable.decide ((↑(ByteArray.size x0) : Int) ≤ 100) = Bool.false]) := by kernel_rfl
theorem at17 (x0 : ByteArray) (h : P17 x0) (w0 : World) (O : List Nat) (q : Nat → Value) : AtV Try.prog 17 (PostR [⟨Ty.bool, g17_0 x0⟩] [] [] q w0 O) 12 w0 O q [] [.code b17] (entE 0 0 sig17 (x0, ())) (entL sig17 (x0, ())) := by
  unfold P17 at h
  unfold g17_0
  by_cases b0 : (Decidable.decide ((↑(ByteArray.size x0) : Int) ≤ 100)) = true
  · try simp only [if_pos b0] at h ⊢
    exact AtV.fin Try.func17 tabOk ext17Ok mixed (p17_0 x0) ⟨b0, trivial, trivial⟩
  · try simp only [if_neg b0] at h ⊢
    replace b0 := Bool.eq_false_iff.2 b0
    exact AtV.fin Try.func17 tabOk ext17Ok mixed (p17_1 x0) ⟨b0, trivial⟩

def S17 : Am.Spec := { sig := sig17, pre := fun ⟨x0, _⟩ => P17 x0, res := fun ⟨x0, _⟩ => [⟨Ty.bool, g17_0 x0⟩] }
theorem con17 : Contract Try.prog 17 S17 := contract_of Try.func17 hb17 (Nat.le_of_ble_eq_true (by kernel_rfl)) (fun ⟨x0, _⟩ h _ w0 O q => at17 x0 h w0 O q)


end Go.Proofs.Ytnipkaomdamgaaa

/- Function 16 (impl.ValidReport$1): its runs between cut points. Written by a program of this repo (gen). -/
set_option linter.unusedVariables false
set_option linter.unusedSimpArgs false
set_option maxRecDepth 100000
namespace Go.Proofs.Ytnipkaomdamgaaa
open Go Go.Am Go.Proofs
def ext16 : Ext := [(17, S17)]
theorem call16_17 : Callable Try.prog 17 := ⟨Try.f17, Try.func17, by kernel_rfl, by kernel_rfl⟩
theorem ext16Ok : ExtOk Try.prog ext16 := ⟨⟨call16_17, con17⟩, trivial⟩
/-! Function 16. -/
noncomputable def b16 : Code := bodyOf Try.f16
theorem hb16 : Try.f16.body = some b16 := by kernel_rfl
def sig16 : List AT := [AT.v (Ty.str)]
def tys16 : List Ty := [Ty.bool]
def P16 (x0 : ByteArray) : Prop := True
def g16_0 (x0 : ByteArray) : Bool := !g17_0 x0
theorem p16_0 (x0 : ByteArray) : runF tab ext16 false 6 [] 2000 [] tys16 Try.f16.results [] [.code b16] (entE 0 0 sig16 (x0, ())) (entL sig16 (x0, ())) = some ([Dyn.mk Ty.bool !g17_0 x0], [], [True]) := by kernel_rfl
theorem at16 (x0 : ByteArray) (h : P16 x0) (w0 : World) (O : List Nat) (q : Nat → Value) : AtV Try.prog 16 (PostR [⟨Ty.bool, g16_0 x0⟩] [] [] q w0 O) 6 w0 O q [] [.code b16] (entE 0 0 sig16 (x0, ())) (entL sig16 (x0, ())) := by
  unfold P16 at h
  unfold g16_0
  exact AtV.fin Try.func16 tabOk ext16Ok mixed (p16_0 x0) ⟨trivial, trivial⟩

def S16 : Am.Spec := { sig := sig16, pre := fun ⟨x0, _⟩ => P16 x0, res := fun ⟨x0, _⟩ => [⟨Ty.bool, g16_0 x0⟩] }
theorem con16 : Contract Try.prog 16 S16 := contract_of Try.func16 hb16 (Nat.le_of_ble_eq_true (by kernel_rfl)) (fun ⟨x0, _⟩ h _ w0 O q => at16 x0 h w0 O q)


end Go.Proofs.Ytnipkaomdamgaaa

/- Function 19 (slices.IndexFunc[[]string,string]): its runs between cut points. Written by a program of this repo (gen). -/
set_option linter.unusedVariables false
set_option linter.unusedSimpArgs false
set_option maxRecDepth 100000
namespace Go.Proofs.Ytnipkaomdamgaaa
open Go Go.Am Go.Proofs
def ext19c16 : Ext := [(16, S16)]
theorem call19c16_16 : Callable Try.prog 16 := ⟨Try.f16, Try.func16, by kernel_rfl, by kernel_rfl⟩
theorem ext19c16Ok : ExtOk Try.prog ext19c16 := ⟨⟨call19c16_16, con16⟩, trivial⟩
/-! Function 19c16. -/
noncomputable def b19c16 : Code := bodyOf Try.f19
theorem hb19c16 : Try.f19.body = some b19c16 := by kernel_rfl
def sig19c16 : List AT := [AT.v (Ty.sl Ty.str), AT.fn 16 []]
def tys19c16 : List Ty := [Ty.int IntKind.i64]
def E19c16_2 (v8 : Int) (x0 : List ByteArray) : Env := [(0, PV.a (Atom.sl Ty.str x0)), (1, PV.fn 16 []), (7, PV.a (Atom.val (Value.int IntKind.i64 (↑(List.length x0) : Int)))), (8, PV.a (Atom.val (Value.int IntKind.i64 v8)))]
def L19c16_2 (v8 : Int) (x0 : List ByteArray) : Heap := []
mutual
def R19c16 : Nat → List ByteArray → List Dyn → Prop
  | 0, _, _ => False
  | n + 1, x0, ds => (R19c16_2 n (0) (x0) ds)
def R19c16_2 : Nat → Int → List ByteArray → List Dyn → Prop
  | 0, _, _, _ => False
  | n + 1, v8, x0, ds => (if (Decidable.decide (v8 < (↑(List.length x0) : Int))) = true then ((0 ≤ v8) ∧ (v8 < (↑(List.length x0) : Int)) ∧ (if (g16_0 (List.getD x0 (Int.toNat v8) ByteArray.empty)) = true then (ds = [Dyn.mk (Ty.int IntKind.i64) v8]) else ((InR IntKind.i64 (v8 + 1)) ∧ (R19c16_2 n (v8 + 1) (x0) ds)))) else (ds = [Dyn.mk (Ty.int IntKind.i64) (-1)]))
end
theorem p19c16_0 (x0 : List ByteArray) : Am.runN tab ext19c16 false 19 [] 2000 [] [] [0, 1, 7, 8] [] [] [.code b19c16] (entE 0 0 sig19c16 (x0, (), ())) (entL sig19c16 (x0, (), ())) = some (cutAt b19c16 2, E19c16_2 (0) (x0), L19c16_2 (0) (x0), []) := by kernel_rfl
theorem p19c16_1 (v8 : Int) (x0 : List ByteArray) : runF tab ext19c16 false 19 [] 2000 [] tys19c16 Try.f19.results [true, true] (cutAt b19c16 2) (E19c16_2 v8 x0) (L19c16_2 v8 x0) = some ([Dyn.mk (Ty.int IntKind.i64) v8], [], [Decidable.decide (v8 < (↑(List.length x0) : Int)) = Bool.true, 0 ≤ v8, v8 < (↑(List.length x0) : Int), True, g16_0 (List.getD x0 (Int.toNat v8) ByteArray.empty) = Bool.true]) := by kernel_rfl
theorem p19c16_2 (v8 : Int) (x0 : List ByteArray) : Am.runN tab ext19c16 false 19 [] 2000 [] [] [0, 1, 7, 8] [] [true, false] (cutAt b19c16 2) (E19c16_2 v8 x0) (L19c16_2 v8 x0) = some (cutAt b19c16 2, E19c16_2 (v8 + 1) (x0), L19c16_2 (v8 + 1) (x0), [Decidable.decide (v8 < (↑(List.length x0) : Int)) = Bool.true, 0 ≤ v8, v8 < (↑(List.length x0) : Int), True, g16_0 (List.getD x0 (Int.toNat v8) ByteArray.empty) = Bool.false, InR IntKind.i64 (v8 + 1)]) := by kernel_rfl
theorem p19c16_3 (v8 : Int) (x0 : List ByteArray) : runF tab ext19c16 false 19 [] 2000 [] tys19c16 Try.f19.results [false] (cutAt b19c16 2) (E19c16_2 v8 x0) (L19c16_2 v8 x0) = some ([Dyn.mk (Ty.int IntKind.i64) (-1)], [], [Decidable.decide (v8 < (↑(List.length x0) : Int)) = Bool.false]) := by kernel_rfl
theorem snd19c16 : ∀ n, (∀ (x0 : List ByteArray) ds, R19c16 n x0 ds → ∀ w0 O q, AtV Try.prog 19 (PostR ds [] [] q w0 O) 19 w0 O q [] [.code b19c16] (entE 0 0 sig19c16 (x0, (), ())) (entL sig19c16 (x0, (), ()))) ∧ (∀ (v8 : Int) (x0 : List ByteArray) ds, R19c16_2 n v8 x0 ds → ∀ w0 O q, AtV Try.prog 19 (PostR ds [] [] q w0 O) 19 w0 O q [] (cutAt b19c16 2) (E19c16_2 v8 x0) (L19c16_2 v8 x0)) := by
  intro n
  induction n with
  | zero => exact ⟨fun _ _ h => by simp only [R19c16] at h, fun _ _ _ h => by simp only [R19c16_2] at h⟩
  | succ n ih =>
  obtain ⟨ih, ih2⟩ := ih
  refine ⟨?_, ?_⟩
  · intro x0 ds h w0 O q
    rw [R19c16] at h
    exact AtV.runN tabOk ext19c16Ok mixed (p19c16_0 x0) trivial (ih2 _ _ _ h w0 O q)

  · intro v8 x0 ds h w0 O q
    rw [R19c16_2] at h
    by_cases b0 : (Decidable.decide (v8 < (↑(List.length x0) : Int))) = true
    · rw [if_pos b0] at h
      obtain ⟨s0, s1, h⟩ := h
      by_cases b1 : (g16_0 (List.getD x0 (Int.toNat v8) ByteArray.empty)) = true
      · rw [if_pos b1] at h
        subst h
        exact AtV.fin Try.func19 tabOk ext19c16Ok mixed (p19c16_1 v8 x0) ⟨b0, s0, s1, trivial, b1, trivial⟩
      · rw [if_neg b1] at h
        replace b1 := Bool.eq_false_iff.2 b1
        obtain ⟨s2, h⟩ := h
        exact AtV.runN tabOk ext19c16Ok mixed (p19c16_2 v8 x0) ⟨b0, s0, s1, trivial, b1, s2, trivial⟩ (ih2 _ _ _ h w0 O q)
    · rw [if_neg b0] at h
      replace b0 := Bool.eq_false_iff.2 b0
      subst h
      exact AtV.fin Try.func19 tabOk ext19c16Ok mixed (p19c16_3 v8 x0) ⟨b0, trivial⟩



def g19c16_0 (x0 : List (ByteArray)) : Int := idx (x0.findIdx? g16_0)
def P19c16 (x0 : List (ByteArray)) : Prop := True

theorem top19c16 (x0 : List (ByteArray)) (hm : x0.length ≤ maxLen) : R19c16 (x0.length + 1 + 1) x0 [⟨.int .i64, g19c16_0 x0⟩] := by
  rw [R19c16]
  have key := loop_find x0 ByteArray.empty g16_0 [(⟨.int .i64, -1⟩ : Dyn)] (fun k => [⟨.int .i64, k⟩]) (fun n i ds => R19c16_2 n i x0 ds) (fun n => ?_) (fun n i hi hok ds hr => ?_) (fun n i hi hok => ?_)
  · unfold g19c16_0
    cases h : x0.findIdx? g16_0 <;> rw [h] at key <;> exact key
  · rw [R19c16_2, if_neg (by simp)]
  · rw [R19c16_2, if_pos (by simp; omega)]
    simp only [Int.toNat_natCast]
    refine ⟨by omega, by omega, ?_⟩
    rw [if_neg (by rw [hok]; simp)]
    exact ⟨inR_up hm hi, hr⟩
  · rw [R19c16_2, if_pos (by simp; omega)]
    simp only [Int.toNat_natCast]
    refine ⟨by omega, by omega, ?_⟩
    rw [if_pos hok] <;> trivial

def S19c16 : Am.Spec := { sig := sig19c16, pre := fun ⟨x0, _⟩ => P19c16 x0, res := fun ⟨x0, _⟩ => [⟨Ty.int .i64, g19c16_0 x0⟩] }
theorem con19c16 : Contract Try.prog 19 S19c16 := contract_of Try.func19 hb19c16 (Nat.le_of_ble_eq_true (by kernel_rfl)) (fun ⟨x0, _⟩ h hwf w0 O q =>
  (snd19c16 _).1 x0 _ (top19c16 x0 hwf.1.1) w0 O q)

theorem any19c16 (x0 : List (ByteArray)) : decide (g19c16_0 x0 ≥ 0) = x0.any g16_0 := by
  have := findIdx_any g16_0 x0
  unfold g19c16_0
  cases h : x0.any g16_0 with
  | true => rw [h] at this; simpa using this
  | false => rw [h] at this; simpa using this

end Go.Proofs.Ytnipkaomdamgaaa

/- Function 15 (slices.ContainsFunc[[]string,string]): its runs between cut points. Written by a program of this repo (gen). -/
set_option linter.unusedVariables false
set_option linter.unusedSimpArgs false
set_option maxRecDepth 100000
namespace Go.Proofs.Ytnipkaomdamgaaa
open Go Go.Am Go.Proofs
def ext15c16 : Ext := [(19, S19c16), (16, S16)]
theorem call15c16_19 : Callable Try.prog 19 := ⟨Try.f19, Try.func19, by kernel_rfl, by kernel_rfl⟩
theorem call15c16_16 : Callable Try.prog 16 := ⟨Try.f16, Try.func16, by kernel_rfl, by kernel_rfl⟩
theorem ext15c16Ok : ExtOk Try.prog ext15c16 := ⟨⟨call15c16_19, con19c16⟩, ⟨call15c16_16, con16⟩, trivial⟩
/-! Function 15c16. -/
noncomputable def b15c16 : Code := bodyOf Try.f15
theorem hb15c16 : Try.f15.body = some b15c16 := by kernel_rfl
def sig15c16 : List AT := [AT.v (Ty.sl Ty.str), AT.fn 16 []]
def tys15c16 : List Ty := [Ty.bool]
def P15c16 (x0 : List ByteArray) : Prop := True
def g15c16_0 (x0 : List ByteArray) : Bool := Decidable.decide (g19c16_0 x0 ≥ 0)
theorem p15c16_0 (x0 : List ByteArray) : runF tab ext15c16 false 9 [] 2000 [] tys15c16 Try.f15.results [] [.code b15c16] (entE 0 0 sig15c16 (x0, (), ())) (entL sig15c16 (x0, (), ())) = some ([Dyn.mk Ty.bool (Decidable.decide (g19c16_0 x0 ≥ 0))], [], [True]) := by kernel_rfl
theorem at15c16 (x0 : List ByteArray) (h : P15c16 x0) (w0 : World) (O : List Nat) (q : Nat → Value) : AtV Try.prog 15 (PostR [⟨Ty.bool, g15c16_0 x0⟩] [] [] q w0 O) 9 w0 O q [] [.code b15c16] (entE 0 0 sig15c16 (x0, (), ())) (entL sig15c16 (x0, (), ())) := by
  unfold P15c16 at h
  unfold g15c16_0
  exact AtV.fin Try.func15 tabOk ext15c16Ok mixed (p15c16_0 x0) ⟨trivial, trivial⟩

def S15c16 : Am.Spec := { sig := sig15c16, pre := fun ⟨x0, _⟩ => P15c16 x0, res := fun ⟨x0, _⟩ => [⟨Ty.bool, g15c16_0 x0⟩] }
theorem con15c16 : Contract Try.prog 15 S15c16 := contract_of Try.func15 hb15c16 (Nat.le_of_ble_eq_true (by kernel_rfl)) (fun ⟨x0, _⟩ h _ w0 O q => at15c16 x0 h w0 O q)


end Go.Proofs.Ytnipkaomdamgaaa

/- Function 11 (impl.ValidReport): its runs between cut points. Written by a program of this repo (gen). -/
set_option linter.unusedVariables false
set_option linter.unusedSimpArgs false
set_option maxRecDepth 100000
namespace Go.Proofs.Ytnipkaomdamgaaa
open Go Go.Am Go.Proofs
def ext11 : Ext := [(15, S15c16)]
theorem call11_15 : Callable Try.prog 15 := ⟨Try.f15, Try.func15, by kernel_rfl, by kernel_rfl⟩
theorem ext11Ok : ExtOk Try.prog ext11 := ⟨⟨call11_15, con15c16⟩, trivial⟩
/-! Function 11. -/
noncomputable def b11 : Code := bodyOf Try.f11
theorem hb11 : Try.f11.body = some b11 := by kernel_rfl
def sig11 : List AT := [AT.v (Ty.sl Ty.str)]
def tys11 : List Ty := [Ty.bool]
def P11 (x0 : List ByteArray) : Prop := True
def g11_0 (x0 : List ByteArray) : Bool := (if (Decidable.decide ((↑(List.length x0) : Int) ≤ 200)) = true then !g15c16_0 x0 else Bool.false)
theorem p11_0 (x0 : List ByteArray) : runF tab ext11 false 11 [] 2000 [] tys11 Try.f11.results [true] [.code b11] (entE 0 0 sig11 (x0, ())) (entL sig11 (x0, ())) = some ([Dyn.mk Ty.bool !g15c16_0 x0], [], [Decidable.decide ((↑(List.length x0) : Int) ≤ 200) = Bool.true, True]) := by kernel_rfl
theorem p11_1 (x0 : List ByteArray) : runF tab ext11 false 11 [] 2000 [] tys11 Try.f11.results [false] [.code b11] (entE 0 0 sig11 (x0, ())) (entL sig11 (x0, ())) = some ([Dyn.mk Ty.bool Bool.false], [], [Decidable.decide ((↑(List.length x0) : Int) ≤ 200) = Bool.false]) := by kernel_rfl
theorem at11 (x0 : List ByteArray) (h : P11 x0) (w0 : World) (O : List Nat) (q : Nat → Value) : AtV Try.prog 11 (PostR [⟨Ty.bool, g11_0 x0⟩] [] [] q w0 O) 11 w0 O q [] [.code b11] (entE 0 0 sig11 (x0, ())) (entL sig11 (x0, ())) := by
  unfold P11 at h
  unfold g11_0
  by_cases b0 : (Decidable.decide ((↑(List.length x0) : Int) ≤ 200)) = true
  · try simp only [if_pos b0] at h ⊢
    exact AtV.fin Try.func11 tabOk ext11Ok mixed (p11_0 x0) ⟨b0, trivial, trivial⟩
  · try simp only [if_neg b0] at h ⊢
    replace b0 := Bool.eq_false_iff.2 b0
    exact AtV.fin Try.func11 tabOk ext11Ok mixed (p11_1 x0) ⟨b0, trivial⟩

def S11 : Am.Spec := { sig := sig11, pre := fun ⟨x0, _⟩ => P11 x0, res := fun ⟨x0, _⟩ => [⟨Ty.bool, g11_0 x0⟩] }
theorem con11 : Contract Try.prog 11 S11 := contract_of Try.func11 hb11 (Nat.le_of_ble_eq_true (by kernel_rfl)) (fun ⟨x0, _⟩ h _ w0 O q => at11 x0 h w0 O q)


end Go.Proofs.Ytnipkaomdamgaaa

/- Function 12 ((*strings.Builder).WriteString): its contract, off what is known of the library. -/
set_option linter.unusedVariables false
set_option linter.unusedSimpArgs false
set_option maxRecDepth 100000
namespace Go.Proofs.Ytnipkaomdamgaaa
open Go Go.Am Go.Proofs

open Go.RowKit
theorem bInfo : ∃ j, Try.prog.info? 31 = some j ∧ j.size = 2 := by
  have h : (Try.prog.info? 31).map (·.size) = some 2 := by kernel_rfl
  obtain ⟨j, hj, hjs⟩ := Option.map_eq_some_iff.1 h
  exact ⟨j, hj, hjs⟩

set_option maxHeartbeats 1000000 in
theorem copyUsed (b : Nat) (w : World) (h0 : w.cell? ⟨b, 0, none⟩ = some (.pointer (some ⟨b, 0, none⟩))) :
    Calls Try.prog 18 #[.pointer (some ⟨b, 0, none⟩)] w fun e w' => e = .returned (.tuple #[]) ∧ w' = w := by
  obtain ⟨j, hj, _⟩ := bInfo
  have mixed := mixed
  go_enter Try.func18, Try.ntmps18
  go_wp2
  rw [Lib.run_neq_ptr_same w _ Try.underlying28 hj]
  go_wp2
  go_end0
  exact ⟨rfl, rfl⟩

set_option maxHeartbeats 1000000 in
theorem copyFresh (b : Nat) (w : World) (h0 : w.cell? ⟨b, 0, none⟩ = some (.pointer none)) (hsh : w.shape? b = some (31, 2)) (hfz : w.frozen? ⟨b, 0, none⟩ = false) :
    Calls Try.prog 18 #[.pointer (some ⟨b, 0, none⟩)] w fun e w' => e = .returned (.tuple #[]) ∧ w' = w.setCell ⟨b, 0, none⟩ (.pointer (some ⟨b, 0, none⟩)) := by
  obtain ⟨j, hj, hjs⟩ := bInfo
  have mixed := mixed
  have t70 := Try.underlying28; have t164 := Try.underlying43
  go_enter Try.func18, Try.ntmps18
  go_wp2
  rw [Lib.run_to_unsafe w ⟨b, 0, none⟩ Try.underlying28 Try.underlying43 hj (by rw [hjs]; decide) hsh (Nat.zero_lt_succ 1)]
  simp only [Result.andThen]
  rw [Oper.upon_value]
  go_wp2
  rw [run_callFunc_extern Try.func22 (by kernel_rfl) (by kernel_rfl) (by kernel_rfl) (e := Extern.AbiNoEscape.same) (by kernel_rfl)]
  rw [Lib.run_noEscape]
  simp only [Result.andThen]
  rw [Oper.upon_value]
  go_wp2
  rw [Lib.run_from_unsafe w ⟨b, 0, none⟩ Try.underlying43 Try.underlying28 hj hsh (by kernel_rfl)]
  simp only [Result.andThen]
  rw [Oper.upon_value]
  go_wp2
  go_end0
  exact ⟨rfl, rfl⟩

theorem copyCheck (B b : Nat) (bs : List Value) (w : World) (h : Lib.IsBuilderF 31 5 B b bs w) :
    Calls Try.prog 18 #[.pointer (some ⟨b, 0, none⟩)] w fun e w' => e = .returned (.tuple #[]) ∧ (Lib.BuilderAtF 31 5 B b (.pointer (some ⟨b, 0, none⟩)) bs w' ∧ Below B w w') := by
  rcases h with h | h
  · refine (copyFresh b w h.cell0 h.shape h.frozen0).mono ?_
    rintro e w' ⟨rfl, rfl⟩
    exact ⟨rfl, h.used _, (Below.refl B w).setCell (p := ⟨b, 0, none⟩) h.1 _⟩
  · refine (copyUsed b w h.cell0).mono ?_
    rintro e w' ⟨rfl, rfl⟩
    exact ⟨rfl, h, Below.refl B _⟩

set_option maxHeartbeats 2000000 in
theorem writeString (B b : Nat) (bs : List Value) (s : ByteArray) (w : World) (h : Lib.IsBuilderF 31 5 B b bs w) (hlen : bs.length + s.size ≤ 140737488355328) (hBw : B ≤ w.heap.size) :
    Calls Try.prog 12 #[.pointer (some ⟨b, 0, none⟩), .string s] w fun e w' => e = .returned (.tuple #[.int .i64 s.size, .nilIface]) ∧ (Lib.BuilderAtF 31 5 B b (.pointer (some ⟨b, 0, none⟩)) (bs ++ Lib.strCells s) w' ∧ Below B w w') := by
  obtain ⟨i0, hi, hz0, hz1, hz2⟩ := info_parts (P := Try.prog) (e := 5) (z := .int .u8 0) (size := 1) (bytes := 1) (by kernel_rfl)
  have mixed := mixed
  go_enter Try.func12, Try.ntmps12
  go_wp2_with (go_at_call 18; refine (copyCheck B b bs _ h).mono ?_)
  rintro e w1 ⟨rfl, h1, hb1⟩
  obtain ⟨hB, v, hbk, hown, hne⟩ := h1
  have c0 : w1.cell? ⟨b, 0, none⟩ = some (.pointer (some ⟨b, 0, none⟩)) := by rw [Lib.cell_of_heap hbk]; rfl
  have c1 : w1.cell? ⟨b, 1, none⟩ = some v := by rw [Lib.cell_of_heap hbk]; rfl
  go_wp2_with (at_builtin; refine Lib.wpList_append_own_stringF _ rfl _ _ 29 9 rfl B 5 i0 Try.underlying29 Try.underlying9 hi hz0 hz1 hz2 _ _ _ rfl hown s rfl ?c3 ?c4 ?c5 ?_)
  case c3 => unfold maxLen; omega
  case c4 => omega
  case c5 => have := hb1.size; omega
  intro v' w2 hown' hgrow _
  have hlt : b < w1.heap.size := by
    rcases Nat.lt_or_ge b w1.heap.size with h' | h'
    · exact h'
    · simp [Array.getElem?_eq_none h'] at hbk
  have hb2 : w2.heap[b]? = some (.cells #[.pointer (some ⟨b, 0, none⟩), v] 31 (0, 0)) := by
    rw [hgrow.block b hlt (fun e => hne e.symm)]
    exact hbk
  have d0 : w2.cell? ⟨b, 0, none⟩ = some (.pointer (some ⟨b, 0, none⟩)) := by rw [Lib.cell_of_heap hb2]; rfl
  have d1 : w2.cell? ⟨b, 1, none⟩ = some v := by rw [Lib.cell_of_heap hb2]; rfl
  have f1 : w2.frozen? ⟨b, 1, none⟩ = false := Lib.frozen_of_heap hb2 1
  obtain ⟨ao, n', cap, rfl⟩ : ∃ ao n' cap, v' = .slice ao n' cap := by
    rcases hown'.2 with ⟨hv, _⟩ | ⟨g, cap, cur, fz, hv, _⟩
    · exact ⟨_, _, _, hv⟩
    · exact ⟨_, _, _, hv⟩
  go_wp2
  go_ret2
  refine ⟨rfl, ?_, ?_⟩
  · exact Lib.BuilderAtF.put (T := 31) (e := 5) hB hb2 (bs' := bs ++ Lib.strCells s) (by simpa [Lib.strCells_length] using hown') (by decide)
  · exact (hb1.grown hgrow (by have := hb1.size; omega) (fun k hk => (hown.lt k hk).1)).setCell (p := ⟨b, 1, none⟩) hB _

end Go.Proofs.Ytnipkaomdamgaaa

/- The contracts of the library that this program uses, laid at this program. Written by a tool of the kit. -/
set_option linter.unusedVariables false
set_option maxRecDepth 100000
namespace Go.Proofs
open Go.Shelf
def Try.lays169_ren : Go.Shelf.Ren := ⟨fun | 169 => 13 | n => n, fun | 70 => 28 | 9 => 9 | 0 => 0 | 72 => 31 | 37 => 29 | 127 => 39 | 3 => 3 | 5 => 5 | n => n, fun | n => n⟩
theorem Try.lays169 : Go.Proofs.Lays.n169 Try.prog Try.lays169_ren := {
  mixed := by kernel_rfl
  f169 := Try.func13.trans (congrArg some (by kernel_rfl))
  t0 := Try.underlying0
  a0 := Try.isAgg0
  z0 := Try.sizeOf0
  v0 := Try.zeroValue0
  t3 := Try.underlying3
  a3 := Try.isAgg3
  z3 := Try.sizeOf3
  v3 := Try.zeroValue3
  t9 := Try.underlying9
  a9 := Try.isAgg9
  z9 := Try.sizeOf9
  v9 := Try.zeroValue9
  t37 := Try.underlying29
  a37 := Try.isAgg29
  z37 := Try.sizeOf29
  v37 := Try.zeroValue29
  t70 := Try.underlying28
  a70 := Try.isAgg28
  z70 := Try.sizeOf28
  v70 := Try.zeroValue28
  t72 := Try.underlying31
  a72 := Try.isAgg31
  z72 := Try.sizeOf31
  v72 := Try.zeroValue31
  t127 := Try.underlying39
  a127 := Try.isAgg39
  z127 := Try.sizeOf39
  v127 := Try.zeroValue39 }
theorem Try.Builder_Extra_169 : Builder.Extra Try.prog Try.lays169_ren := {
  sizeBuilder := by kernel_rfl
  liesBuilder := by kernel_rfl
  t5 := Try.underlying5
  a5 := Try.isAgg5
  z5 := Try.sizeOf5
  v5 := Try.zeroValue5
  infoByte := by kernel_rfl
  cellsByte := by kernel_rfl
  sizeByte := by kernel_rfl
  neB5 := by decide }
open Go.RowKit in theorem Try.Builder_String_any_k (B b : Nat) (l : List UInt8) (w : World) (h : Lib.IsBuilderF 31 5 B b (Lib.byteCells l) w) (hBw : B ≤ w.heap.size) :
    Calls Try.prog 13 #[.pointer (some ⟨b, 0, none⟩)] w fun e w' => e = .returned (.string ⟨l.toArray⟩) ∧ (Lib.IsBuilderF 31 5 B b (Lib.byteCells l) w' ∧ Below B w w' ∧ Lib.OthersKept 5 (some b) w w') := Any.Builder_String_any_k Try.lays169 Try.Builder_Extra_169 B b l w h hBw
end Go.Proofs

/- Function 13 ((*strings.Builder).String): its contract, off what is known of the library. -/
set_option linter.unusedVariables false
set_option linter.unusedSimpArgs false
set_option maxRecDepth 100000
namespace Go.Proofs.Ytnipkaomdamgaaa
open Go Go.Am Go.Proofs

open Go.RowKit
theorem stringB (B b : Nat) (l : List UInt8) (w : World) (h : Lib.IsBuilderF 31 5 B b (Lib.byteCells l) w) (hBw : B ≤ w.heap.size) :
    Calls Try.prog 13 #[.pointer (some ⟨b, 0, none⟩)] w fun e w' => e = .returned (.string ⟨l.toArray⟩) ∧ Below B w w' := by
  refine (Try.Builder_String_any_k B b l w h hBw).mono ?_
  rintro e w' ⟨rfl, _, h2, _⟩
  exact ⟨rfl, h2⟩

end Go.Proofs.Ytnipkaomdamgaaa

/- Function 7 (impl.ReportText): its contract; the builder by the kit's walk, the callee by its contract. -/
set_option linter.unusedVariables false
set_option linter.unusedSimpArgs false
set_option maxRecDepth 100000
namespace Go.Proofs.Ytnipkaomdamgaaa
open Go Go.Am Go.Proofs Go.RowKit
abbrev BY7 : Ty := .str
theorem vb7 (W : World) (x0 : List ByteArray) (v : Value) (hgo : GOk W []) (ha : RepB W (Am.Good W []) (toAtom (.sl BY7) x0) v) :
    Calls Try.prog 11 #[v] W fun e w' => e = .returned (.bool (g11_0 x0)) ∧ Below W.heap.size W w' := by
  have h := con11 W (x0, ()) [v] [[]] hgo trivial ⟨v, [], [], [], rfl, rfl, ⟨rfl, ha⟩, rfl, rfl⟩ (by simp)
  refine h.mono ?_
  rintro e w' ⟨rs, ubs, rbs, rfl, hk, ⟨u, s, b1, bs1, cs, rfl, rfl, ho, hv, rfl, rfl⟩, _⟩
  obtain ⟨ho, _⟩ := ho
  have hv : cs = [u] := hv
  rw [ho] at hv
  cases hv
  exact ⟨rfl, hk.below⟩

theorem gok7 {w W : World} (h : GOk w []) (hb : Below w.heap.size w W) : GOk W [] where
  inv := h.inv.keep fun b _ hs => hb.5 b hs
  size := Nat.le_trans h.size hb.4
  out := h.out

theorem rep7 {w W : World} {x0 : List ByteArray} {v : Value} (hb : Below w.heap.size w W) (ha : RepB w (Am.Good w []) (toAtom (.sl BY7) x0) v) : RepB W (Am.Good W []) (toAtom (.sl BY7) x0) v :=
  repB_keep (fun b hg => ⟨Nat.lt_of_lt_of_le hg.1 hb.4, hg.2⟩) (fun b hg => hb.5 b hg.1) ha

theorem bld7 {T e : TypeId} {B b : Nat} {p : Value} {bs : List Value} {W W' : World} (h : Lib.BuilderAtF T e B b p bs W) (hb : Below W.heap.size W W') : Lib.BuilderAtF T e B b p bs W' := by
  obtain ⟨h1, v, h2, h3, h4⟩ := h
  have lt : ∀ {g : Nat} {o : Obj}, W.heap[g]? = some o → W'.heap[g]? = some o := fun {g o} hg => by
    have : g < W.heap.size := by
      rcases Nat.lt_or_ge g W.heap.size with h' | h'
      · exact h'
      · rw [Array.getElem?_eq_none h'] at hg; cases hg
    rw [hb.5 g this]; exact hg
  refine ⟨h1, v, lt h2, ⟨h3.1, ?_⟩, h4⟩
  rcases h3.2 with hn | ⟨g, cap, cur, fz, e1, e2, e3, e4⟩
  · exact .inl hn
  · exact .inr ⟨g, cap, cur, fz, e1, e2, lt e3, e4⟩

theorem weak7 {B B' : Nat} {a b : World} (h : Below B a b) (hB : B' ≤ B) : Below B' a b := ⟨h.1, h.2, h.3, h.4, fun k hk => h.5 k (by omega)⟩
theorem isb7 {T e : TypeId} {B b : Nat} {bs : List Value} {W W' : World} (h : Lib.IsBuilderF T e B b bs W) (hb : Below W.heap.size W W') : Lib.IsBuilderF T e B b bs W' :=
  h.elim (fun x => .inl (bld7 x hb)) (fun x => .inr (bld7 x hb))
theorem cells7 (a b : ByteArray) : Lib.strCells (a ++ b) = Lib.strCells a ++ Lib.strCells b := by
  unfold Lib.strCells
  rw [ByteArray.data_append, Array.toList_append, List.map_append]


theorem cell7 {w : World} {x0 : List ByteArray} {b off : Nat} (hc : ∀ j u, (fcs BY7 x0)[j]? = some u → w.cell? ⟨b, off + j, none⟩ = some u) (k : Nat) (hk : k < x0.length) :
    w.cell? ⟨b, off + k, none⟩ = some (.string (x0.getD k ByteArray.empty)) := by
  have key : ∀ (xs : List ByteArray), fcs BY7 xs = xs.map Value.string := by
    intro xs
    induction xs with
    | nil => rfl
    | cons x r ih => unfold fcs at ih ⊢; rw [List.map_cons, List.flatten_cons, ih]; rfl
  refine hc k _ ?_
  rw [key, List.getElem?_map, getD_of_lt x0 k ByteArray.empty hk]
  rfl

def acc7 (x0 : List ByteArray) (k : Nat) : ByteArray := (x0.take k).foldl (fun o b => o ++ (b ++ ByteArray.mk #[10])) (ByteArray.mk #[])

theorem acc7_succ (x0 : List ByteArray) (k : Nat) (h : k < x0.length) : acc7 x0 (k + 1) = acc7 x0 k ++ (x0.getD k ByteArray.empty ++ ByteArray.mk #[10]) := by
  unfold acc7
  rw [List.take_add_one, getD_of_lt x0 k ByteArray.empty h]
  simp only [Option.toList_some, List.foldl_append, List.foldl_cons, List.foldl_nil]

theorem acc7_size (x0 : List ByteArray) (hp : ∀ x ∈ x0, x.size ≤ 1048576) : ∀ k, k ≤ x0.length → (acc7 x0 k).size ≤ 1048577 * k
  | 0, _ => Nat.zero_le _
  | k + 1, h => by
    have ih := acc7_size x0 hp k (by omega)
    have hx := hp _ (mem_getD x0 k ByteArray.empty (by omega))
    rw [acc7_succ x0 k (by omega), ByteArray.size_append, ByteArray.size_append]
    have i1 : (ByteArray.mk #[10]).size = 1 := rfl
    omega

set_option maxHeartbeats 4000000 in
theorem walk7 (w : World) (x0 : List ByteArray) (b off cap : Nat) (hgo : GOk w []) (hl : x0.length ≤ cap) (hcap : cap ≤ maxLen) (hb : b < w.heap.size) (hok : g11_0 x0 = true) (hn : x0.length ≤ 1048576)
    (ha : RepB w (Am.Good w []) (toAtom (.sl BY7) x0) (.slice (some ⟨b, off, none⟩) x0.length cap)) (hc : ∀ j u, (fcs BY7 x0)[j]? = some u → w.cell? ⟨b, off + j, none⟩ = some u)
    (hp : ∀ x ∈ x0, x.size ≤ 1048576) :
    Calls Try.prog 7 #[.slice (some ⟨b, off, none⟩) x0.length cap] w fun e w' => e = .returned (.string (acc7 x0 x0.length)) ∧ Below w.heap.size w w' := by
  have HA : Aside (RepB w (Am.Good w []) (toAtom (.sl BY7) x0) (.slice (some ⟨b, off, none⟩) x0.length cap)) := ha
  have HC : Aside (∀ j u, (fcs BY7 x0)[j]? = some u → w.cell? ⟨b, off + j, none⟩ = some u) := hc
  have HP : Aside (∀ x ∈ x0, x.size ≤ 1048576) := hp
  clear ha hc hp
  have mixed := mixed
  go_enter Try.func7, Try.ntmps7
  go_wp2_with (go_at_call 11; refine (vb7 _ x0 _ hgo HA.out).mono ?_)
  rintro e w1 ⟨rfl, b1⟩
  rw [hok]
  go_wp2
  have a1 : Below w1.heap.size w1 (w1.alloc (.cells #[.pointer none, .slice none 0 0] 31)) := (Below.refl _ w1).alloc (Nat.le_refl _) _
  have i1 : Lib.IsBuilderF 31 5 w1.heap.size w1.heap.size [] (w1.alloc (.cells #[.pointer none, .slice none 0 0] 31)) := Lib.IsBuilderF.of (Lib.fresh_isBuilder 31 5 w1)
  go_loopw [11] (fun i wr => ∃ k : Nat, k ≤ x0.length ∧ i = .int .i64 k ∧ Lib.IsBuilderF 31 5 w1.heap.size w1.heap.size (Lib.strCells (acc7 x0 k)) wr ∧ Below w1.heap.size w1 wr) (fun i _ => x0.length - (intOf i).toNat)
  case atStart => exact ⟨0, Nat.zero_le _, rfl, i1, a1⟩
  case round =>
    obtain ⟨k, hk, rfl, hbl, hbw⟩ := hrel
    have eb : wr.heap[b]? = w.heap[b]? := (hbw.block b (Nat.lt_of_lt_of_le hb b1.size)).trans (b1.block b hb)
    by_cases hlt : k < x0.length
    · have q1 := cell7 HC.out k hlt
      have e1 : wr.cell? ⟨b, off + k, none⟩ = some (.string (x0.getD k ByteArray.empty)) := (World.cell?_of_block eb).trans q1
      clear q1
      have hsuc := acc7_succ x0 k hlt
      have p2 := HP.out _ (mem_getD x0 k ByteArray.empty hlt)
      generalize hx : x0.getD k ByteArray.empty = x at *
      have hsz := acc7_size x0 HP.out k hk
      have HS : Aside (acc7 x0 (k + 1) = acc7 x0 k ++ (x ++ ByteArray.mk #[10])) := hsuc
      clear hsuc
      have a5 : Below w1.heap.size w1 wr := hbw
      have h5 : Lib.IsBuilderF 31 5 w1.heap.size w1.heap.size (Lib.strCells (acc7 x0 k)) wr := hbl
      have i10 : (x ++ ByteArray.mk #[10]).size ≤ 1048577 := by
        rw [ByteArray.size_append]
        show _ + 1 ≤ 1048577
        omega
      go_wp2_with (go_at_call 12; refine (writeString w1.heap.size w1.heap.size (Lib.strCells (acc7 x0 k)) (x ++ ByteArray.mk #[10]) _ h5 (by rw [Lib.strCells_length]; omega) a5.size).mono ?_)
      rintro e w6 ⟨rfl, h6, b6⟩
      rw [← cells7, ← HS.out] at h6
      have c6 : Below w1.heap.size w1 w6 := a5.trans b6
      go_wp2
      go_roundw
      case rel => exact ⟨k + 1, by omega, by simp, Or.inr h6, c6⟩
      case measure => simp [intOf]; omega
    · have hkn : k = x0.length := by omega
      subst hkn
      have h7 : Lib.IsBuilderF 31 5 w1.heap.size w1.heap.size (Lib.byteCells (acc7 x0 x0.length).data.toList) wr := by
        rw [← Lib.strCells_eq]; exact hbl
      go_wp2_with (go_at_call 13; refine (stringB w1.heap.size w1.heap.size (acc7 x0 x0.length).data.toList _ h7 hbw.size).mono ?_)
      rintro e w8 ⟨rfl, b8⟩
      have e8 : (⟨(acc7 x0 x0.length).data.toList.toArray⟩ : ByteArray) = acc7 x0 x0.length := by simp
      rw [e8]
      go_wp2
      go_ret
      exact ⟨rfl, b1.trans (weak7 (hbw.trans b8) b1.size)⟩

set_option maxHeartbeats 4000000 in
theorem walkNil7 (w : World) (ad : Option Addr) (hgo : GOk w []) (hok : g11_0 [] = true) (ha : RepB w (Am.Good w []) (toAtom (.sl BY7) []) (.slice ad 0 0)) :
    Calls Try.prog 7 #[.slice ad 0 0] w fun e w' => e = .returned (.string (acc7 [] 0)) ∧ Below w.heap.size w w' := by
  have HA : Aside (RepB w (Am.Good w []) (toAtom (.sl BY7) []) (.slice ad 0 0)) := ha
  clear ha
  have mixed := mixed
  go_enter Try.func7, Try.ntmps7
  go_wp2_with (go_at_call 11; refine (vb7 _ [] _ hgo HA.out).mono ?_)
  rintro e w1 ⟨rfl, b1⟩
  rw [hok]
  go_wp2
  have a1 : Below w1.heap.size w1 (w1.alloc (.cells #[.pointer none, .slice none 0 0] 31)) := (Below.refl _ w1).alloc (Nat.le_refl _) _
  have i1 : Lib.IsBuilderF 31 5 w1.heap.size w1.heap.size [] (w1.alloc (.cells #[.pointer none, .slice none 0 0] 31)) := Lib.IsBuilderF.of (Lib.fresh_isBuilder 31 5 w1)
  go_loopw [11] (fun i wr => i = .int .i64 0 ∧ Lib.IsBuilderF 31 5 w1.heap.size w1.heap.size (Lib.strCells (acc7 [] 0)) wr ∧ Below w1.heap.size w1 wr) (fun i _ => 0)
  case atStart => exact ⟨rfl, i1, a1⟩
  case round =>
    obtain ⟨rfl, hbl, hbw⟩ := hrel
    have h7 : Lib.IsBuilderF 31 5 w1.heap.size w1.heap.size (Lib.byteCells (acc7 [] 0).data.toList) wr := by
      rw [← Lib.strCells_eq]; exact hbl
    go_wp2_with (go_at_call 13; refine (stringB w1.heap.size w1.heap.size (acc7 [] 0).data.toList _ h7 hbw.size).mono ?_)
    rintro e w8 ⟨rfl, b8⟩
    have e8 : (⟨(acc7 [] 0).data.toList.toArray⟩ : ByteArray) = acc7 [] 0 := by simp
    rw [e8]
    go_wp2
    go_ret
    exact ⟨rfl, b1.trans (weak7 (hbw.trans b8) b1.size)⟩

set_option maxHeartbeats 4000000 in
theorem walkBad7 (w : World) (x0 : List ByteArray) (v : Value) (hgo : GOk w []) (hok : g11_0 x0 = false) (ha : RepB w (Am.Good w []) (toAtom (.sl BY7) x0) v) :
    Calls Try.prog 7 #[v] w fun e w' => e = .returned (.string ⟨#[]⟩) ∧ Below w.heap.size w w' := by
  have HA : Aside (RepB w (Am.Good w []) (toAtom (.sl BY7) x0) v) := ha
  clear ha
  have mixed := mixed
  go_enter Try.func7, Try.ntmps7
  go_wp2_with (go_at_call 11; refine (vb7 _ x0 _ hgo HA.out).mono ?_)
  rintro e w1 ⟨rfl, b1⟩
  rw [hok]
  go_wp2
  go_ret
  exact ⟨rfl, b1⟩

def sig7 : List AT := [AT.v (.sl BY7)]
def g7_0 (x0 : List ByteArray) : ByteArray := if g11_0 x0 = true then acc7 x0 x0.length else ByteArray.mk #[]
def P7 (x0 : List ByteArray) : Prop := x0.length ≤ 1048576 ∧ ∀ x ∈ x0, x.size ≤ 1048576
def S7 : Am.Spec := { sig := sig7, pre := fun ⟨x0, _⟩ => P7 x0, res := fun ⟨x0, _⟩ => [⟨Ty.str, g7_0 x0⟩] }

theorem con7 : Contract Try.prog 7 S7 := contract_flat rfl fun w ⟨x0, _⟩ vs bss hg hp hw ha => by
  obtain ⟨v0, s0, _, _, rfl, _, ⟨_, ha⟩, rfl, _⟩ := ha
  obtain ⟨hl, hp⟩ : x0.length ≤ 1048576 ∧ ∀ x ∈ x0, x.size ≤ 1048576 := hp
  have hgo : GOk w [] := ⟨hg, hg.size, fun b hb => by cases hb⟩
  obtain ⟨hwf, hml, hcase⟩ := slAt_flat (t := BY7) rfl ha
  refine ⟨fun d hd => ?_, ?_⟩
  · simp only [List.mem_cons, List.mem_nil_iff, or_false] at hd
    rcases hd with rfl
    refine ⟨rfl, ?_⟩
    show (g7_0 x0).size ≤ maxLen
    unfold g7_0
    split
    · have := acc7_size x0 hp x0.length (Nat.le_refl _)
      unfold maxLen; omega
    · exact Nat.zero_le _
  · show Calls Try.prog 7 #[v0] w fun e w' => e = .returned (.string (g7_0 x0)) ∧ Kept [] w w'
    unfold g7_0
    by_cases h : g11_0 x0 = true
    · rw [if_pos h]
      rcases hcase with ⟨ad, rfl, rfl⟩ | ⟨b', off, cap, rfl, h2, h3, hG, hcells⟩
      · refine (walkNil7 w ad hgo h ha).mono ?_
        rintro e w' ⟨rfl, hb⟩
        exact ⟨rfl, Kept.of_below hb⟩
      · refine (walk7 w x0 b' off cap hgo h2 h3 hG.1 h hl ha hcells hp).mono ?_
        rintro e w' ⟨rfl, hb⟩
        exact ⟨rfl, Kept.of_below hb⟩
    · rw [if_neg h]
      refine (walkBad7 w x0 v0 hgo (Bool.eq_false_iff.2 h) ha).mono ?_
      rintro e w' ⟨rfl, hb⟩
      exact ⟨rfl, Kept.of_below hb⟩
end Go.Proofs.Ytnipkaomdamgaaa

/- Function 8 (laws.eqStringS): its runs between cut points. Written by a program of this repo (gen). -/
set_option linter.unusedVariables false
set_option linter.unusedSimpArgs false
set_option maxRecDepth 100000
namespace Go.Proofs.Ytnipkaomdamgaaa
open Go Go.Am Go.Proofs
def ext8 : Ext := []
theorem ext8Ok : ExtOk Try.prog ext8 := trivial
/-! Function 8. -/
noncomputable def b8 : Code := bodyOf Try.f8
theorem hb8 : Try.f8.body = some b8 := by kernel_rfl
def sig8 : List AT := [AT.v (Ty.sl Ty.str), AT.v (Ty.sl Ty.str)]
def tys8 : List Ty := [Ty.bool]
def E8_4 (v5 : Int) (x0 : List ByteArray) (x1 : List ByteArray) : Env := [(0, PV.a (Atom.sl Ty.str x0)), (1, PV.a (Atom.sl Ty.str x1)), (5, PV.a (Atom.val (Value.int IntKind.i64 v5)))]
def L8_4 (v5 : Int) (x0 : List ByteArray) (x1 : List ByteArray) : Heap := []
mutual
def R8 : Nat → List ByteArray → List ByteArray → List Dyn → Prop
  | 0, _, _, _ => False
  | n + 1, x0, x1, ds => (if ((↑(List.length x0) : Int) != (↑(List.length x1) : Int)) = true then (ds = [Dyn.mk Ty.bool Bool.false]) else (R8_4 n (0) (x0) (x1) ds))
def R8_4 : Nat → Int → List ByteArray → List ByteArray → List Dyn → Prop
  | 0, _, _, _, _ => False
  | n + 1, v5, x0, x1, ds => (if (Decidable.decide (v5 < (↑(List.length x0) : Int))) = true then ((0 ≤ v5) ∧ (v5 < (↑(List.length x0) : Int)) ∧ ((0 ≤ v5) ∧ (v5 < (↑(List.length x1) : Int)) ∧ (if (!ByteArray.toList (List.getD x0 (Int.toNat v5) ByteArray.empty) == ByteArray.toList (List.getD x1 (Int.toNat v5) ByteArray.empty)) = true then (ds = [Dyn.mk Ty.bool Bool.false]) else ((InR IntKind.i64 (v5 + 1)) ∧ (R8_4 n (v5 + 1) (x0) (x1) ds))))) else (ds = [Dyn.mk Ty.bool Bool.true]))
end
theorem p8_0 (x0 : List ByteArray) (x1 : List ByteArray) : runF tab ext8 false 26 [] 2000 [] tys8 Try.f8.results [true] [.code b8] (entE 0 0 sig8 (x0, x1, ())) (entL sig8 (x0, x1, ())) = some ([Dyn.mk Ty.bool Bool.false], [], [((↑(List.length x0) : Int) != (↑(List.length x1) : Int)) = Bool.true]) := by kernel_rfl
theorem p8_1 (x0 : List ByteArray) (x1 : List ByteArray) : Am.runN tab ext8 false 26 [] 2000 [] [] [0, 1, 5] [] [false] [.code b8] (entE 0 0 sig8 (x0, x1, ())) (entL sig8 (x0, x1, ())) = some (cutAt b8 4, E8_4 (0) (x0) (x1), L8_4 (0) (x0) (x1), [((↑(List.length x0) : Int) != (↑(List.length x1) : Int)) = Bool.false]) := by kernel_rfl
theorem p8_2 (v5 : Int) (x0 : List ByteArray) (x1 : List ByteArray) : runF tab ext8 false 26 [] 2000 [] tys8 Try.f8.results [true, true] (cutAt b8 4) (E8_4 v5 x0 x1) (L8_4 v5 x0 x1) = some ([Dyn.mk Ty.bool Bool.false], [], [Decidable.decide (v5 < (↑(List.length x0) : Int)) = Bool.true, 0 ≤ v5, v5 < (↑(List.length x0) : Int), 0 ≤ v5, v5 < (↑(List.length x1) : Int), (!ByteArray.toList (List.getD x0 (Int.toNat v5) ByteArray.empty) == ByteArray.toList (List.getD x1 (Int.toNat v5) ByteArray.empty)) = Bool.true]) := by kernel_rfl
theorem p8_3 (v5 : Int) (x0 : List ByteArray) (x1 : List ByteArray) : Am.runN tab ext8 false 26 [] 2000 [] [] [0, 1, 5] [] [true, false] (cutAt b8 4) (E8_4 v5 x0 x1) (L8_4 v5 x0 x1) = some (cutAt b8 4, E8_4 (v5 + 1) (x0) (x1), L8_4 (v5 + 1) (x0) (x1), [Decidable.decide (v5 < (↑(List.length x0) : Int)) = Bool.true, 0 ≤ v5, v5 < (↑(List.length x0) : Int), 0 ≤ v5, v5 < (↑(List.length x1) : Int), (!ByteArray.toList (List.getD x0 (Int.toNat v5) ByteArray.empty) == ByteArray.toList (List.getD x1 (Int.toNat v5) ByteArray.empty)) = Bool.false, InR IntKind.i64 (v5 + 1)]) := by kernel_rfl
theorem p8_4 (v5 : Int) (x0 : List ByteArray) (x1 : List ByteArray) : runF tab ext8 false 26 [] 2000 [] tys8 Try.f8.results [false] (cutAt b8 4) (E8_4 v5 x0 x1) (L8_4 v5 x0 x1) = some ([Dyn.mk Ty.bool Bool.true], [], [Decidable.decide (v5 < (↑(List.length x0) : Int)) = Bool.false]) := by kernel_rfl
theorem snd8 : ∀ n, (∀ (x0 : List ByteArray) (x1 : List ByteArray) ds, R8 n x0 x1 ds → ∀ w0 O q, AtV Try.prog 8 (PostR ds [] [] q w0 O) 26 w0 O q [] [.code b8] (entE 0 0 sig8 (x0, x1, ())) (entL sig8 (x0, x1, ()))) ∧ (∀ (v5 : Int) (x0 : List ByteArray) (x1 : List ByteArray) ds, R8_4 n v5 x0 x1 ds → ∀ w0 O q, AtV Try.prog 8 (PostR ds [] [] q w0 O) 26 w0 O q [] (cutAt b8 4) (E8_4 v5 x0 x1) (L8_4 v5 x0 x1)) := by
  intro n
  induction n with
  | zero => exact ⟨fun _ _ _ h => by simp only [R8] at h, fun _ _ _ _ h => by simp only [R8_4] at h⟩
  | succ n ih =>
  obtain ⟨ih, ih4⟩ := ih
  refine ⟨?_, ?_⟩
  · intro x0 x1 ds h w0 O q
    rw [R8] at h
    by_cases b0 : ((↑(List.length x0) : Int) != (↑(List.length x1) : Int)) = true
    · rw [if_pos b0] at h
      subst h
      exact AtV.fin Try.func8 tabOk ext8Ok mixed (p8_0 x0 x1) ⟨b0, trivial⟩
    · rw [if_neg b0] at h
      replace b0 := Bool.eq_false_iff.2 b0
      exact AtV.runN tabOk ext8Ok mixed (p8_1 x0 x1) ⟨b0, trivial⟩ (ih4 _ _ _ _ h w0 O q)

  · intro v5 x0 x1 ds h w0 O q
    rw [R8_4] at h
    by_cases b0 : (Decidable.decide (v5 < (↑(List.length x0) : Int))) = true
    · rw [if_pos b0] at h
      obtain ⟨s0, s1, h⟩ := h
      obtain ⟨s2, s3, h⟩ := h
      by_cases b1 : (!ByteArray.toList (List.getD x0 (Int.toNat v5) ByteArray.empty) == ByteArray.toList (List.getD x1 (Int.toNat v5) ByteArray.empty)) = true
      · rw [if_pos b1] at h
        subst h
        exact AtV.fin Try.func8 tabOk ext8Ok mixed (p8_2 v5 x0 x1) ⟨b0, s0, s1, s2, s3, b1, trivial⟩
      · rw [if_neg b1] at h
        replace b1 := Bool.eq_false_iff.2 b1
        obtain ⟨s4, h⟩ := h
        exact AtV.runN tabOk ext8Ok mixed (p8_3 v5 x0 x1) ⟨b0, s0, s1, s2, s3, b1, s4, trivial⟩ (ih4 _ _ _ _ h w0 O q)
    · rw [if_neg b0] at h
      replace b0 := Bool.eq_false_iff.2 b0
      subst h
      exact AtV.fin Try.func8 tabOk ext8Ok mixed (p8_4 v5 x0 x1) ⟨b0, trivial⟩



theorem eq8 (x0 x1 : List (ByteArray)) (hl : x0.length = x1.length) (hm : x0.length ≤ maxLen) : ∀ k i : Nat, i + k = x0.length → R8_4 (k + 1) (i : Int) x0 x1 [⟨.bool, decide (x0.drop i = x1.drop i)⟩] := by
  intro k
  induction k with
  | zero =>
    intro i hi
    have h1 : ¬ (i : Int) < (x0.length : Int) := by omega
    rw [R8_4, if_neg (by simpa using h1), drop_end x0 i (by omega), drop_end x1 i (by omega)]
    simp
  | succ k ih =>
    intro i hi
    have h1 : (i : Int) < (x0.length : Int) := by omega
    rw [R8_4, if_pos (by simpa using h1)]
    refine ⟨by omega, h1, by omega, by omega, ?_⟩
    simp only [Int.toNat_natCast]
    rw [drop_get x0 i ByteArray.empty (by omega), drop_get x1 i ByteArray.empty (by omega)]
    by_cases he : x0.getD i ByteArray.empty = x1.getD i ByteArray.empty
    · have hd := (bytes_eq _ _).2 he
      rw [if_neg (by rw [hd]; simp)]
      refine ⟨inR_up hm (by omega), ?_⟩
      have := ih (i + 1) (by omega)
      simp only [he, List.cons.injEq, true_and]
      exact this
    · have hd : (ByteArray.toList (x0.getD i ByteArray.empty) == ByteArray.toList (x1.getD i ByteArray.empty)) = false :=
        (bytes_ne _ _).2 he
      rw [if_pos (by rw [hd]; rfl)]
      simp only [he, List.cons.injEq, false_and, decide_false]

def g8_0 (x0 x1 : List (ByteArray)) : Bool := decide (x0 = x1)
def P8 (x0 x1 : List (ByteArray)) : Prop := True
def S8 : Am.Spec := { sig := sig8, pre := fun ⟨x0, x1, _⟩ => P8 x0 x1, res := fun ⟨x0, x1, _⟩ => [⟨Ty.bool, g8_0 x0 x1⟩] }
theorem con8 : Contract Try.prog 8 S8 := contract_of Try.func8 hb8 (Nat.le_of_ble_eq_true (by kernel_rfl)) (fun ⟨x0, x1, _⟩ h hwf w0 O q => by
  refine (snd8 (x0.length + 2)).1 x0 x1 _ ?_ w0 O q
  show R8 (x0.length + 1 + 1) x0 x1 [⟨Ty.bool, decide (x0 = x1)⟩]
  rw [R8]
  by_cases hl : x0.length = x1.length
  · rw [if_neg (by simp [hl])]
    have := eq8 x0 x1 hl hwf.1.1 x0.length 0 (by omega)
    simpa using this
  · rw [if_pos (by simp; omega)]
    have : x0 ≠ x1 := fun h => hl (by rw [h])
    simp [this])

end Go.Proofs.Ytnipkaomdamgaaa

/- Function 3 (laws.FnExactReportText): its runs between cut points. Written by a program of this repo (gen). -/
set_option linter.unusedVariables false
set_option linter.unusedSimpArgs false
set_option maxRecDepth 100000
namespace Go.Proofs.Ytnipkaomdamgaaa
open Go Go.Am Go.Proofs
def ext3 : Ext := [(4, S4), (6, S6), (5, S5), (7, S7), (8, S8)]
theorem call3_4 : Callable Try.prog 4 := ⟨Try.f4, Try.func4, by kernel_rfl, by kernel_rfl⟩
theorem call3_6 : Callable Try.prog 6 := ⟨Try.f6, Try.func6, by kernel_rfl, by kernel_rfl⟩
theorem call3_5 : Callable Try.prog 5 := ⟨Try.f5, Try.func5, by kernel_rfl, by kernel_rfl⟩
theorem call3_7 : Callable Try.prog 7 := ⟨Try.f7, Try.func7, by kernel_rfl, by kernel_rfl⟩
theorem call3_8 : Callable Try.prog 8 := ⟨Try.f8, Try.func8, by kernel_rfl, by kernel_rfl⟩
theorem ext3Ok : ExtOk Try.prog ext3 := ⟨⟨call3_4, con4⟩, ⟨call3_6, con6⟩, ⟨call3_5, con5⟩, ⟨call3_7, con7⟩, ⟨call3_8, con8⟩, trivial⟩
/-! Function 3. -/
noncomputable def b3 : Code := bodyOf Try.f3
theorem hb3 : Try.f3.body = some b3 := by kernel_rfl
def sig3 : List AT := [AT.v (Ty.sl Ty.str)]
def tys3 : List Ty := [Ty.bool]
def P3 (x0 : List ByteArray) : Prop := ((P4 x0 1048576) ∧ (if (Decidable.decide (g4_0 x0 1048576 < 0)) = true then True else ((P6 x0) ∧ ((P5 (g6_0 x0)) ∧ ((P6 x0) ∧ ((P7 (g6_0 x0)) ∧ (if (!ByteArray.toList (g7_0 (g6_0 x0)) == ByteArray.toList (g5_0 (g6_0 x0))) = true then True else ((P6 x0) ∧ True))))))))
def g3_0 (x0 : List ByteArray) : Bool := (if (Decidable.decide (g4_0 x0 1048576 < 0)) = true then Bool.true else (if (!ByteArray.toList (g7_0 (g6_0 x0)) == ByteArray.toList (g5_0 (g6_0 x0))) = true then Bool.false else (if (!g8_0 (g6_0 x0) (g6_0 x0)) = true then Bool.false else Bool.true)))
theorem p3_0 (x0 : List ByteArray) : runF tab ext3 false 27 [] 2000 [] tys3 Try.f3.results [true] [.code b3] (entE 0 0 sig3 (x0, ())) (entL sig3 (x0, ())) = some ([Dyn.mk Ty.bool Bool.true], [], [P4 x0 1048576, Decidable.decide (g4_0 x0 1048576 < 0) = Bool.true]) := by kernel_rfl
theorem p3_1 (x0 : List ByteArray) : runF tab ext3 false 27 [] 2000 [] tys3 Try.f3.results [false, true] [.code b3] (entE 0 0 sig3 (x0, ())) (entL sig3 (x0, ())) = some ([Dyn.mk Ty.bool Bool.false], [], [P4 x0 1048576, Decidable.decide (g4_0 x0 1048576 < 0) = Bool.false, P6 x0, P5 (g6_0 x0), P6 x0, P7 (g6_0 x0), (!ByteArray.toList (g7_0 (g6_0 x0)) == ByteArray.toList (g5_0 (g6_0 x0))) = Bool.true]) := by kernel_rfl
theorem p3_2 (x0 : List ByteArray) : runF tab ext3 false 27 [] 2000 [] tys3 Try.f3.results [false, false, true] [.code b3] (entE 0 0 sig3 (x0, ())) (entL sig3 (x0, ())) = some ([Dyn.mk Ty.bool Bool.false], [], [P4 x0 1048576, Decidable.decide (g4_0 x0 1048576 < 0) = Bool.false, P6 x0, P5 (g6_0 x0), P6 x0, P7 (g6_0 x0), (!ByteArray.toList (g7_0 (g6_0 x0)) == ByteArray.toList (g5_0 (g6_0 x0))) = Bool.false, P6 x0, True, (!g8_0 (g6_0 x0) (g6_0 x0)) = Bool.true]) := by kernel_rfl
theorem p3_3 (x0 : List ByteArray) : runF tab ext3 false 27 [] 2000 [] tys3 Try.f3.results [false, false, false] [.code b3] (entE 0 0 sig3 (x0, ())) (entL sig3 (x0, ())) = some ([Dyn.mk Ty.bool Bool.true], [], [P4 x0 1048576, Decidable.decide (g4_0 x0 1048576 < 0) = Bool.false, P6 x0, P5 (g6_0 x0), P6 x0, P7 (g6_0 x0), (!ByteArray.toList (g7_0 (g6_0 x0)) == ByteArray.toList (g5_0 (g6_0 x0))) = Bool.false, P6 x0, True, (!g8_0 (g6_0 x0) (g6_0 x0)) = Bool.false]) := by kernel_rfl
theorem at3 (x0 : List ByteArray) (h : P3 x0) (w0 : World) (O : List Nat) (q : Nat → Value) : AtV Try.prog 3 (PostR [⟨Ty.bool, g3_0 x0⟩] [] [] q w0 O) 27 w0 O q [] [.code b3] (entE 0 0 sig3 (x0, ())) (entL sig3 (x0, ())) := by
  unfold P3 at h
  unfold g3_0
  obtain ⟨s0, h⟩ := h
  by_cases b0 : (Decidable.decide (g4_0 x0 1048576 < 0)) = true
  · try simp only [if_pos b0] at h ⊢
    exact AtV.fin Try.func3 tabOk ext3Ok mixed (p3_0 x0) ⟨s0, b0, trivial⟩
  · try simp only [if_neg b0] at h ⊢
    replace b0 := Bool.eq_false_iff.2 b0
    obtain ⟨s1, h⟩ := h
    obtain ⟨s2, h⟩ := h
    obtain ⟨s3, h⟩ := h
    obtain ⟨s4, h⟩ := h
    by_cases b1 : (!ByteArray.toList (g7_0 (g6_0 x0)) == ByteArray.toList (g5_0 (g6_0 x0))) = true
    · try simp only [if_pos b1] at h ⊢
      exact AtV.fin Try.func3 tabOk ext3Ok mixed (p3_1 x0) ⟨s0, b0, s1, s2, s3, s4, b1, trivial⟩
    · try simp only [if_neg b1] at h ⊢
      replace b1 := Bool.eq_false_iff.2 b1
      obtain ⟨s5, h⟩ := h
      by_cases b2 : (!g8_0 (g6_0 x0) (g6_0 x0)) = true
      · try simp only [if_pos b2] at h ⊢
        exact AtV.fin Try.func3 tabOk ext3Ok mixed (p3_2 x0) ⟨s0, b0, s1, s2, s3, s4, b1, s5, trivial, b2, trivial⟩
      · try simp only [if_neg b2] at h ⊢
        replace b2 := Bool.eq_false_iff.2 b2
        exact AtV.fin Try.func3 tabOk ext3Ok mixed (p3_3 x0) ⟨s0, b0, s1, s2, s3, s4, b1, s5, trivial, b2, trivial⟩

def S3 : Am.Spec := { sig := sig3, pre := fun ⟨x0, _⟩ => P3 x0, res := fun ⟨x0, _⟩ => [⟨Ty.bool, g3_0 x0⟩] }
theorem con3 : Contract Try.prog 3 S3 := contract_of Try.func3 hb3 (Nat.le_of_ble_eq_true (by kernel_rfl)) (fun ⟨x0, _⟩ h _ w0 O q => at3 x0 h w0 O q)


end Go.Proofs.Ytnipkaomdamgaaa

/- A law that says how functions of the program and of the specification hang together. -/
set_option linter.unusedVariables false
set_option linter.unusedSimpArgs false
set_option maxRecDepth 100000
namespace Go.Proofs.Ytnipkaomdamgaaa
open Go Go.Am Go.Proofs

theorem reportLine (s : ByteArray) : g17_0 s = g14_0 s := by
  unfold g17_0 g20c21_0 g14_0
  rw [any23c21]
  have hq : (!(bytesOf s).any g21_0) = (bytesOf s).all ok14 := by
    rw [List.not_any_eq_all_not]
    congr 1
    funext b
    simp only [g21_0, ok14]
    by_cases h1 : b < 32 <;> by_cases h2 : b > 126 <;> simp [h1, h2] <;> omega
  rw [hq]
  by_cases h : ((s.size : Nat) : Int) ≤ 100
  · have h' : s.size ≤ 100 := by omega
    simp [h, h']
  · have h' : ¬ s.size ≤ 100 := by omega
    simp [h, h']

theorem report (x : List ByteArray) : g11_0 x = g9_0 x := by
  unfold g11_0 g9_0 g15c16_0
  rw [any19c16]
  have hq : (!x.any g16_0) = x.all g14_0 := by
    rw [List.not_any_eq_all_not]
    congr 1
    funext b
    simp only [g16_0, reportLine, Bool.not_not]
  rw [hq]
  by_cases h : ((x.length : Nat) : Int) ≤ 200
  · have h' : x.length ≤ 200 := by omega
    simp [h, h']
  · have h' : ¬ x.length ≤ 200 := by omega
    simp [h, h']

end Go.Proofs.Ytnipkaomdamgaaa

/- The plain law of FnExactReportText. -/
set_option linter.unusedVariables false
set_option linter.unusedSimpArgs false
set_option maxRecDepth 100000
namespace Go.Proofs.Ytnipkaomdamgaaa
open Go Go.Am Go.Proofs

theorem law3 (x : List ByteArray) (hw : Wf (.sl .str) x) : P3 x ∧ g3_0 x = true := by
  unfold P3 g3_0
  have hz : P4 x 1048576 := (show (0 : Int) ≤ 1048576 from by decide)
  by_cases h : g4_0 x 1048576 < 0
  · simp only [h, hz, decide_true, if_true, and_true]
  · have hs := sz4_sum x 1048576 h
    have hp : P6 x := by
      show 16 * (x.length : Int) ≤ 281474976710656
      omega
    have hsm : ∀ y ∈ x, y.size ≤ 1048576 := fun y hy => by
      have := size_le_sizes hy
      omega
    have p2 : P7 x := ⟨by omega, hsm⟩
    have p1 : P5 x := by
      unfold P5
      split
      · trivial
      · exact ⟨⟨by omega, hsm⟩, trivial⟩
    have e0 : g7_0 x = g5_0 x := by
      unfold g7_0 g5_0
      rw [report]
      cases hv : g9_0 x with
      | false => simp
      | true =>
        simp only [if_true, Bool.not_true, Bool.false_eq_true, if_false]
        unfold acc7 g10_0
        rw [List.take_length]
    simp only [h, decide_false, Bool.false_eq_true, if_false, g6_0, e0, p1, p2, g8_0, decide_true, Bool.not_true, bne_self_eq_false, beq_self_eq_true, hp, hz, true_and, and_self]

end Go.Proofs.Ytnipkaomdamgaaa
