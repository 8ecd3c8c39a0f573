/- Function 21 (laws.szStringS): its runs between cut points. Written by a program of this repo (gen). -/
import Derived.Test.YtjoimmmpaocfkaaT
set_option linter.unusedVariables false
set_option linter.unusedSimpArgs false
set_option maxRecDepth 100000
namespace Go.Proofs.Ytjoimmmpaocfkaa
open Go Go.Am Go.Proofs
def ext21 : Ext := []
theorem ext21Ok : ExtOk Try.prog ext21 := trivial
/-! Function 21. -/
noncomputable def b21 : Code := bodyOf Try.f21
theorem hb21 : Try.f21.body = some b21 := by kernel_rfl
def sig21 : List AT := [AT.v (Ty.sl Ty.str), AT.v (Ty.int IntKind.i64)]
def tys21 : List Ty := [Ty.int IntKind.i64]
def E21_5 (v1 : Int) (v5 : Int) (x0 : List ByteArray) : Env := [(0, PV.a (Atom.sl Ty.str x0)), (1, PV.a (Atom.val (Value.int IntKind.i64 v1))), (5, PV.a (Atom.val (Value.int IntKind.i64 v5)))]
def L21_5 (v1 : Int) (v5 : Int) (x0 : List ByteArray) : Heap := []
mutual
def R21 : Nat → List ByteArray → Int → List Dyn → Prop
  | 0, _, _, _ => False
  | n + 1, x0, x1, ds => ((InR IntKind.i64 (x1 - (↑(List.length x0) : Int))) ∧ (if (Decidable.decide (x1 - (↑(List.length x0) : Int) < 0)) = true then (ds = [Dyn.mk (Ty.int IntKind.i64) (-1)]) else (R21_5 n (x1 - (↑(List.length x0) : Int)) (0) (x0) ds)))
def R21_5 : Nat → Int → Int → List ByteArray → List Dyn → Prop
  | 0, _, _, _, _ => False
  | n + 1, v1, v5, x0, ds => (if (Decidable.decide (v5 < (↑(List.length x0) : Int))) = true then ((0 ≤ v5) ∧ (v5 < (↑(List.length x0) : Int)) ∧ ((InR IntKind.i64 (v1 - (↑(ByteArray.size (List.getD x0 (Int.toNat v5) ByteArray.empty)) : Int))) ∧ (if (Decidable.decide (v1 - (↑(ByteArray.size (List.getD x0 (Int.toNat v5) ByteArray.empty)) : Int) < 0)) = true then (ds = [Dyn.mk (Ty.int IntKind.i64) (-1)]) else ((InR IntKind.i64 (v5 + 1)) ∧ (R21_5 n (v1 - (↑(ByteArray.size (List.getD x0 (Int.toNat v5) ByteArray.empty)) : Int)) (v5 + 1) (x0) ds))))) else (ds = [Dyn.mk (Ty.int IntKind.i64) v1]))
end
theorem p21_0 (x0 : List ByteArray) (x1 : Int) : runF tab ext21 false 28 [] 2000 [] tys21 Try.f21.results [true] [.code b21] (entE 0 0 sig21 (x0, x1, ())) (entL sig21 (x0, x1, ())) = some ([Dyn.mk (Ty.int IntKind.i64) (-1)], [], [InR IntKind.i64 (x1 - (↑(List.length x0) : Int)), Decidable.decide (x1 - (↑(List.length x0) : Int) < 0) = Bool.true]) := by kernel_rfl
theorem p21_1 (x0 : List ByteArray) (x1 : Int) : Am.runN tab ext21 false 28 [] 2000 [] [] [0, 1, 5] [] [false] [.code b21] (entE 0 0 sig21 (x0, x1, ())) (entL sig21 (x0, x1, ())) = some (cutAt b21 5, E21_5 (x1 - (↑(List.length x0) : Int)) (0) (x0), L21_5 (x1 - (↑(List.length x0) : Int)) (0) (x0), [InR IntKind.i64 (x1 - (↑(List.length x0) : Int)), Decidable.decide (x1 - (↑(List.length x0) : Int) < 0) = Bool.false]) := by kernel_rfl
theorem p21_2 (v1 : Int) (v5 : Int) (x0 : List ByteArray) : runF tab ext21 false 28 [] 2000 [] tys21 Try.f21.results [true, true] (cutAt b21 5) (E21_5 v1 v5 x0) (L21_5 v1 v5 x0) = some ([Dyn.mk (Ty.int IntKind.i64) (-1)], [], [Decidable.decide (v5 < (↑(List.length x0) : Int)) = Bool.true, 0 ≤ v5, v5 < (↑(List.length x0) : Int), InR IntKind.i64 (v1 - (↑(ByteArray.size (List.getD x0 (Int.toNat v5) ByteArray.empty)) : Int)), Decidable.decide (v1 - (↑(ByteArray.size (List.getD x0 (Int.toNat v5) ByteArray.empty)) : Int) < 0) = Bool.true]) := by kernel_rfl
theorem p21_3 (v1 : Int) (v5 : Int) (x0 : List ByteArray) : Am.runN tab ext21 false 28 [] 2000 [] [] [0, 1, 5] [] [true, false] (cutAt b21 5) (E21_5 v1 v5 x0) (L21_5 v1 v5 x0) = some (cutAt b21 5, E21_5 (v1 - (↑(ByteArray.size (List.getD x0 (Int.toNat v5) ByteArray.empty)) : Int)) (v5 + 1) (x0), L21_5 (v1 - (↑(ByteArray.size (List.getD x0 (Int.toNat v5) ByteArray.empty)) : Int)) (v5 + 1) (x0), [Decidable.decide (v5 < (↑(List.length x0) : Int)) = Bool.true, 0 ≤ v5, v5 < (↑(List.length x0) : Int), InR IntKind.i64 (v1 - (↑(ByteArray.size (List.getD x0 (Int.toNat v5) ByteArray.empty)) : Int)), Decidable.decide (v1 - (↑(ByteArray.size (List.getD x0 (Int.toNat v5) ByteArray.empty)) : Int) < 0) = Bool.false, InR IntKind.i64 (v5 + 1)]) := by kernel_rfl
theorem p21_4 (v1 : Int) (v5 : Int) (x0 : List ByteArray) : runF tab ext21 false 28 [] 2000 [] tys21 Try.f21.results [false] (cutAt b21 5) (E21_5 v1 v5 x0) (L21_5 v1 v5 x0) = some ([Dyn.mk (Ty.int IntKind.i64) v1], [], [Decidable.decide (v5 < (↑(List.length x0) : Int)) = Bool.false]) := by kernel_rfl
theorem snd21 : ∀ n, (∀ (x0 : List ByteArray) (x1 : Int) ds, R21 n x0 x1 ds → ∀ w0 O q, AtV Try.prog 21 (PostR ds [] [] q w0 O) 28 w0 O q [] [.code b21] (entE 0 0 sig21 (x0, x1, ())) (entL sig21 (x0, x1, ()))) ∧ (∀ (v1 : Int) (v5 : Int) (x0 : List ByteArray) ds, R21_5 n v1 v5 x0 ds → ∀ w0 O q, AtV Try.prog 21 (PostR ds [] [] q w0 O) 28 w0 O q [] (cutAt b21 5) (E21_5 v1 v5 x0) (L21_5 v1 v5 x0)) := by
  intro n
  induction n with
  | zero => exact ⟨fun _ _ _ h => by simp only [R21] at h, fun _ _ _ _ h => by simp only [R21_5] at h⟩
  | succ n ih =>
  obtain ⟨ih, ih5⟩ := ih
  refine ⟨?_, ?_⟩
  · intro x0 x1 ds h w0 O q
    rw [R21] at h
    obtain ⟨s0, h⟩ := h
    by_cases b0 : (Decidable.decide (x1 - (↑(List.length x0) : Int) < 0)) = true
    · rw [if_pos b0] at h
      subst h
      exact AtV.fin Try.func21 tabOk ext21Ok mixed (p21_0 x0 x1) ⟨s0, b0, trivial⟩
    · rw [if_neg b0] at h
      replace b0 := Bool.eq_false_iff.2 b0
      exact AtV.runN tabOk ext21Ok mixed (p21_1 x0 x1) ⟨s0, b0, trivial⟩ (ih5 _ _ _ _ h w0 O q)

  · intro v1 v5 x0 ds h w0 O q
    rw [R21_5] at h
    by_cases b0 : (Decidable.decide (v5 < (↑(List.length x0) : Int))) = true
    · rw [if_pos b0] at h
      obtain ⟨s0, s1, h⟩ := h
      obtain ⟨s2, h⟩ := h
      by_cases b1 : (Decidable.decide (v1 - (↑(ByteArray.size (List.getD x0 (Int.toNat v5) ByteArray.empty)) : Int) < 0)) = true
      · rw [if_pos b1] at h
        subst h
        exact AtV.fin Try.func21 tabOk ext21Ok mixed (p21_2 v1 v5 x0) ⟨b0, s0, s1, s2, b1, trivial⟩
      · rw [if_neg b1] at h
        replace b1 := Bool.eq_false_iff.2 b1
        obtain ⟨s3, h⟩ := h
        exact AtV.runN tabOk ext21Ok mixed (p21_3 v1 v5 x0) ⟨b0, s0, s1, s2, b1, s3, trivial⟩ (ih5 _ _ _ _ h w0 O q)
    · rw [if_neg b0] at h
      replace b0 := Bool.eq_false_iff.2 b0
      subst h
      exact AtV.fin Try.func21 tabOk ext21Ok mixed (p21_4 v1 v5 x0) ⟨b0, trivial⟩



def szL21 : List ByteArray → Int → Int
  | [], l => l
  | x :: r, l => if l - x.size < 0 then -1 else szL21 r (l - x.size)

theorem szL21_sum : ∀ (xs : List ByteArray) (l : Int), ¬ szL21 xs l < 0 → szL21 xs l = l - sizes xs
  | [], l, _ => by simp [szL21, sizes]
  | x :: r, l, h => by
    simp only [szL21] at h ⊢
    split
    · rename_i hn; rw [if_pos hn] at h; omega
    · rename_i hn
      rw [if_neg hn] at h
      rw [szL21_sum r _ h]
      simp only [sizes]
      omega

def g21_0 (x0 : List ByteArray) (x1 : Int) : Int := if x1 - x0.length < 0 then -1 else szL21 x0 (x1 - x0.length)
def P21 (x0 : List ByteArray) (x1 : Int) : Prop := 0 ≤ x1

/-- What the test of size tells. -/
theorem sz21_sum (x0 : List ByteArray) (x1 : Int) (hg : ¬ g21_0 x0 x1 < 0) : g21_0 x0 x1 = x1 - x0.length - sizes x0 := by
  unfold g21_0 at hg ⊢
  split
  · rename_i h; rw [if_pos h] at hg; omega
  · rename_i h; rw [if_neg h] at hg; rw [szL21_sum _ _ hg]

theorem goL21 : ∀ (xs : List ByteArray) (l : Int), goL (fun (b : Int) (x : ByteArray) => if b - x.size < 0 then Except.error [(⟨.int .i64, -1⟩ : Dyn)] else .ok (b - x.size)) (fun b => [⟨.int .i64, b⟩]) l xs = [⟨.int .i64, szL21 xs l⟩]
  | [], l => rfl
  | x :: r, l => by
    simp only [goL, szL21]
    split
    · rename_i b' h
      split at h
      · cases h
      · rename_i hn
        cases h
        rw [if_neg hn]
        exact goL21 r _
    · rename_i d h
      split at h
      · rename_i hn; cases h; rw [if_pos hn]
      · cases h

theorem top21 (x0 : List ByteArray) (x1 : Int) (hw : Wf (.sl .str) x0) (hi : InR .i64 x1) (h : 0 ≤ x1) : R21 (x0.length + 1 + 1) x0 x1 [⟨Ty.int .i64, g21_0 x0 x1⟩] := by
  have hm' : x0.length ≤ 9223372036854775807 := hw.1
  have hi' := hi
  rw [i64_iff] at hi'
  rw [R21]
  refine ⟨by rw [i64_iff]; omega, ?_⟩
  unfold g21_0
  by_cases hn : x1 - (x0.length : Int) < 0
  · rw [if_pos (by simpa using hn), if_pos hn]
  · rw [if_neg (by simpa using hn), if_neg hn, ← goL21]
    refine loop_all x0 ByteArray.empty _ _ (fun _ b => 0 ≤ b ∧ b ≤ x1) (fun n i b ds => R21_5 n b i x0 ds) ⟨by omega, by omega⟩ ?_ ?_
    · intro n b _
      show R21_5 (n + 1) b x0.length x0 _
      rw [R21_5, if_neg (by simp)]
    · intro n i b hi2 hb
      have hs : (x0.getD i ByteArray.empty).size ≤ 9223372036854775807 := hw.2 _ (mem_getD _ _ _ hi2)
      split
      · rename_i b' hf
        split at hf
        · cases hf
        · rename_i hn
          cases hf
          refine ⟨by omega, fun ds hr => ?_⟩
          rw [R21_5, if_pos (by simp; omega)]
          simp only [Int.toNat_natCast]
          refine ⟨by omega, by omega, by rw [i64_iff]; omega, ?_⟩
          rw [if_neg (by simpa using hn)]
          exact ⟨inR_up hw.1 hi2, hr⟩
      · rename_i ds hf
        split at hf
        · rename_i hn
          cases hf
          rw [R21_5, if_pos (by simp; omega)]
          simp only [Int.toNat_natCast]
          refine ⟨by omega, by omega, by rw [i64_iff]; omega, ?_⟩
          rw [if_pos (by simpa using hn)] <;> trivial
        · cases hf

def S21 : Am.Spec := { sig := sig21, pre := fun ⟨x0, x1, _⟩ => P21 x0 x1, res := fun ⟨x0, x1, _⟩ => [⟨Ty.int .i64, g21_0 x0 x1⟩] }
theorem con21 : Contract Try.prog 21 S21 := contract_of Try.func21 hb21 (Nat.le_of_ble_eq_true (by kernel_rfl)) (fun ⟨x0, x1, _⟩ h hwf w0 O q =>
  (snd21 _).1 x0 x1 _ (top21 x0 x1 hwf.1 hwf.2.1 h) w0 O q)

end Go.Proofs.Ytjoimmmpaocfkaa
