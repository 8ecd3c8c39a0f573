/- Function 32: its runs between cut points. Written by a program of this repo (gen). -/
import Derived.Test.YtjoimmmpaocfkaaT
set_option linter.unusedVariables false
set_option linter.unusedSimpArgs false
set_option maxRecDepth 100000
namespace Go.Proofs.Ytjoimmmpaocfkaa
open Go Go.Am Go.Proofs
def ext32 : Ext := []
theorem ext32Ok : ExtOk Try.prog ext32 := trivial
/-! Function 32. -/
noncomputable def b32 : Code := bodyOf Try.f32
theorem hb32 : Try.f32.body = some b32 := by kernel_rfl
def sig32 : List AT := [AT.v (.cons .str (.cons .str (.cons .str .unit))),AT.v (Ty.int .i64)]
def tys32 : List Ty := [.int .i64]
def P32 (x0 : ByteArray × ByteArray × ByteArray × Unit) (x1 : Int) : Prop := ((InR IntKind.i64 (x1 - (↑(ByteArray.size (Prod.fst x0)) : Int))) ∧ (if (Decidable.decide (x1 - (↑(ByteArray.size (Prod.fst x0)) : Int) < 0)) = true then True else ((InR IntKind.i64 (x1 - (↑(ByteArray.size (Prod.fst x0)) : Int) - (↑(ByteArray.size (Prod.fst (Prod.snd x0))) : Int))) ∧ (if (Decidable.decide (x1 - (↑(ByteArray.size (Prod.fst x0)) : Int) - (↑(ByteArray.size (Prod.fst (Prod.snd x0))) : Int) < 0)) = true then True else ((InR IntKind.i64 (x1 - (↑(ByteArray.size (Prod.fst x0)) : Int) - (↑(ByteArray.size (Prod.fst (Prod.snd x0))) : Int) - (↑(ByteArray.size (Prod.fst (Prod.snd (Prod.snd x0)))) : Int))) ∧ True)))))
def g32_0 (x0 : ByteArray × ByteArray × ByteArray × Unit) (x1 : Int) : Int := (if (Decidable.decide (x1 - (↑(ByteArray.size (Prod.fst x0)) : Int) < 0)) = true then -1 else (if (Decidable.decide (x1 - (↑(ByteArray.size (Prod.fst x0)) : Int) - (↑(ByteArray.size (Prod.fst (Prod.snd x0))) : Int) < 0)) = true then -1 else (if (Decidable.decide (x1 - (↑(ByteArray.size (Prod.fst x0)) : Int) - (↑(ByteArray.size (Prod.fst (Prod.snd x0))) : Int) - (↑(ByteArray.size (Prod.fst (Prod.snd (Prod.snd x0)))) : Int) < 0)) = true then -1 else x1 - (↑(ByteArray.size (Prod.fst x0)) : Int) - (↑(ByteArray.size (Prod.fst (Prod.snd x0))) : Int) - (↑(ByteArray.size (Prod.fst (Prod.snd (Prod.snd x0)))) : Int))))
theorem p32_0 (x0 : ByteArray × ByteArray × ByteArray × Unit) (x1 : Int) : runF tab ext32 false 27 [] 2000 tys32 Try.f32.results [true] [.code b32] (entE 0 sig32 (x0, x1, ())) [] = some ([Dyn.mk (Ty.int IntKind.i64) (-1)], [InR IntKind.i64 (x1 - (↑(ByteArray.size (Prod.fst x0)) : Int)), Decidable.decide (x1 - (↑(ByteArray.size (Prod.fst x0)) : Int) < 0) = Bool.true]) := by kernel_rfl
theorem p32_1 (x0 : ByteArray × ByteArray × ByteArray × Unit) (x1 : Int) : runF tab ext32 false 27 [] 2000 tys32 Try.f32.results [false, true] [.code b32] (entE 0 sig32 (x0, x1, ())) [] = some ([Dyn.mk (Ty.int IntKind.i64) (-1)], [InR IntKind.i64 (x1 - (↑(ByteArray.size (Prod.fst x0)) : Int)), Decidable.decide (x1 - (↑(ByteArray.size (Prod.fst x0)) : Int) < 0) = Bool.false, InR IntKind.i64 (x1 - (↑(ByteArray.size (Prod.fst x0)) : Int) - (↑(ByteArray.size (Prod.fst (Prod.snd x0))) : Int)), Decidable.decide (x1 - (↑(ByteArray.size (Prod.fst x0)) : Int) - (↑(ByteArray.size (Prod.fst (Prod.snd x0))) : Int) < 0) = Bool.true]) := by kernel_rfl
theorem p32_2 (x0 : ByteArray × ByteArray × ByteArray × Unit) (x1 : Int) : runF tab ext32 false 27 [] 2000 tys32 Try.f32.results [false, false, true] [.code b32] (entE 0 sig32 (x0, x1, ())) [] = some ([Dyn.mk (Ty.int IntKind.i64) (-1)], [InR IntKind.i64 (x1 - (↑(ByteArray.size (Prod.fst x0)) : Int)), Decidable.decide (x1 - (↑(ByteArray.size (Prod.fst x0)) : Int) < 0) = Bool.false, InR IntKind.i64 (x1 - (↑(ByteArray.size (Prod.fst x0)) : Int) - (↑(ByteArray.size (Prod.fst (Prod.snd x0))) : Int)), Decidable.decide (x1 - (↑(ByteArray.size (Prod.fst x0)) : Int) - (↑(ByteArray.size (Prod.fst (Prod.snd x0))) : Int) < 0) = Bool.false, InR IntKind.i64 (x1 - (↑(ByteArray.size (Prod.fst x0)) : Int) - (↑(ByteArray.size (Prod.fst (Prod.snd x0))) : Int) - (↑(ByteArray.size (Prod.fst (Prod.snd (Prod.snd x0)))) : Int)), Decidable.decide (x1 - (↑(ByteArray.size (Prod.fst x0)) : Int) - (↑(ByteArray.size (Prod.fst (Prod.snd x0))) : Int) - (↑(ByteArray.size (Prod.fst (Prod.snd (Prod.snd x0)))) : Int) < 0) = Bool.true]) := by kernel_rfl
theorem p32_3 (x0 : ByteArray × ByteArray × ByteArray × Unit) (x1 : Int) : runF tab ext32 false 27 [] 2000 tys32 Try.f32.results [false, false, false] [.code b32] (entE 0 sig32 (x0, x1, ())) [] = some ([Dyn.mk (Ty.int IntKind.i64) (x1 - (↑(ByteArray.size (Prod.fst x0)) : Int) - (↑(ByteArray.size (Prod.fst (Prod.snd x0))) : Int) - (↑(ByteArray.size (Prod.fst (Prod.snd (Prod.snd x0)))) : Int))], [InR IntKind.i64 (x1 - (↑(ByteArray.size (Prod.fst x0)) : Int)), Decidable.decide (x1 - (↑(ByteArray.size (Prod.fst x0)) : Int) < 0) = Bool.false, InR IntKind.i64 (x1 - (↑(ByteArray.size (Prod.fst x0)) : Int) - (↑(ByteArray.size (Prod.fst (Prod.snd x0))) : Int)), Decidable.decide (x1 - (↑(ByteArray.size (Prod.fst x0)) : Int) - (↑(ByteArray.size (Prod.fst (Prod.snd x0))) : Int) < 0) = Bool.false, InR IntKind.i64 (x1 - (↑(ByteArray.size (Prod.fst x0)) : Int) - (↑(ByteArray.size (Prod.fst (Prod.snd x0))) : Int) - (↑(ByteArray.size (Prod.fst (Prod.snd (Prod.snd x0)))) : Int)), Decidable.decide (x1 - (↑(ByteArray.size (Prod.fst x0)) : Int) - (↑(ByteArray.size (Prod.fst (Prod.snd x0))) : Int) - (↑(ByteArray.size (Prod.fst (Prod.snd (Prod.snd x0)))) : Int) < 0) = Bool.false]) := by kernel_rfl
theorem at32 (x0 : ByteArray × ByteArray × ByteArray × Unit) (x1 : Int) (h : P32 x0 x1) (w0 : World) : AtV Try.prog 32 (PostR [⟨Ty.int IntKind.i64, g32_0 x0 x1⟩] w0) 27 w0 [] [.code b32] (entE 0 sig32 (x0, x1, ())) [] := by
  unfold P32 at h
  unfold g32_0
  obtain ⟨s0, h⟩ := h
  by_cases b0 : (Decidable.decide (x1 - (↑(ByteArray.size (Prod.fst x0)) : Int) < 0)) = true
  · try simp only [if_pos b0] at h ⊢
    exact AtV.fin Try.func32 tabOk ext32Ok mixed (p32_0 x0 x1) ⟨s0, b0, trivial⟩
  · try simp only [if_neg b0] at h ⊢
    replace b0 := Bool.eq_false_iff.2 b0
    obtain ⟨s1, h⟩ := h
    by_cases b1 : (Decidable.decide (x1 - (↑(ByteArray.size (Prod.fst x0)) : Int) - (↑(ByteArray.size (Prod.fst (Prod.snd x0))) : Int) < 0)) = true
    · try simp only [if_pos b1] at h ⊢
      exact AtV.fin Try.func32 tabOk ext32Ok mixed (p32_1 x0 x1) ⟨s0, b0, s1, b1, trivial⟩
    · try simp only [if_neg b1] at h ⊢
      replace b1 := Bool.eq_false_iff.2 b1
      obtain ⟨s2, h⟩ := h
      by_cases b2 : (Decidable.decide (x1 - (↑(ByteArray.size (Prod.fst x0)) : Int) - (↑(ByteArray.size (Prod.fst (Prod.snd x0))) : Int) - (↑(ByteArray.size (Prod.fst (Prod.snd (Prod.snd x0)))) : Int) < 0)) = true
      · try simp only [if_pos b2] at h ⊢
        exact AtV.fin Try.func32 tabOk ext32Ok mixed (p32_2 x0 x1) ⟨s0, b0, s1, b1, s2, b2, trivial⟩
      · try simp only [if_neg b2] at h ⊢
        replace b2 := Bool.eq_false_iff.2 b2
        exact AtV.fin Try.func32 tabOk ext32Ok mixed (p32_3 x0 x1) ⟨s0, b0, s1, b1, s2, b2, trivial⟩

def S32 : Am.Spec := { sig := sig32, pre := fun ⟨x0, x1, _⟩ => P32 x0 x1, res := fun ⟨x0, x1, _⟩ => [⟨Ty.int IntKind.i64, g32_0 x0 x1⟩] }
theorem con32 : Contract Try.prog 32 S32 := contract_of Try.func32 hb32 rfl (fun _ => rfl) (Nat.le_of_ble_eq_true (by kernel_rfl)) (fun ⟨x0, x1, _⟩ h _ w0 => at32 x0 x1 h w0)


theorem sz32 (x0 : ByteArray × ByteArray × ByteArray × Unit) (x1 : Int) (h : 0 ≤ x1) (hi : InR .i64 x1) (hw : Wf (.cons .str (.cons .str (.cons .str .unit))) x0) :
    P32 x0 x1 ∧ -1 ≤ g32_0 x0 x1 ∧ g32_0 x0 x1 ≤ x1 := by
  have h1 : x0.1.size ≤ 9223372036854775807 := hw.1
  have h2 : x0.2.1.size ≤ 9223372036854775807 := hw.2.1
  have h3 : x0.2.2.1.size ≤ 9223372036854775807 := hw.2.2.1
  rw [i64_iff] at hi
  unfold P32 g32_0
  simp only [decide_eq_true_eq, i64_iff]
  repeat' (first | apply And.intro | split)
  all_goals first | trivial | omega

end Go.Proofs.Ytjoimmmpaocfkaa
