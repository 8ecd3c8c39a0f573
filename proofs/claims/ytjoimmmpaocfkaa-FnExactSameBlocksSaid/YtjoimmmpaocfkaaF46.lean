/- Function 46: its runs between cut points. Written by a program of this repo (gen). -/
import Derived.Test.YtjoimmmpaocfkaaT
set_option linter.unusedVariables false
set_option linter.unusedSimpArgs false
set_option maxRecDepth 100000
namespace Go.Proofs.Ytjoimmmpaocfkaa
open Go Go.Am Go.Proofs
def ext46 : Ext := []
theorem ext46Ok : ExtOk Try.prog ext46 := trivial
/-! Function 46. -/
noncomputable def b46 : Code := bodyOf Try.f46
theorem hb46 : Try.f46.body = some b46 := by kernel_rfl
def sig46 : List AT := [AT.v (.cons .str (.cons .str (.cons .str .unit))),AT.v (.cons .str (.cons .str (.cons .str .unit)))]
def tys46 : List Ty := [.bool]
def P46 (x0 : ByteArray × ByteArray × ByteArray × Unit) (x1 : ByteArray × ByteArray × ByteArray × Unit) : Prop := True
def g46_0 (x0 : ByteArray × ByteArray × ByteArray × Unit) (x1 : ByteArray × ByteArray × ByteArray × Unit) : Bool := (if (!ByteArray.toList (Prod.fst x0) == ByteArray.toList (Prod.fst x1)) = true then Bool.false else (if (!ByteArray.toList (Prod.fst (Prod.snd x0)) == ByteArray.toList (Prod.fst (Prod.snd x1))) = true then Bool.false else (if (!ByteArray.toList (Prod.fst (Prod.snd (Prod.snd x0))) == ByteArray.toList (Prod.fst (Prod.snd (Prod.snd x1)))) = true then Bool.false else Bool.true)))
theorem p46_0 (x0 : ByteArray × ByteArray × ByteArray × Unit) (x1 : ByteArray × ByteArray × ByteArray × Unit) : runF tab ext46 false 20 [] 2000 tys46 Try.f46.results [true] [.code b46] (entE 0 sig46 (x0, x1, ())) [] = some ([Dyn.mk Ty.bool Bool.false], [(!ByteArray.toList (Prod.fst x0) == ByteArray.toList (Prod.fst x1)) = Bool.true]) := by kernel_rfl
theorem p46_1 (x0 : ByteArray × ByteArray × ByteArray × Unit) (x1 : ByteArray × ByteArray × ByteArray × Unit) : runF tab ext46 false 20 [] 2000 tys46 Try.f46.results [false, true] [.code b46] (entE 0 sig46 (x0, x1, ())) [] = some ([Dyn.mk Ty.bool Bool.false], [(!ByteArray.toList (Prod.fst x0) == ByteArray.toList (Prod.fst x1)) = Bool.false, (!ByteArray.toList (Prod.fst (Prod.snd x0)) == ByteArray.toList (Prod.fst (Prod.snd x1))) = Bool.true]) := by kernel_rfl
theorem p46_2 (x0 : ByteArray × ByteArray × ByteArray × Unit) (x1 : ByteArray × ByteArray × ByteArray × Unit) : runF tab ext46 false 20 [] 2000 tys46 Try.f46.results [false, false, true] [.code b46] (entE 0 sig46 (x0, x1, ())) [] = some ([Dyn.mk Ty.bool Bool.false], [(!ByteArray.toList (Prod.fst x0) == ByteArray.toList (Prod.fst x1)) = Bool.false, (!ByteArray.toList (Prod.fst (Prod.snd x0)) == ByteArray.toList (Prod.fst (Prod.snd x1))) = Bool.false, (!ByteArray.toList (Prod.fst (Prod.snd (Prod.snd x0))) == ByteArray.toList (Prod.fst (Prod.snd (Prod.snd x1)))) = Bool.true]) := by kernel_rfl
theorem p46_3 (x0 : ByteArray × ByteArray × ByteArray × Unit) (x1 : ByteArray × ByteArray × ByteArray × Unit) : runF tab ext46 false 20 [] 2000 tys46 Try.f46.results [false, false, false] [.code b46] (entE 0 sig46 (x0, x1, ())) [] = some ([Dyn.mk Ty.bool Bool.true], [(!ByteArray.toList (Prod.fst x0) == ByteArray.toList (Prod.fst x1)) = Bool.false, (!ByteArray.toList (Prod.fst (Prod.snd x0)) == ByteArray.toList (Prod.fst (Prod.snd x1))) = Bool.false, (!ByteArray.toList (Prod.fst (Prod.snd (Prod.snd x0))) == ByteArray.toList (Prod.fst (Prod.snd (Prod.snd x1)))) = Bool.false]) := by kernel_rfl
theorem at46 (x0 : ByteArray × ByteArray × ByteArray × Unit) (x1 : ByteArray × ByteArray × ByteArray × Unit) (h : P46 x0 x1) (w0 : World) : AtV Try.prog 46 (PostR [⟨Ty.bool, g46_0 x0 x1⟩] w0) 20 w0 [] [.code b46] (entE 0 sig46 (x0, x1, ())) [] := by
  unfold P46 at h
  unfold g46_0
  by_cases b0 : (!ByteArray.toList (Prod.fst x0) == ByteArray.toList (Prod.fst x1)) = true
  · try simp only [if_pos b0] at h ⊢
    exact AtV.fin Try.func46 tabOk ext46Ok mixed (p46_0 x0 x1) ⟨b0, trivial⟩
  · try simp only [if_neg b0] at h ⊢
    replace b0 := Bool.eq_false_iff.2 b0
    by_cases b1 : (!ByteArray.toList (Prod.fst (Prod.snd x0)) == ByteArray.toList (Prod.fst (Prod.snd x1))) = true
    · try simp only [if_pos b1] at h ⊢
      exact AtV.fin Try.func46 tabOk ext46Ok mixed (p46_1 x0 x1) ⟨b0, b1, trivial⟩
    · try simp only [if_neg b1] at h ⊢
      replace b1 := Bool.eq_false_iff.2 b1
      by_cases b2 : (!ByteArray.toList (Prod.fst (Prod.snd (Prod.snd x0))) == ByteArray.toList (Prod.fst (Prod.snd (Prod.snd x1)))) = true
      · try simp only [if_pos b2] at h ⊢
        exact AtV.fin Try.func46 tabOk ext46Ok mixed (p46_2 x0 x1) ⟨b0, b1, b2, trivial⟩
      · try simp only [if_neg b2] at h ⊢
        replace b2 := Bool.eq_false_iff.2 b2
        exact AtV.fin Try.func46 tabOk ext46Ok mixed (p46_3 x0 x1) ⟨b0, b1, b2, trivial⟩

def S46 : Am.Spec := { sig := sig46, pre := fun ⟨x0, x1, _⟩ => P46 x0 x1, res := fun ⟨x0, x1, _⟩ => [⟨Ty.bool, g46_0 x0 x1⟩] }
theorem con46 : Contract Try.prog 46 S46 := contract_of Try.func46 hb46 rfl (fun _ => rfl) (Nat.le_of_ble_eq_true (by kernel_rfl)) (fun ⟨x0, x1, _⟩ h _ w0 => at46 x0 x1 h w0)


theorem eqd46 (x y : ByteArray × ByteArray × ByteArray × Unit) : g46_0 x y = true ↔ x = y := by
  obtain ⟨a, b, c, u⟩ := x
  obtain ⟨a', b', c', u'⟩ := y
  unfold g46_0
  simp only [Bool.not_eq_true', bytes_ne]
  by_cases h1 : a = a'
  · by_cases h2 : b = b'
    · by_cases h3 : c = c'
      · simp [h1, h2, h3]
      · simp [h1, h2, h3]
    · simp [h1, h2]
  · simp [h1]

end Go.Proofs.Ytjoimmmpaocfkaa
