/- Function 27: its runs between cut points. Written by a program of this repo (gen). -/
import Derived.Test.YtjoimmmpaocfkaaT
import Derived.Test.YtjoimmmpaocfkaaF34
set_option linter.unusedVariables false
set_option linter.unusedSimpArgs false
set_option maxRecDepth 100000
namespace Go.Proofs.Ytjoimmmpaocfkaa
open Go Go.Am Go.Proofs
def ext27 : Ext := [(34, S34)]
theorem call27_34 : Callable Try.prog 34 := ⟨Try.f34, Try.func34, by kernel_rfl, by kernel_rfl⟩
theorem ext27Ok : ExtOk Try.prog ext27 := ⟨⟨call27_34, con34⟩, trivial⟩
/-! Function 27. -/
noncomputable def b27 : Code := bodyOf Try.f27
theorem hb27 : Try.f27.body = some b27 := by kernel_rfl
def sig27 : List AT := [AT.v (.sl (.cons .str (.cons .str (.cons .str .unit))))]
def tys27 : List Ty := [.sl (.cons .str (.cons .str (.cons .str .unit)))]
def E27_3 (v4 : Int) (h0 : List (ByteArray × ByteArray × ByteArray × Unit)) (x0 : List (ByteArray × ByteArray × ByteArray × Unit)) : Env := [(0, PV.a (Atom.sl (Ty.cons Ty.str (Ty.cons Ty.str (Ty.cons Ty.str Ty.unit))) x0)), (3, PV.a (Atom.osl 0 Option.none)), (4, PV.a (Atom.val (Value.int IntKind.i64 v4)))]
def L27_3 (v4 : Int) (h0 : List (ByteArray × ByteArray × ByteArray × Unit)) (x0 : List (ByteArray × ByteArray × ByteArray × Unit)) : Heap := [Option.some (Arr.mk (Ty.cons Ty.str (Ty.cons Ty.str (Ty.cons Ty.str Ty.unit))) h0 Bool.false)]
mutual
def R27 : Nat → List (ByteArray × ByteArray × ByteArray × Unit) → List Dyn → Prop
  | 0, _, _ => False
  | n + 1, x0, ds => ((0 ≤ (↑(List.length x0) : Int)) ∧ ((↑(List.length x0) : Int) ≤ (↑(List.length x0) : Int)) ∧ (48 * (↑(List.length x0) : Int) ≤ 281474976710656) ∧ (R27_3 n (0) (List.replicate (Int.toNat (↑(List.length x0) : Int)) (ByteArray.empty, ByteArray.empty, ByteArray.empty, ())) (x0) ds))
def R27_3 : Nat → Int → List (ByteArray × ByteArray × ByteArray × Unit) → List (ByteArray × ByteArray × ByteArray × Unit) → List Dyn → Prop
  | 0, _, _, _, _ => False
  | n + 1, v4, h0, x0, ds => (if (Decidable.decide (v4 < (↑(List.length x0) : Int))) = true then ((0 ≤ v4) ∧ (v4 < (↑(List.length x0) : Int)) ∧ ((0 ≤ v4) ∧ (v4 < (↑(List.length h0) : Int)) ∧ ((InR IntKind.i64 (v4 + 1)) ∧ (R27_3 n (v4 + 1) (List.set h0 (Int.toNat v4) (Prod.fst (List.getD x0 (Int.toNat v4) (ByteArray.empty, ByteArray.empty, ByteArray.empty, ())), Prod.fst (Prod.snd (List.getD x0 (Int.toNat v4) (ByteArray.empty, ByteArray.empty, ByteArray.empty, ()))), Prod.fst (Prod.snd (Prod.snd (List.getD x0 (Int.toNat v4) (ByteArray.empty, ByteArray.empty, ByteArray.empty, ())))), ())) (x0) ds)))) else (ds = [Dyn.mk (Ty.sl (Ty.cons Ty.str (Ty.cons Ty.str (Ty.cons Ty.str Ty.unit)))) h0]))
end
theorem p27_0 (x0 : List (ByteArray × ByteArray × ByteArray × Unit)) : Am.runN tab ext27 false 23 [] 2000 [] [0, 3, 4] [true] [] [.code b27] (entE 0 sig27 (x0, ())) [] = some (cutAt b27 3, E27_3 (0) (List.replicate (Int.toNat (↑(List.length x0) : Int)) (ByteArray.empty, ByteArray.empty, ByteArray.empty, ())) (x0), L27_3 (0) (List.replicate (Int.toNat (↑(List.length x0) : Int)) (ByteArray.empty, ByteArray.empty, ByteArray.empty, ())) (x0), [0 ≤ (↑(List.length x0) : Int), (↑(List.length x0) : Int) ≤ (↑(List.length x0) : Int), 48 * (↑(List.length x0) : Int) ≤ 281474976710656]) := by kernel_rfl
theorem p27_1 (v4 : Int) (h0 : List (ByteArray × ByteArray × ByteArray × Unit)) (x0 : List (ByteArray × ByteArray × ByteArray × Unit)) : Am.runN tab ext27 false 23 [] 2000 [] [0, 3, 4] [true] [true] (cutAt b27 3) (E27_3 v4 h0 x0) (L27_3 v4 h0 x0) = some (cutAt b27 3, E27_3 (v4 + 1) (List.set h0 (Int.toNat v4) (Prod.fst (List.getD x0 (Int.toNat v4) (ByteArray.empty, ByteArray.empty, ByteArray.empty, ())), Prod.fst (Prod.snd (List.getD x0 (Int.toNat v4) (ByteArray.empty, ByteArray.empty, ByteArray.empty, ()))), Prod.fst (Prod.snd (Prod.snd (List.getD x0 (Int.toNat v4) (ByteArray.empty, ByteArray.empty, ByteArray.empty, ())))), ())) (x0), L27_3 (v4 + 1) (List.set h0 (Int.toNat v4) (Prod.fst (List.getD x0 (Int.toNat v4) (ByteArray.empty, ByteArray.empty, ByteArray.empty, ())), Prod.fst (Prod.snd (List.getD x0 (Int.toNat v4) (ByteArray.empty, ByteArray.empty, ByteArray.empty, ()))), Prod.fst (Prod.snd (Prod.snd (List.getD x0 (Int.toNat v4) (ByteArray.empty, ByteArray.empty, ByteArray.empty, ())))), ())) (x0), [Decidable.decide (v4 < (↑(List.length x0) : Int)) = Bool.true, 0 ≤ v4, v4 < (↑(List.length x0) : Int), True, 0 ≤ v4, v4 < (↑(List.length h0) : Int), InR IntKind.i64 (v4 + 1)]) := by kernel_rfl
theorem p27_2 (v4 : Int) (h0 : List (ByteArray × ByteArray × ByteArray × Unit)) (x0 : List (ByteArray × ByteArray × ByteArray × Unit)) : runF tab ext27 false 23 [] 2000 tys27 Try.f27.results [false] (cutAt b27 3) (E27_3 v4 h0 x0) (L27_3 v4 h0 x0) = some ([Dyn.mk (Ty.sl (Ty.cons Ty.str (Ty.cons Ty.str (Ty.cons Ty.str Ty.unit)))) h0], [Decidable.decide (v4 < (↑(List.length x0) : Int)) = Bool.false]) := by kernel_rfl
theorem snd27 : ∀ n, (∀ (x0 : List (ByteArray × ByteArray × ByteArray × Unit)) ds, R27 n x0 ds → ∀ w0, AtV Try.prog 27 (PostR ds w0) 23 w0 [] [.code b27] (entE 0 sig27 (x0, ())) []) ∧ (∀ (v4 : Int) (h0 : List (ByteArray × ByteArray × ByteArray × Unit)) (x0 : List (ByteArray × ByteArray × ByteArray × Unit)) ds, R27_3 n v4 h0 x0 ds → ∀ w0, AtV Try.prog 27 (PostR ds w0) 23 w0 [] (cutAt b27 3) (E27_3 v4 h0 x0) (L27_3 v4 h0 x0)) := by
  intro n
  induction n with
  | zero => exact ⟨fun _ _ h => by simp only [R27] at h, fun _ _ _ _ h => by simp only [R27_3] at h⟩
  | succ n ih =>
  obtain ⟨ih, ih3⟩ := ih
  refine ⟨?_, ?_⟩
  · intro x0 ds h w0
    rw [R27] at h
    obtain ⟨s0, s1, s2, h⟩ := h
    exact AtV.runN tabOk ext27Ok mixed (p27_0 x0) ⟨s0, s1, s2, trivial⟩ (ih3 _ _ _ _ h w0)

  · intro v4 h0 x0 ds h w0
    rw [R27_3] at h
    by_cases b0 : (Decidable.decide (v4 < (↑(List.length x0) : Int))) = true
    · rw [if_pos b0] at h
      obtain ⟨s0, s1, h⟩ := h
      obtain ⟨s2, s3, h⟩ := h
      obtain ⟨s4, h⟩ := h
      exact AtV.runN tabOk ext27Ok mixed (p27_1 v4 h0 x0) ⟨b0, s0, s1, trivial, s2, s3, s4, trivial⟩ (ih3 _ _ _ _ h w0)
    · rw [if_neg b0] at h
      replace b0 := Bool.eq_false_iff.2 b0
      subst h
      exact AtV.fin Try.func27 tabOk ext27Ok mixed (p27_2 v4 h0 x0) ⟨b0, trivial⟩



theorem run27 (x0 : List (ByteArray × ByteArray × ByteArray × Unit)) (hm : x0.length ≤ maxLen) : ∀ (k i : Nat), i + k = x0.length →
    R27_3 (k + 1) (i : Int) (x0.take i ++ List.replicate k (ByteArray.empty, ByteArray.empty, ByteArray.empty, ())) x0 [⟨.sl (.cons .str (.cons .str (.cons .str .unit))), x0⟩] := by
  intro k
  induction k with
  | zero =>
    intro i hi
    rw [R27_3, if_neg (by simp; omega), List.take_of_length_le (by omega)]
    simp
  | succ k ih =>
    intro i hi
    rw [R27_3, if_pos (by simp; omega)]
    simp only [Int.toNat_natCast]
    refine ⟨by omega, by omega, by omega, by simp; omega, inR_up hm (by omega), ?_⟩
    have hs := set_step x0 (ByteArray.empty, ByteArray.empty, ByteArray.empty, ()) i (by omega) (k + 1) (by omega)
    have he : ∀ y : ByteArray × ByteArray × ByteArray × Unit, (y.1, y.2.1, y.2.2.1, ()) = y := fun _ => rfl
    rw [he, hs]
    exact ih (i + 1) (by omega)

def g27_0 (x0 : List (ByteArray × ByteArray × ByteArray × Unit)) : List (ByteArray × ByteArray × ByteArray × Unit) := x0
def P27 (x0 : List (ByteArray × ByteArray × ByteArray × Unit)) : Prop := 48 * (x0.length : Int) ≤ 281474976710656
def S27 : Am.Spec := { sig := sig27, pre := fun ⟨x0, _⟩ => P27 x0, res := fun ⟨x0, _⟩ => [⟨.sl (.cons .str (.cons .str (.cons .str .unit))), g27_0 x0⟩] }
theorem con27 : Contract Try.prog 27 S27 := contract_of Try.func27 hb27 rfl (fun _ => rfl) (Nat.le_of_ble_eq_true (by kernel_rfl)) (fun ⟨x0, _⟩ h hwf w0 => by
  refine (snd27 (x0.length + 2)).1 x0 _ ?_ w0
  show R27 (x0.length + 1 + 1) x0 [⟨.sl (.cons .str (.cons .str (.cons .str .unit))), x0⟩]
  rw [R27]
  refine ⟨by omega, by omega, h, ?_⟩
  have := run27 x0 hwf.1.1 x0.length 0 (by omega)
  simpa using this)

end Go.Proofs.Ytjoimmmpaocfkaa
