/- Several texts in one: the functions that this law reaches, and their laws. -/
import Derived.Test.YthlhnglkechkaaaGreatDoorZ3A
import Derived.Test.YthlhnglkechkaaaGreatDoorZ3B
import Derived.Test.YthlhnglkechkaaaGreatDoorZ3C
import Derived.Lib.TrimByte

/- Function 18 (laws.toGroupS): its runs between cut points. Written by a program of this repo (gen). -/
set_option linter.unusedVariables false
set_option linter.unusedSimpArgs false
set_option maxRecDepth 100000
namespace Go.Proofs.YthlhnglkechkaaaGreatDoor
open Go Go.Am Go.Proofs
noncomputable section
def ext18 : Ext := [(55, S55)]
theorem call18_55 : Callable Tryz.prog 55 := ⟨Tryz.f55, Tryz.func55, by kernel_rfl, by kernel_rfl⟩
theorem ext18Ok : ExtOk Tryz.prog ext18 := ⟨⟨call18_55, con55⟩, trivial⟩

noncomputable def b18 : Code := bodyOf Tryz.f18
theorem hb18 : Tryz.f18.body = some b18 := by kernel_rfl
def sig18 : List AT := [AT.v (Ty.sl (Ty.cons Ty.str (Ty.cons (Ty.int .i64) (Ty.cons (Ty.int .i64) (Ty.cons (Ty.int .i64) Ty.unit)))))]
def tys18 : List Ty := [Ty.sl (Ty.cons Ty.str (Ty.cons (Ty.int .i64) (Ty.cons (Ty.int .i64) (Ty.cons (Ty.int .i64) Ty.unit))))]
def kds18 : List RK := []
def oks18 : List AT := owns sig18
def E18_3 (v4 : Int) (h0 : List TyB1) (x0 : List TyB1) : Env := [(0, PV.a (Atom.sl (Ty.cons Ty.str (Ty.cons (Ty.int .i64) (Ty.cons (Ty.int .i64) (Ty.cons (Ty.int .i64) Ty.unit)))) x0)), (3, PV.a (Atom.osl 0 Option.none)), (4, PV.a (Atom.val (Value.int .i64 v4)))]
def L18_3 (v4 : Int) (h0 : List TyB1) (x0 : List TyB1) : Heap := [Option.some (Arr.mk (Ty.cons Ty.str (Ty.cons (Ty.int .i64) (Ty.cons (Ty.int .i64) (Ty.cons (Ty.int .i64) Ty.unit)))) h0 false Option.none Option.none)]
mutual
def R18 : Nat → List TyB1 → List Dyn → Prop
  | 0, _, _ => False
  | n + 1, x0, ds => ((0 ≤ (↑(List.length x0) : Int)) ∧ ((↑(List.length x0) : Int) ≤ (↑(List.length x0) : Int)) ∧ (40 * (↑(List.length x0) : Int) ≤ 281474976710656) ∧ (R18_3 n (0) (List.replicate (Int.toNat (↑(List.length x0) : Int)) (ByteArray.empty, 0, 0, 0, ())) (x0) ds))
def R18_3 : Nat → Int → List TyB1 → List TyB1 → List Dyn → Prop
  | 0, _, _, _, _ => False
  | n + 1, v4, h0, x0, ds => (if (decide (v4 < (↑(List.length x0) : Int))) = true then ((0 ≤ v4) ∧ (v4 < (↑(List.length x0) : Int)) ∧ ((0 ≤ v4) ∧ (v4 < (↑(List.length h0) : Int)) ∧ ((InR .i64 (v4 + 1)) ∧ (R18_3 n (v4 + 1) (List.set h0 (Int.toNat v4) ((List.getD x0 (Int.toNat v4) (ByteArray.empty, 0, 0, 0, ())).1, (List.getD x0 (Int.toNat v4) (ByteArray.empty, 0, 0, 0, ())).2.1, (List.getD x0 (Int.toNat v4) (ByteArray.empty, 0, 0, 0, ())).2.2.1, (List.getD x0 (Int.toNat v4) (ByteArray.empty, 0, 0, 0, ())).2.2.2.1, ())) (x0) ds)))) else (ds = [Dyn.mk (Ty.sl (Ty.cons Ty.str (Ty.cons (Ty.int .i64) (Ty.cons (Ty.int .i64) (Ty.cons (Ty.int .i64) Ty.unit))))) h0]))
end
theorem p18_0 (x0 : List TyB1) : Am.runN tab ext18 false 23 [] 2000 [] [] [0, 3, 4] [0] [] [.code b18] (entE 0 0 sig18 (x0, ())) (entL sig18 (x0, ())) = some (cutAt b18 3, E18_3 (0) (List.replicate (Int.toNat (↑(List.length x0) : Int)) (ByteArray.empty, 0, 0, 0, ())) (x0), L18_3 (0) (List.replicate (Int.toNat (↑(List.length x0) : Int)) (ByteArray.empty, 0, 0, 0, ())) (x0), [0 ≤ (↑(List.length x0) : Int), (↑(List.length x0) : Int) ≤ (↑(List.length x0) : Int), 40 * (↑(List.length x0) : Int) ≤ 281474976710656]) := by kernel_rfl
theorem p18_1 (v4 : Int) (h0 : List TyB1) (x0 : List TyB1) : Am.runN tab ext18 false 23 [] 2000 [] [] [0, 3, 4] [0] [true] (cutAt b18 3) (E18_3 v4 h0 x0) (L18_3 v4 h0 x0) = some (cutAt b18 3, E18_3 (v4 + 1) (List.set h0 (Int.toNat v4) ((List.getD x0 (Int.toNat v4) (ByteArray.empty, 0, 0, 0, ())).1, (List.getD x0 (Int.toNat v4) (ByteArray.empty, 0, 0, 0, ())).2.1, (List.getD x0 (Int.toNat v4) (ByteArray.empty, 0, 0, 0, ())).2.2.1, (List.getD x0 (Int.toNat v4) (ByteArray.empty, 0, 0, 0, ())).2.2.2.1, ())) (x0), L18_3 (v4 + 1) (List.set h0 (Int.toNat v4) ((List.getD x0 (Int.toNat v4) (ByteArray.empty, 0, 0, 0, ())).1, (List.getD x0 (Int.toNat v4) (ByteArray.empty, 0, 0, 0, ())).2.1, (List.getD x0 (Int.toNat v4) (ByteArray.empty, 0, 0, 0, ())).2.2.1, (List.getD x0 (Int.toNat v4) (ByteArray.empty, 0, 0, 0, ())).2.2.2.1, ())) (x0), [decide (v4 < (↑(List.length x0) : Int)) = true, 0 ≤ v4, v4 < (↑(List.length x0) : Int), True, 0 ≤ v4, v4 < (↑(List.length h0) : Int), InR .i64 (v4 + 1)]) := by kernel_rfl
theorem p18_2 (v4 : Int) (h0 : List TyB1) (x0 : List TyB1) : runF tab ext18 false 23 [] 2000 [] oks18 kds18 tys18 Tryz.f18.results [false] (cutAt b18 3) (E18_3 v4 h0 x0) (L18_3 v4 h0 x0) = some ([Dyn.mk (Ty.sl (Ty.cons Ty.str (Ty.cons (Ty.int .i64) (Ty.cons (Ty.int .i64) (Ty.cons (Ty.int .i64) Ty.unit))))) h0], [], [decide (v4 < (↑(List.length x0) : Int)) = false]) := by kernel_rfl
theorem snd18 : ∀ n, (∀ (x0 : List TyB1) ds, R18 n x0 ds → ∀ K q, AtV Tryz.prog 18 (PostR kds18 oks18 ds [] [] q K) 23 K q [] [.code b18] (entE 0 0 sig18 (x0, ())) (entL sig18 (x0, ()))) ∧ (∀ (v4 : Int) (h0 : List TyB1) (x0 : List TyB1) ds, R18_3 n v4 h0 x0 ds → ∀ K q, AtV Tryz.prog 18 (PostR kds18 oks18 ds [] [] q K) 23 K q [] (cutAt b18 3) (E18_3 v4 h0 x0) (L18_3 v4 h0 x0)) := by
  intro n
  induction n with
  | zero => exact ⟨fun _ _ h => by simp only [R18] at h, fun _ _ _ _ h => by simp only [R18_3] at h⟩
  | succ n ih =>
  obtain ⟨ih, ih3⟩ := ih
  refine ⟨?_, ?_⟩
  · intro x0 ds h K q
    rw [R18] at h
    obtain ⟨s0, s1, s2, h⟩ := h
    exact AtV.runN tabOk ext18Ok mixed (p18_0 x0) ⟨s0, s1, s2, trivial⟩ (ih3 _ _ _ _ h K q)

  · intro v4 h0 x0 ds h K q
    rw [R18_3] at h
    by_cases b0 : (decide (v4 < (↑(List.length x0) : Int))) = true
    · rw [if_pos b0] at h
      obtain ⟨s0, s1, h⟩ := h
      obtain ⟨s2, s3, h⟩ := h
      obtain ⟨s4, h⟩ := h
      exact AtV.runN tabOk ext18Ok mixed (p18_1 v4 h0 x0) ⟨b0, s0, s1, trivial, s2, s3, s4, trivial⟩ (ih3 _ _ _ _ h K q)
    · rw [if_neg b0] at h
      replace b0 := Bool.eq_false_iff.2 b0
      subst h
      exact AtV.fin Tryz.func18 tabOk ext18Ok mixed (p18_2 v4 h0 x0) ⟨b0, trivial⟩



theorem run18 (x0 : List TyB1) (hm : x0.length ≤ maxLen) : ∀ (k i : Nat), i + k = x0.length →
    R18_3 (k + 1) (i : Int) (x0.take i ++ List.replicate k (ByteArray.empty, (0 : Int), (0 : Int), (0 : Int), ())) x0 [⟨.sl (.cons .str (.cons (.int .i64) (.cons (.int .i64) (.cons (.int .i64) .unit)))), x0⟩] := by
  intro k
  induction k with
  | zero =>
    intro i hi
    rw [R18_3, if_neg (by simp; omega), List.take_of_length_le (by omega)]
    simp
  | succ k ih =>
    intro i hi
    rw [R18_3, if_pos (by simp; omega)]
    simp only [Int.toNat_natCast]
    refine ⟨by omega, by omega, by omega, by simp; omega, inR_up hm (by omega), ?_⟩
    have hs := set_step x0 (ByteArray.empty, (0 : Int), (0 : Int), (0 : Int), ()) i (by omega) (k + 1) (by omega)
    have he : ∀ y : TyB1, (y.1, y.2.1, y.2.2.1, y.2.2.2.1, ()) = y := fun _ => rfl
    rw [he, hs]
    exact ih (i + 1) (by omega)

def g18_0 (x0 : List TyB1) : List TyB1 := x0
def P18 (x0 : List TyB1) : Prop := 40 * (x0.length : Int) ≤ 281474976710656
def S18 : Am.Spec := { sig := sig18, pre := fun ⟨x0, _⟩ => P18 x0, res := fun ⟨x0, _⟩ => [⟨.sl (.cons .str (.cons (.int .i64) (.cons (.int .i64) (.cons (.int .i64) .unit)))), g18_0 x0⟩] }
theorem con18 : Contract Tryz.prog 18 S18 := contract_of Tryz.func18 hb18 (Nat.le_of_ble_eq_true (by kernel_rfl)) (fun ⟨x0, _⟩ h hwf K q => by
  refine (snd18 (x0.length + 2)).1 x0 _ ?_ K q
  show R18 (x0.length + 1 + 1) x0 [⟨.sl (.cons .str (.cons (.int .i64) (.cons (.int .i64) (.cons (.int .i64) .unit)))), x0⟩]
  rw [R18]
  refine ⟨by omega, by omega, h, ?_⟩
  have := run18 x0 hwf.1.1 x0.length 0 (by omega)
  simpa using this)

end
end Go.Proofs.YthlhnglkechkaaaGreatDoor

/- Function 19 (laws.toRoom): its runs between cut points. Written by a program of this repo (gen). -/
set_option linter.unusedVariables false
set_option linter.unusedSimpArgs false
set_option maxRecDepth 100000
namespace Go.Proofs.YthlhnglkechkaaaGreatDoor
open Go Go.Am Go.Proofs
noncomputable section
def ext19 : Ext := []
theorem ext19Ok : ExtOk Tryz.prog ext19 := trivial

noncomputable def b19 : Code := bodyOf Tryz.f19
theorem hb19 : Tryz.f19.body = some b19 := by kernel_rfl
def sig19 : List AT := [AT.v (Ty.cons (Ty.int .i64) (Ty.cons (Ty.int .i64) (Ty.cons (Ty.int .i64) Ty.unit)))]
def tys19 : List Ty := [Ty.cons (Ty.int .i64) (Ty.cons (Ty.int .i64) (Ty.cons (Ty.int .i64) Ty.unit))]
def kds19 : List RK := []
def oks19 : List AT := owns sig19
def P19 (x0 : Int × Int × Int × Unit) : Prop := True
def g19_0 (x0 : Int × Int × Int × Unit) : Int × Int × Int × Unit := (x0.1, x0.2.1, x0.2.2.1, ())
theorem p19_0 (x0 : Int × Int × Int × Unit) : runF tab ext19 false 14 [] 2000 [] oks19 kds19 tys19 Tryz.f19.results [] [.code b19] (entE 0 0 sig19 (x0, ())) (entL sig19 (x0, ())) = some ([Dyn.mk (Ty.cons (Ty.int .i64) (Ty.cons (Ty.int .i64) (Ty.cons (Ty.int .i64) Ty.unit))) (x0.1, x0.2.1, x0.2.2.1, ())], [], []) := by kernel_rfl
theorem at19 (x0 : Int × Int × Int × Unit) (h : P19 x0) (K : Ctx) (q : Nat → Value) : AtV Tryz.prog 19 (PostR kds19 oks19 [⟨Ty.cons (Ty.int .i64) (Ty.cons (Ty.int .i64) (Ty.cons (Ty.int .i64) Ty.unit)), g19_0 x0⟩] [] [] q K) 14 K q [] [.code b19] (entE 0 0 sig19 (x0, ())) (entL sig19 (x0, ())) := by
  unfold P19 at h
  unfold g19_0
  exact AtV.fin Tryz.func19 tabOk ext19Ok mixed (p19_0 x0) trivial

def S19 : Am.Spec := { sig := sig19, pre := fun ⟨x0, _⟩ => P19 x0, res := fun ⟨x0, _⟩ => [⟨Ty.cons (Ty.int .i64) (Ty.cons (Ty.int .i64) (Ty.cons (Ty.int .i64) Ty.unit)), g19_0 x0⟩], kds := kds19 }
theorem con19 : Contract Tryz.prog 19 S19 := contract_of Tryz.func19 hb19 (Nat.le_of_ble_eq_true (by kernel_rfl)) (fun ⟨x0, _⟩ h _ K q => at19 x0 h K q)


end
end Go.Proofs.YthlhnglkechkaaaGreatDoor

/- Function 56 (laws.toCheck): its runs between cut points. Written by a program of this repo (gen). -/
set_option linter.unusedVariables false
set_option linter.unusedSimpArgs false
set_option maxRecDepth 100000
namespace Go.Proofs.YthlhnglkechkaaaGreatDoor
open Go Go.Am Go.Proofs
noncomputable section
def ext56 : Ext := []
theorem ext56Ok : ExtOk Tryz.prog ext56 := trivial

noncomputable def b56 : Code := bodyOf Tryz.f56
theorem hb56 : Tryz.f56.body = some b56 := by kernel_rfl
def sig56 : List AT := [AT.v (Ty.cons Ty.str (Ty.cons (Ty.int .i64) (Ty.cons (Ty.int .i64) (Ty.cons (Ty.int .i64) (Ty.cons (Ty.int .i64) Ty.unit)))))]
def tys56 : List Ty := [Ty.cons Ty.str (Ty.cons (Ty.int .i64) (Ty.cons (Ty.int .i64) (Ty.cons (Ty.int .i64) (Ty.cons (Ty.int .i64) Ty.unit))))]
def kds56 : List RK := []
def oks56 : List AT := owns sig56
def P56 (x0 : ByteArray × Int × Int × Int × Int × Unit) : Prop := True
def g56_0 (x0 : ByteArray × Int × Int × Int × Int × Unit) : ByteArray × Int × Int × Int × Int × Unit := (x0.1, x0.2.1, x0.2.2.1, x0.2.2.2.1, x0.2.2.2.2.1, ())
theorem p56_0 (x0 : ByteArray × Int × Int × Int × Int × Unit) : runF tab ext56 false 20 [] 2000 [] oks56 kds56 tys56 Tryz.f56.results [] [.code b56] (entE 0 0 sig56 (x0, ())) (entL sig56 (x0, ())) = some ([Dyn.mk (Ty.cons Ty.str (Ty.cons (Ty.int .i64) (Ty.cons (Ty.int .i64) (Ty.cons (Ty.int .i64) (Ty.cons (Ty.int .i64) Ty.unit))))) (x0.1, x0.2.1, x0.2.2.1, x0.2.2.2.1, x0.2.2.2.2.1, ())], [], []) := by kernel_rfl
theorem at56 (x0 : ByteArray × Int × Int × Int × Int × Unit) (h : P56 x0) (K : Ctx) (q : Nat → Value) : AtV Tryz.prog 56 (PostR kds56 oks56 [⟨Ty.cons Ty.str (Ty.cons (Ty.int .i64) (Ty.cons (Ty.int .i64) (Ty.cons (Ty.int .i64) (Ty.cons (Ty.int .i64) Ty.unit)))), g56_0 x0⟩] [] [] q K) 20 K q [] [.code b56] (entE 0 0 sig56 (x0, ())) (entL sig56 (x0, ())) := by
  unfold P56 at h
  unfold g56_0
  exact AtV.fin Tryz.func56 tabOk ext56Ok mixed (p56_0 x0) trivial

def S56 : Am.Spec := { sig := sig56, pre := fun ⟨x0, _⟩ => P56 x0, res := fun ⟨x0, _⟩ => [⟨Ty.cons Ty.str (Ty.cons (Ty.int .i64) (Ty.cons (Ty.int .i64) (Ty.cons (Ty.int .i64) (Ty.cons (Ty.int .i64) Ty.unit)))), g56_0 x0⟩], kds := kds56 }
theorem con56 : Contract Tryz.prog 56 S56 := contract_of Tryz.func56 hb56 (Nat.le_of_ble_eq_true (by kernel_rfl)) (fun ⟨x0, _⟩ h _ K q => at56 x0 h K q)


end
end Go.Proofs.YthlhnglkechkaaaGreatDoor

/- Function 20 (laws.toCheckS): its runs between cut points. Written by a program of this repo (gen). -/
set_option linter.unusedVariables false
set_option linter.unusedSimpArgs false
set_option maxRecDepth 100000
namespace Go.Proofs.YthlhnglkechkaaaGreatDoor
open Go Go.Am Go.Proofs
noncomputable section
def ext20 : Ext := [(56, S56)]
theorem call20_56 : Callable Tryz.prog 56 := ⟨Tryz.f56, Tryz.func56, by kernel_rfl, by kernel_rfl⟩
theorem ext20Ok : ExtOk Tryz.prog ext20 := ⟨⟨call20_56, con56⟩, trivial⟩

noncomputable def b20 : Code := bodyOf Tryz.f20
theorem hb20 : Tryz.f20.body = some b20 := by kernel_rfl
def sig20 : List AT := [AT.v (Ty.sl (Ty.cons Ty.str (Ty.cons (Ty.int .i64) (Ty.cons (Ty.int .i64) (Ty.cons (Ty.int .i64) (Ty.cons (Ty.int .i64) Ty.unit))))))]
def tys20 : List Ty := [Ty.sl (Ty.cons Ty.str (Ty.cons (Ty.int .i64) (Ty.cons (Ty.int .i64) (Ty.cons (Ty.int .i64) (Ty.cons (Ty.int .i64) Ty.unit)))))]
def kds20 : List RK := []
def oks20 : List AT := owns sig20
def E20_3 (v4 : Int) (h0 : List TyB0) (x0 : List TyB0) : Env := [(0, PV.a (Atom.sl (Ty.cons Ty.str (Ty.cons (Ty.int .i64) (Ty.cons (Ty.int .i64) (Ty.cons (Ty.int .i64) (Ty.cons (Ty.int .i64) Ty.unit))))) x0)), (3, PV.a (Atom.osl 0 Option.none)), (4, PV.a (Atom.val (Value.int .i64 v4)))]
def L20_3 (v4 : Int) (h0 : List TyB0) (x0 : List TyB0) : Heap := [Option.some (Arr.mk (Ty.cons Ty.str (Ty.cons (Ty.int .i64) (Ty.cons (Ty.int .i64) (Ty.cons (Ty.int .i64) (Ty.cons (Ty.int .i64) Ty.unit))))) h0 false Option.none Option.none)]
mutual
def R20 : Nat → List TyB0 → List Dyn → Prop
  | 0, _, _ => False
  | n + 1, x0, ds => ((0 ≤ (↑(List.length x0) : Int)) ∧ ((↑(List.length x0) : Int) ≤ (↑(List.length x0) : Int)) ∧ (48 * (↑(List.length x0) : Int) ≤ 281474976710656) ∧ (R20_3 n (0) (List.replicate (Int.toNat (↑(List.length x0) : Int)) (ByteArray.empty, 0, 0, 0, 0, ())) (x0) ds))
def R20_3 : Nat → Int → List TyB0 → List TyB0 → List Dyn → Prop
  | 0, _, _, _, _ => False
  | n + 1, v4, h0, x0, ds => (if (decide (v4 < (↑(List.length x0) : Int))) = true then ((0 ≤ v4) ∧ (v4 < (↑(List.length x0) : Int)) ∧ ((0 ≤ v4) ∧ (v4 < (↑(List.length h0) : Int)) ∧ ((InR .i64 (v4 + 1)) ∧ (R20_3 n (v4 + 1) (List.set h0 (Int.toNat v4) ((List.getD x0 (Int.toNat v4) (ByteArray.empty, 0, 0, 0, 0, ())).1, (List.getD x0 (Int.toNat v4) (ByteArray.empty, 0, 0, 0, 0, ())).2.1, (List.getD x0 (Int.toNat v4) (ByteArray.empty, 0, 0, 0, 0, ())).2.2.1, (List.getD x0 (Int.toNat v4) (ByteArray.empty, 0, 0, 0, 0, ())).2.2.2.1, (List.getD x0 (Int.toNat v4) (ByteArray.empty, 0, 0, 0, 0, ())).2.2.2.2.1, ())) (x0) ds)))) else (ds = [Dyn.mk (Ty.sl (Ty.cons Ty.str (Ty.cons (Ty.int .i64) (Ty.cons (Ty.int .i64) (Ty.cons (Ty.int .i64) (Ty.cons (Ty.int .i64) Ty.unit)))))) h0]))
end
theorem p20_0 (x0 : List TyB0) : Am.runN tab ext20 false 23 [] 2000 [] [] [0, 3, 4] [0] [] [.code b20] (entE 0 0 sig20 (x0, ())) (entL sig20 (x0, ())) = some (cutAt b20 3, E20_3 (0) (List.replicate (Int.toNat (↑(List.length x0) : Int)) (ByteArray.empty, 0, 0, 0, 0, ())) (x0), L20_3 (0) (List.replicate (Int.toNat (↑(List.length x0) : Int)) (ByteArray.empty, 0, 0, 0, 0, ())) (x0), [0 ≤ (↑(List.length x0) : Int), (↑(List.length x0) : Int) ≤ (↑(List.length x0) : Int), 48 * (↑(List.length x0) : Int) ≤ 281474976710656]) := by kernel_rfl
theorem p20_1 (v4 : Int) (h0 : List TyB0) (x0 : List TyB0) : Am.runN tab ext20 false 23 [] 2000 [] [] [0, 3, 4] [0] [true] (cutAt b20 3) (E20_3 v4 h0 x0) (L20_3 v4 h0 x0) = some (cutAt b20 3, E20_3 (v4 + 1) (List.set h0 (Int.toNat v4) ((List.getD x0 (Int.toNat v4) (ByteArray.empty, 0, 0, 0, 0, ())).1, (List.getD x0 (Int.toNat v4) (ByteArray.empty, 0, 0, 0, 0, ())).2.1, (List.getD x0 (Int.toNat v4) (ByteArray.empty, 0, 0, 0, 0, ())).2.2.1, (List.getD x0 (Int.toNat v4) (ByteArray.empty, 0, 0, 0, 0, ())).2.2.2.1, (List.getD x0 (Int.toNat v4) (ByteArray.empty, 0, 0, 0, 0, ())).2.2.2.2.1, ())) (x0), L20_3 (v4 + 1) (List.set h0 (Int.toNat v4) ((List.getD x0 (Int.toNat v4) (ByteArray.empty, 0, 0, 0, 0, ())).1, (List.getD x0 (Int.toNat v4) (ByteArray.empty, 0, 0, 0, 0, ())).2.1, (List.getD x0 (Int.toNat v4) (ByteArray.empty, 0, 0, 0, 0, ())).2.2.1, (List.getD x0 (Int.toNat v4) (ByteArray.empty, 0, 0, 0, 0, ())).2.2.2.1, (List.getD x0 (Int.toNat v4) (ByteArray.empty, 0, 0, 0, 0, ())).2.2.2.2.1, ())) (x0), [decide (v4 < (↑(List.length x0) : Int)) = true, 0 ≤ v4, v4 < (↑(List.length x0) : Int), True, 0 ≤ v4, v4 < (↑(List.length h0) : Int), InR .i64 (v4 + 1)]) := by kernel_rfl
theorem p20_2 (v4 : Int) (h0 : List TyB0) (x0 : List TyB0) : runF tab ext20 false 23 [] 2000 [] oks20 kds20 tys20 Tryz.f20.results [false] (cutAt b20 3) (E20_3 v4 h0 x0) (L20_3 v4 h0 x0) = some ([Dyn.mk (Ty.sl (Ty.cons Ty.str (Ty.cons (Ty.int .i64) (Ty.cons (Ty.int .i64) (Ty.cons (Ty.int .i64) (Ty.cons (Ty.int .i64) Ty.unit)))))) h0], [], [decide (v4 < (↑(List.length x0) : Int)) = false]) := by kernel_rfl
theorem snd20 : ∀ n, (∀ (x0 : List TyB0) ds, R20 n x0 ds → ∀ K q, AtV Tryz.prog 20 (PostR kds20 oks20 ds [] [] q K) 23 K q [] [.code b20] (entE 0 0 sig20 (x0, ())) (entL sig20 (x0, ()))) ∧ (∀ (v4 : Int) (h0 : List TyB0) (x0 : List TyB0) ds, R20_3 n v4 h0 x0 ds → ∀ K q, AtV Tryz.prog 20 (PostR kds20 oks20 ds [] [] q K) 23 K q [] (cutAt b20 3) (E20_3 v4 h0 x0) (L20_3 v4 h0 x0)) := by
  intro n
  induction n with
  | zero => exact ⟨fun _ _ h => by simp only [R20] at h, fun _ _ _ _ h => by simp only [R20_3] at h⟩
  | succ n ih =>
  obtain ⟨ih, ih3⟩ := ih
  refine ⟨?_, ?_⟩
  · intro x0 ds h K q
    rw [R20] at h
    obtain ⟨s0, s1, s2, h⟩ := h
    exact AtV.runN tabOk ext20Ok mixed (p20_0 x0) ⟨s0, s1, s2, trivial⟩ (ih3 _ _ _ _ h K q)

  · intro v4 h0 x0 ds h K q
    rw [R20_3] at h
    by_cases b0 : (decide (v4 < (↑(List.length x0) : Int))) = true
    · rw [if_pos b0] at h
      obtain ⟨s0, s1, h⟩ := h
      obtain ⟨s2, s3, h⟩ := h
      obtain ⟨s4, h⟩ := h
      exact AtV.runN tabOk ext20Ok mixed (p20_1 v4 h0 x0) ⟨b0, s0, s1, trivial, s2, s3, s4, trivial⟩ (ih3 _ _ _ _ h K q)
    · rw [if_neg b0] at h
      replace b0 := Bool.eq_false_iff.2 b0
      subst h
      exact AtV.fin Tryz.func20 tabOk ext20Ok mixed (p20_2 v4 h0 x0) ⟨b0, trivial⟩



theorem run20 (x0 : List TyB0) (hm : x0.length ≤ maxLen) : ∀ (k i : Nat), i + k = x0.length →
    R20_3 (k + 1) (i : Int) (x0.take i ++ List.replicate k (ByteArray.empty, (0 : Int), (0 : Int), (0 : Int), (0 : Int), ())) x0 [⟨.sl (.cons .str (.cons (.int .i64) (.cons (.int .i64) (.cons (.int .i64) (.cons (.int .i64) .unit))))), x0⟩] := by
  intro k
  induction k with
  | zero =>
    intro i hi
    rw [R20_3, if_neg (by simp; omega), List.take_of_length_le (by omega)]
    simp
  | succ k ih =>
    intro i hi
    rw [R20_3, if_pos (by simp; omega)]
    simp only [Int.toNat_natCast]
    refine ⟨by omega, by omega, by omega, by simp; omega, inR_up hm (by omega), ?_⟩
    have hs := set_step x0 (ByteArray.empty, (0 : Int), (0 : Int), (0 : Int), (0 : Int), ()) i (by omega) (k + 1) (by omega)
    have he : ∀ y : TyB0, (y.1, y.2.1, y.2.2.1, y.2.2.2.1, y.2.2.2.2.1, ()) = y := fun _ => rfl
    rw [he, hs]
    exact ih (i + 1) (by omega)

def g20_0 (x0 : List TyB0) : List TyB0 := x0
def P20 (x0 : List TyB0) : Prop := 48 * (x0.length : Int) ≤ 281474976710656
def S20 : Am.Spec := { sig := sig20, pre := fun ⟨x0, _⟩ => P20 x0, res := fun ⟨x0, _⟩ => [⟨.sl (.cons .str (.cons (.int .i64) (.cons (.int .i64) (.cons (.int .i64) (.cons (.int .i64) .unit))))), g20_0 x0⟩] }
theorem con20 : Contract Tryz.prog 20 S20 := contract_of Tryz.func20 hb20 (Nat.le_of_ble_eq_true (by kernel_rfl)) (fun ⟨x0, _⟩ h hwf K q => by
  refine (snd20 (x0.length + 2)).1 x0 _ ?_ K q
  show R20 (x0.length + 1 + 1) x0 [⟨.sl (.cons .str (.cons (.int .i64) (.cons (.int .i64) (.cons (.int .i64) (.cons (.int .i64) .unit))))), x0⟩]
  rw [R20]
  refine ⟨by omega, by omega, h, ?_⟩
  have := run20 x0 hwf.1.1 x0.length 0 (by omega)
  simpa using this)

end
end Go.Proofs.YthlhnglkechkaaaGreatDoor

/- Function 57 (laws.toRide): its runs between cut points. Written by a program of this repo (gen). -/
set_option linter.unusedVariables false
set_option linter.unusedSimpArgs false
set_option maxRecDepth 100000
namespace Go.Proofs.YthlhnglkechkaaaGreatDoor
open Go Go.Am Go.Proofs
noncomputable section
def ext57 : Ext := []
theorem ext57Ok : ExtOk Tryz.prog ext57 := trivial

noncomputable def b57 : Code := bodyOf Tryz.f57
theorem hb57 : Tryz.f57.body = some b57 := by kernel_rfl
def sig57 : List AT := [AT.v (Ty.cons (Ty.int .i64) (Ty.cons (Ty.int .i64) Ty.unit))]
def tys57 : List Ty := [Ty.cons (Ty.int .i64) (Ty.cons (Ty.int .i64) Ty.unit)]
def kds57 : List RK := []
def oks57 : List AT := owns sig57
def P57 (x0 : Int × Int × Unit) : Prop := True
def g57_0 (x0 : Int × Int × Unit) : Int × Int × Unit := (x0.1, x0.2.1, ())
theorem p57_0 (x0 : Int × Int × Unit) : runF tab ext57 false 11 [] 2000 [] oks57 kds57 tys57 Tryz.f57.results [] [.code b57] (entE 0 0 sig57 (x0, ())) (entL sig57 (x0, ())) = some ([Dyn.mk (Ty.cons (Ty.int .i64) (Ty.cons (Ty.int .i64) Ty.unit)) (x0.1, x0.2.1, ())], [], []) := by kernel_rfl
theorem at57 (x0 : Int × Int × Unit) (h : P57 x0) (K : Ctx) (q : Nat → Value) : AtV Tryz.prog 57 (PostR kds57 oks57 [⟨Ty.cons (Ty.int .i64) (Ty.cons (Ty.int .i64) Ty.unit), g57_0 x0⟩] [] [] q K) 11 K q [] [.code b57] (entE 0 0 sig57 (x0, ())) (entL sig57 (x0, ())) := by
  unfold P57 at h
  unfold g57_0
  exact AtV.fin Tryz.func57 tabOk ext57Ok mixed (p57_0 x0) trivial

def S57 : Am.Spec := { sig := sig57, pre := fun ⟨x0, _⟩ => P57 x0, res := fun ⟨x0, _⟩ => [⟨Ty.cons (Ty.int .i64) (Ty.cons (Ty.int .i64) Ty.unit), g57_0 x0⟩], kds := kds57 }
theorem con57 : Contract Tryz.prog 57 S57 := contract_of Tryz.func57 hb57 (Nat.le_of_ble_eq_true (by kernel_rfl)) (fun ⟨x0, _⟩ h _ K q => at57 x0 h K q)


end
end Go.Proofs.YthlhnglkechkaaaGreatDoor

/- Function 21 (laws.toRideS): its runs between cut points. Written by a program of this repo (gen). -/
set_option linter.unusedVariables false
set_option linter.unusedSimpArgs false
set_option maxRecDepth 100000
namespace Go.Proofs.YthlhnglkechkaaaGreatDoor
open Go Go.Am Go.Proofs
noncomputable section
def ext21 : Ext := [(57, S57)]
theorem call21_57 : Callable Tryz.prog 57 := ⟨Tryz.f57, Tryz.func57, by kernel_rfl, by kernel_rfl⟩
theorem ext21Ok : ExtOk Tryz.prog ext21 := ⟨⟨call21_57, con57⟩, trivial⟩

noncomputable def b21 : Code := bodyOf Tryz.f21
theorem hb21 : Tryz.f21.body = some b21 := by kernel_rfl
def sig21 : List AT := [AT.v (Ty.sl (Ty.cons (Ty.int .i64) (Ty.cons (Ty.int .i64) Ty.unit)))]
def tys21 : List Ty := [Ty.sl (Ty.cons (Ty.int .i64) (Ty.cons (Ty.int .i64) Ty.unit))]
def kds21 : List RK := []
def oks21 : List AT := owns sig21
def E21_3 (v4 : Int) (h0 : List TyB3) (x0 : List TyB3) : Env := [(0, PV.a (Atom.sl (Ty.cons (Ty.int .i64) (Ty.cons (Ty.int .i64) Ty.unit)) x0)), (3, PV.a (Atom.osl 0 Option.none)), (4, PV.a (Atom.val (Value.int .i64 v4)))]
def L21_3 (v4 : Int) (h0 : List TyB3) (x0 : List TyB3) : Heap := [Option.some (Arr.mk (Ty.cons (Ty.int .i64) (Ty.cons (Ty.int .i64) Ty.unit)) h0 false Option.none Option.none)]
mutual
def R21 : Nat → List TyB3 → List Dyn → Prop
  | 0, _, _ => False
  | n + 1, x0, ds => ((0 ≤ (↑(List.length x0) : Int)) ∧ ((↑(List.length x0) : Int) ≤ (↑(List.length x0) : Int)) ∧ (16 * (↑(List.length x0) : Int) ≤ 281474976710656) ∧ (R21_3 n (0) (List.replicate (Int.toNat (↑(List.length x0) : Int)) (0, 0, ())) (x0) ds))
def R21_3 : Nat → Int → List TyB3 → List TyB3 → List Dyn → Prop
  | 0, _, _, _, _ => False
  | n + 1, v4, h0, x0, ds => (if (decide (v4 < (↑(List.length x0) : Int))) = true then ((0 ≤ v4) ∧ (v4 < (↑(List.length x0) : Int)) ∧ ((0 ≤ v4) ∧ (v4 < (↑(List.length h0) : Int)) ∧ ((InR .i64 (v4 + 1)) ∧ (R21_3 n (v4 + 1) (List.set h0 (Int.toNat v4) ((List.getD x0 (Int.toNat v4) (0, 0, ())).1, (List.getD x0 (Int.toNat v4) (0, 0, ())).2.1, ())) (x0) ds)))) else (ds = [Dyn.mk (Ty.sl (Ty.cons (Ty.int .i64) (Ty.cons (Ty.int .i64) Ty.unit))) h0]))
end
theorem p21_0 (x0 : List TyB3) : Am.runN tab ext21 false 23 [] 2000 [] [] [0, 3, 4] [0] [] [.code b21] (entE 0 0 sig21 (x0, ())) (entL sig21 (x0, ())) = some (cutAt b21 3, E21_3 (0) (List.replicate (Int.toNat (↑(List.length x0) : Int)) (0, 0, ())) (x0), L21_3 (0) (List.replicate (Int.toNat (↑(List.length x0) : Int)) (0, 0, ())) (x0), [0 ≤ (↑(List.length x0) : Int), (↑(List.length x0) : Int) ≤ (↑(List.length x0) : Int), 16 * (↑(List.length x0) : Int) ≤ 281474976710656]) := by kernel_rfl
theorem p21_1 (v4 : Int) (h0 : List TyB3) (x0 : List TyB3) : Am.runN tab ext21 false 23 [] 2000 [] [] [0, 3, 4] [0] [true] (cutAt b21 3) (E21_3 v4 h0 x0) (L21_3 v4 h0 x0) = some (cutAt b21 3, E21_3 (v4 + 1) (List.set h0 (Int.toNat v4) ((List.getD x0 (Int.toNat v4) (0, 0, ())).1, (List.getD x0 (Int.toNat v4) (0, 0, ())).2.1, ())) (x0), L21_3 (v4 + 1) (List.set h0 (Int.toNat v4) ((List.getD x0 (Int.toNat v4) (0, 0, ())).1, (List.getD x0 (Int.toNat v4) (0, 0, ())).2.1, ())) (x0), [decide (v4 < (↑(List.length x0) : Int)) = true, 0 ≤ v4, v4 < (↑(List.length x0) : Int), True, 0 ≤ v4, v4 < (↑(List.length h0) : Int), InR .i64 (v4 + 1)]) := by kernel_rfl
theorem p21_2 (v4 : Int) (h0 : List TyB3) (x0 : List TyB3) : runF tab ext21 false 23 [] 2000 [] oks21 kds21 tys21 Tryz.f21.results [false] (cutAt b21 3) (E21_3 v4 h0 x0) (L21_3 v4 h0 x0) = some ([Dyn.mk (Ty.sl (Ty.cons (Ty.int .i64) (Ty.cons (Ty.int .i64) Ty.unit))) h0], [], [decide (v4 < (↑(List.length x0) : Int)) = false]) := by kernel_rfl
theorem snd21 : ∀ n, (∀ (x0 : List TyB3) ds, R21 n x0 ds → ∀ K q, AtV Tryz.prog 21 (PostR kds21 oks21 ds [] [] q K) 23 K q [] [.code b21] (entE 0 0 sig21 (x0, ())) (entL sig21 (x0, ()))) ∧ (∀ (v4 : Int) (h0 : List TyB3) (x0 : List TyB3) ds, R21_3 n v4 h0 x0 ds → ∀ K q, AtV Tryz.prog 21 (PostR kds21 oks21 ds [] [] q K) 23 K q [] (cutAt b21 3) (E21_3 v4 h0 x0) (L21_3 v4 h0 x0)) := by
  intro n
  induction n with
  | zero => exact ⟨fun _ _ h => by simp only [R21] at h, fun _ _ _ _ h => by simp only [R21_3] at h⟩
  | succ n ih =>
  obtain ⟨ih, ih3⟩ := ih
  refine ⟨?_, ?_⟩
  · intro x0 ds h K q
    rw [R21] at h
    obtain ⟨s0, s1, s2, h⟩ := h
    exact AtV.runN tabOk ext21Ok mixed (p21_0 x0) ⟨s0, s1, s2, trivial⟩ (ih3 _ _ _ _ h K q)

  · intro v4 h0 x0 ds h K q
    rw [R21_3] at h
    by_cases b0 : (decide (v4 < (↑(List.length x0) : Int))) = true
    · rw [if_pos b0] at h
      obtain ⟨s0, s1, h⟩ := h
      obtain ⟨s2, s3, h⟩ := h
      obtain ⟨s4, h⟩ := h
      exact AtV.runN tabOk ext21Ok mixed (p21_1 v4 h0 x0) ⟨b0, s0, s1, trivial, s2, s3, s4, trivial⟩ (ih3 _ _ _ _ h K q)
    · rw [if_neg b0] at h
      replace b0 := Bool.eq_false_iff.2 b0
      subst h
      exact AtV.fin Tryz.func21 tabOk ext21Ok mixed (p21_2 v4 h0 x0) ⟨b0, trivial⟩



theorem run21 (x0 : List TyB3) (hm : x0.length ≤ maxLen) : ∀ (k i : Nat), i + k = x0.length →
    R21_3 (k + 1) (i : Int) (x0.take i ++ List.replicate k ((0 : Int), (0 : Int), ())) x0 [⟨.sl (.cons (.int .i64) (.cons (.int .i64) .unit)), x0⟩] := by
  intro k
  induction k with
  | zero =>
    intro i hi
    rw [R21_3, if_neg (by simp; omega), List.take_of_length_le (by omega)]
    simp
  | succ k ih =>
    intro i hi
    rw [R21_3, if_pos (by simp; omega)]
    simp only [Int.toNat_natCast]
    refine ⟨by omega, by omega, by omega, by simp; omega, inR_up hm (by omega), ?_⟩
    have hs := set_step x0 ((0 : Int), (0 : Int), ()) i (by omega) (k + 1) (by omega)
    have he : ∀ y : TyB3, (y.1, y.2.1, ()) = y := fun _ => rfl
    rw [he, hs]
    exact ih (i + 1) (by omega)

def g21_0 (x0 : List TyB3) : List TyB3 := x0
def P21 (x0 : List TyB3) : Prop := 16 * (x0.length : Int) ≤ 281474976710656
def S21 : Am.Spec := { sig := sig21, pre := fun ⟨x0, _⟩ => P21 x0, res := fun ⟨x0, _⟩ => [⟨.sl (.cons (.int .i64) (.cons (.int .i64) .unit)), g21_0 x0⟩] }
theorem con21 : Contract Tryz.prog 21 S21 := contract_of Tryz.func21 hb21 (Nat.le_of_ble_eq_true (by kernel_rfl)) (fun ⟨x0, _⟩ h hwf K q => by
  refine (snd21 (x0.length + 2)).1 x0 _ ?_ K q
  show R21 (x0.length + 1 + 1) x0 [⟨.sl (.cons (.int .i64) (.cons (.int .i64) .unit)), x0⟩]
  rw [R21]
  refine ⟨by omega, by omega, h, ?_⟩
  have := run21 x0 hwf.1.1 x0.length 0 (by omega)
  simpa using this)

end
end Go.Proofs.YthlhnglkechkaaaGreatDoor

/- Function 58 (laws.toLine): its runs between cut points. Written by a program of this repo (gen). -/
set_option linter.unusedVariables false
set_option linter.unusedSimpArgs false
set_option maxRecDepth 100000
namespace Go.Proofs.YthlhnglkechkaaaGreatDoor
open Go Go.Am Go.Proofs
noncomputable section
def ext58 : Ext := []
theorem ext58Ok : ExtOk Tryz.prog ext58 := trivial

noncomputable def b58 : Code := bodyOf Tryz.f58
theorem hb58 : Tryz.f58.body = some b58 := by kernel_rfl
def sig58 : List AT := [AT.v (Ty.cons (Ty.int .i64) (Ty.cons (Ty.int .i64) (Ty.cons Ty.str (Ty.cons (Ty.int .i64) Ty.unit))))]
def tys58 : List Ty := [Ty.cons (Ty.int .i64) (Ty.cons (Ty.int .i64) (Ty.cons Ty.str (Ty.cons (Ty.int .i64) Ty.unit)))]
def kds58 : List RK := []
def oks58 : List AT := owns sig58
def P58 (x0 : Int × Int × ByteArray × Int × Unit) : Prop := True
def g58_0 (x0 : Int × Int × ByteArray × Int × Unit) : Int × Int × ByteArray × Int × Unit := (x0.1, x0.2.1, x0.2.2.1, x0.2.2.2.1, ())
theorem p58_0 (x0 : Int × Int × ByteArray × Int × Unit) : runF tab ext58 false 17 [] 2000 [] oks58 kds58 tys58 Tryz.f58.results [] [.code b58] (entE 0 0 sig58 (x0, ())) (entL sig58 (x0, ())) = some ([Dyn.mk (Ty.cons (Ty.int .i64) (Ty.cons (Ty.int .i64) (Ty.cons Ty.str (Ty.cons (Ty.int .i64) Ty.unit)))) (x0.1, x0.2.1, x0.2.2.1, x0.2.2.2.1, ())], [], []) := by kernel_rfl
theorem at58 (x0 : Int × Int × ByteArray × Int × Unit) (h : P58 x0) (K : Ctx) (q : Nat → Value) : AtV Tryz.prog 58 (PostR kds58 oks58 [⟨Ty.cons (Ty.int .i64) (Ty.cons (Ty.int .i64) (Ty.cons Ty.str (Ty.cons (Ty.int .i64) Ty.unit))), g58_0 x0⟩] [] [] q K) 17 K q [] [.code b58] (entE 0 0 sig58 (x0, ())) (entL sig58 (x0, ())) := by
  unfold P58 at h
  unfold g58_0
  exact AtV.fin Tryz.func58 tabOk ext58Ok mixed (p58_0 x0) trivial

def S58 : Am.Spec := { sig := sig58, pre := fun ⟨x0, _⟩ => P58 x0, res := fun ⟨x0, _⟩ => [⟨Ty.cons (Ty.int .i64) (Ty.cons (Ty.int .i64) (Ty.cons Ty.str (Ty.cons (Ty.int .i64) Ty.unit))), g58_0 x0⟩], kds := kds58 }
theorem con58 : Contract Tryz.prog 58 S58 := contract_of Tryz.func58 hb58 (Nat.le_of_ble_eq_true (by kernel_rfl)) (fun ⟨x0, _⟩ h _ K q => at58 x0 h K q)


end
end Go.Proofs.YthlhnglkechkaaaGreatDoor

/- Function 22 (laws.toLineS): its runs between cut points. Written by a program of this repo (gen). -/
set_option linter.unusedVariables false
set_option linter.unusedSimpArgs false
set_option maxRecDepth 100000
namespace Go.Proofs.YthlhnglkechkaaaGreatDoor
open Go Go.Am Go.Proofs
noncomputable section
def ext22 : Ext := [(58, S58)]
theorem call22_58 : Callable Tryz.prog 58 := ⟨Tryz.f58, Tryz.func58, by kernel_rfl, by kernel_rfl⟩
theorem ext22Ok : ExtOk Tryz.prog ext22 := ⟨⟨call22_58, con58⟩, trivial⟩

noncomputable def b22 : Code := bodyOf Tryz.f22
theorem hb22 : Tryz.f22.body = some b22 := by kernel_rfl
def sig22 : List AT := [AT.v (Ty.sl (Ty.cons (Ty.int .i64) (Ty.cons (Ty.int .i64) (Ty.cons Ty.str (Ty.cons (Ty.int .i64) Ty.unit)))))]
def tys22 : List Ty := [Ty.sl (Ty.cons (Ty.int .i64) (Ty.cons (Ty.int .i64) (Ty.cons Ty.str (Ty.cons (Ty.int .i64) Ty.unit))))]
def kds22 : List RK := []
def oks22 : List AT := owns sig22
def E22_3 (v4 : Int) (h0 : List TyB2) (x0 : List TyB2) : Env := [(0, PV.a (Atom.sl (Ty.cons (Ty.int .i64) (Ty.cons (Ty.int .i64) (Ty.cons Ty.str (Ty.cons (Ty.int .i64) Ty.unit)))) x0)), (3, PV.a (Atom.osl 0 Option.none)), (4, PV.a (Atom.val (Value.int .i64 v4)))]
def L22_3 (v4 : Int) (h0 : List TyB2) (x0 : List TyB2) : Heap := [Option.some (Arr.mk (Ty.cons (Ty.int .i64) (Ty.cons (Ty.int .i64) (Ty.cons Ty.str (Ty.cons (Ty.int .i64) Ty.unit)))) h0 false Option.none Option.none)]
mutual
def R22 : Nat → List TyB2 → List Dyn → Prop
  | 0, _, _ => False
  | n + 1, x0, ds => ((0 ≤ (↑(List.length x0) : Int)) ∧ ((↑(List.length x0) : Int) ≤ (↑(List.length x0) : Int)) ∧ (40 * (↑(List.length x0) : Int) ≤ 281474976710656) ∧ (R22_3 n (0) (List.replicate (Int.toNat (↑(List.length x0) : Int)) (0, 0, ByteArray.empty, 0, ())) (x0) ds))
def R22_3 : Nat → Int → List TyB2 → List TyB2 → List Dyn → Prop
  | 0, _, _, _, _ => False
  | n + 1, v4, h0, x0, ds => (if (decide (v4 < (↑(List.length x0) : Int))) = true then ((0 ≤ v4) ∧ (v4 < (↑(List.length x0) : Int)) ∧ ((0 ≤ v4) ∧ (v4 < (↑(List.length h0) : Int)) ∧ ((InR .i64 (v4 + 1)) ∧ (R22_3 n (v4 + 1) (List.set h0 (Int.toNat v4) ((List.getD x0 (Int.toNat v4) (0, 0, ByteArray.empty, 0, ())).1, (List.getD x0 (Int.toNat v4) (0, 0, ByteArray.empty, 0, ())).2.1, (List.getD x0 (Int.toNat v4) (0, 0, ByteArray.empty, 0, ())).2.2.1, (List.getD x0 (Int.toNat v4) (0, 0, ByteArray.empty, 0, ())).2.2.2.1, ())) (x0) ds)))) else (ds = [Dyn.mk (Ty.sl (Ty.cons (Ty.int .i64) (Ty.cons (Ty.int .i64) (Ty.cons Ty.str (Ty.cons (Ty.int .i64) Ty.unit))))) h0]))
end
theorem p22_0 (x0 : List TyB2) : Am.runN tab ext22 false 23 [] 2000 [] [] [0, 3, 4] [0] [] [.code b22] (entE 0 0 sig22 (x0, ())) (entL sig22 (x0, ())) = some (cutAt b22 3, E22_3 (0) (List.replicate (Int.toNat (↑(List.length x0) : Int)) (0, 0, ByteArray.empty, 0, ())) (x0), L22_3 (0) (List.replicate (Int.toNat (↑(List.length x0) : Int)) (0, 0, ByteArray.empty, 0, ())) (x0), [0 ≤ (↑(List.length x0) : Int), (↑(List.length x0) : Int) ≤ (↑(List.length x0) : Int), 40 * (↑(List.length x0) : Int) ≤ 281474976710656]) := by kernel_rfl
theorem p22_1 (v4 : Int) (h0 : List TyB2) (x0 : List TyB2) : Am.runN tab ext22 false 23 [] 2000 [] [] [0, 3, 4] [0] [true] (cutAt b22 3) (E22_3 v4 h0 x0) (L22_3 v4 h0 x0) = some (cutAt b22 3, E22_3 (v4 + 1) (List.set h0 (Int.toNat v4) ((List.getD x0 (Int.toNat v4) (0, 0, ByteArray.empty, 0, ())).1, (List.getD x0 (Int.toNat v4) (0, 0, ByteArray.empty, 0, ())).2.1, (List.getD x0 (Int.toNat v4) (0, 0, ByteArray.empty, 0, ())).2.2.1, (List.getD x0 (Int.toNat v4) (0, 0, ByteArray.empty, 0, ())).2.2.2.1, ())) (x0), L22_3 (v4 + 1) (List.set h0 (Int.toNat v4) ((List.getD x0 (Int.toNat v4) (0, 0, ByteArray.empty, 0, ())).1, (List.getD x0 (Int.toNat v4) (0, 0, ByteArray.empty, 0, ())).2.1, (List.getD x0 (Int.toNat v4) (0, 0, ByteArray.empty, 0, ())).2.2.1, (List.getD x0 (Int.toNat v4) (0, 0, ByteArray.empty, 0, ())).2.2.2.1, ())) (x0), [decide (v4 < (↑(List.length x0) : Int)) = true, 0 ≤ v4, v4 < (↑(List.length x0) : Int), True, 0 ≤ v4, v4 < (↑(List.length h0) : Int), InR .i64 (v4 + 1)]) := by kernel_rfl
theorem p22_2 (v4 : Int) (h0 : List TyB2) (x0 : List TyB2) : runF tab ext22 false 23 [] 2000 [] oks22 kds22 tys22 Tryz.f22.results [false] (cutAt b22 3) (E22_3 v4 h0 x0) (L22_3 v4 h0 x0) = some ([Dyn.mk (Ty.sl (Ty.cons (Ty.int .i64) (Ty.cons (Ty.int .i64) (Ty.cons Ty.str (Ty.cons (Ty.int .i64) Ty.unit))))) h0], [], [decide (v4 < (↑(List.length x0) : Int)) = false]) := by kernel_rfl
theorem snd22 : ∀ n, (∀ (x0 : List TyB2) ds, R22 n x0 ds → ∀ K q, AtV Tryz.prog 22 (PostR kds22 oks22 ds [] [] q K) 23 K q [] [.code b22] (entE 0 0 sig22 (x0, ())) (entL sig22 (x0, ()))) ∧ (∀ (v4 : Int) (h0 : List TyB2) (x0 : List TyB2) ds, R22_3 n v4 h0 x0 ds → ∀ K q, AtV Tryz.prog 22 (PostR kds22 oks22 ds [] [] q K) 23 K q [] (cutAt b22 3) (E22_3 v4 h0 x0) (L22_3 v4 h0 x0)) := by
  intro n
  induction n with
  | zero => exact ⟨fun _ _ h => by simp only [R22] at h, fun _ _ _ _ h => by simp only [R22_3] at h⟩
  | succ n ih =>
  obtain ⟨ih, ih3⟩ := ih
  refine ⟨?_, ?_⟩
  · intro x0 ds h K q
    rw [R22] at h
    obtain ⟨s0, s1, s2, h⟩ := h
    exact AtV.runN tabOk ext22Ok mixed (p22_0 x0) ⟨s0, s1, s2, trivial⟩ (ih3 _ _ _ _ h K q)

  · intro v4 h0 x0 ds h K q
    rw [R22_3] at h
    by_cases b0 : (decide (v4 < (↑(List.length x0) : Int))) = true
    · rw [if_pos b0] at h
      obtain ⟨s0, s1, h⟩ := h
      obtain ⟨s2, s3, h⟩ := h
      obtain ⟨s4, h⟩ := h
      exact AtV.runN tabOk ext22Ok mixed (p22_1 v4 h0 x0) ⟨b0, s0, s1, trivial, s2, s3, s4, trivial⟩ (ih3 _ _ _ _ h K q)
    · rw [if_neg b0] at h
      replace b0 := Bool.eq_false_iff.2 b0
      subst h
      exact AtV.fin Tryz.func22 tabOk ext22Ok mixed (p22_2 v4 h0 x0) ⟨b0, trivial⟩



theorem run22 (x0 : List TyB2) (hm : x0.length ≤ maxLen) : ∀ (k i : Nat), i + k = x0.length →
    R22_3 (k + 1) (i : Int) (x0.take i ++ List.replicate k ((0 : Int), (0 : Int), ByteArray.empty, (0 : Int), ())) x0 [⟨.sl (.cons (.int .i64) (.cons (.int .i64) (.cons .str (.cons (.int .i64) .unit)))), x0⟩] := by
  intro k
  induction k with
  | zero =>
    intro i hi
    rw [R22_3, if_neg (by simp; omega), List.take_of_length_le (by omega)]
    simp
  | succ k ih =>
    intro i hi
    rw [R22_3, if_pos (by simp; omega)]
    simp only [Int.toNat_natCast]
    refine ⟨by omega, by omega, by omega, by simp; omega, inR_up hm (by omega), ?_⟩
    have hs := set_step x0 ((0 : Int), (0 : Int), ByteArray.empty, (0 : Int), ()) i (by omega) (k + 1) (by omega)
    have he : ∀ y : TyB2, (y.1, y.2.1, y.2.2.1, y.2.2.2.1, ()) = y := fun _ => rfl
    rw [he, hs]
    exact ih (i + 1) (by omega)

def g22_0 (x0 : List TyB2) : List TyB2 := x0
def P22 (x0 : List TyB2) : Prop := 40 * (x0.length : Int) ≤ 281474976710656
def S22 : Am.Spec := { sig := sig22, pre := fun ⟨x0, _⟩ => P22 x0, res := fun ⟨x0, _⟩ => [⟨.sl (.cons (.int .i64) (.cons (.int .i64) (.cons .str (.cons (.int .i64) .unit)))), g22_0 x0⟩] }
theorem con22 : Contract Tryz.prog 22 S22 := contract_of Tryz.func22 hb22 (Nat.le_of_ble_eq_true (by kernel_rfl)) (fun ⟨x0, _⟩ h hwf K q => by
  refine (snd22 (x0.length + 2)).1 x0 _ ?_ K q
  show R22 (x0.length + 1 + 1) x0 [⟨.sl (.cons (.int .i64) (.cons (.int .i64) (.cons .str (.cons (.int .i64) .unit)))), x0⟩]
  rw [R22]
  refine ⟨by omega, by omega, h, ?_⟩
  have := run22 x0 hwf.1.1 x0.length 0 (by omega)
  simpa using this)

end
end Go.Proofs.YthlhnglkechkaaaGreatDoor

/- Function 6 (laws.toWorks): its runs between cut points. Written by a program of this repo (gen). -/
set_option linter.unusedVariables false
set_option linter.unusedSimpArgs false
set_option maxRecDepth 100000
namespace Go.Proofs.YthlhnglkechkaaaGreatDoor
open Go Go.Am Go.Proofs
noncomputable section
def ext6 : Ext := [(15, S15), (16, S16), (17, S17), (18, S18), (19, S19), (20, S20), (21, S21), (22, S22)]
theorem call6_15 : Callable Tryz.prog 15 := ⟨Tryz.f15, Tryz.func15, by kernel_rfl, by kernel_rfl⟩
theorem call6_16 : Callable Tryz.prog 16 := ⟨Tryz.f16, Tryz.func16, by kernel_rfl, by kernel_rfl⟩
theorem call6_17 : Callable Tryz.prog 17 := ⟨Tryz.f17, Tryz.func17, by kernel_rfl, by kernel_rfl⟩
theorem call6_18 : Callable Tryz.prog 18 := ⟨Tryz.f18, Tryz.func18, by kernel_rfl, by kernel_rfl⟩
theorem call6_19 : Callable Tryz.prog 19 := ⟨Tryz.f19, Tryz.func19, by kernel_rfl, by kernel_rfl⟩
theorem call6_20 : Callable Tryz.prog 20 := ⟨Tryz.f20, Tryz.func20, by kernel_rfl, by kernel_rfl⟩
theorem call6_21 : Callable Tryz.prog 21 := ⟨Tryz.f21, Tryz.func21, by kernel_rfl, by kernel_rfl⟩
theorem call6_22 : Callable Tryz.prog 22 := ⟨Tryz.f22, Tryz.func22, by kernel_rfl, by kernel_rfl⟩
theorem ext6Ok : ExtOk Tryz.prog ext6 := ⟨⟨call6_15, con15⟩, ⟨call6_16, con16⟩, ⟨call6_17, con17⟩, ⟨call6_18, con18⟩, ⟨call6_19, con19⟩, ⟨call6_20, con20⟩, ⟨call6_21, con21⟩, ⟨call6_22, con22⟩, trivial⟩

noncomputable def b6 : Code := bodyOf Tryz.f6
theorem hb6 : Tryz.f6.body = some b6 := by kernel_rfl
def sig6 : List AT := [AT.v (Ty.cons (Ty.cons (Ty.sl (Ty.cons (Ty.int .i64) (Ty.cons (Ty.int .i64) Ty.unit))) (Ty.cons (Ty.int .i64) (Ty.cons (Ty.int .i64) Ty.unit))) (Ty.cons (Ty.int .i64) (Ty.cons (Ty.cons (Ty.int .i64) (Ty.cons (Ty.int .i64) Ty.unit)) (Ty.cons (Ty.cons (Ty.int .i64) (Ty.cons (Ty.int .i64) (Ty.cons (Ty.int .i64) (Ty.cons (Ty.int .i64) Ty.unit)))) (Ty.cons (Ty.sl (Ty.cons Ty.str (Ty.cons (Ty.int .i64) (Ty.cons (Ty.int .i64) (Ty.cons (Ty.int .i64) Ty.unit))))) (Ty.cons (Ty.cons (Ty.int .i64) (Ty.cons (Ty.int .i64) (Ty.cons (Ty.int .i64) Ty.unit))) (Ty.cons (Ty.sl (Ty.cons Ty.str (Ty.cons (Ty.int .i64) (Ty.cons (Ty.int .i64) (Ty.cons (Ty.int .i64) (Ty.cons (Ty.int .i64) Ty.unit)))))) (Ty.cons (Ty.int .i64) (Ty.cons (Ty.int .i64) (Ty.cons (Ty.sl (Ty.cons (Ty.int .i64) (Ty.cons (Ty.int .i64) Ty.unit))) (Ty.cons (Ty.int .i64) (Ty.cons (Ty.sl (Ty.cons (Ty.int .i64) (Ty.cons (Ty.int .i64) (Ty.cons Ty.str (Ty.cons (Ty.int .i64) Ty.unit))))) Ty.unit))))))))))))]
def tys6 : List Ty := [Ty.cons (Ty.cons (Ty.sl (Ty.cons (Ty.int .i64) (Ty.cons (Ty.int .i64) Ty.unit))) (Ty.cons (Ty.int .i64) (Ty.cons (Ty.int .i64) Ty.unit))) (Ty.cons (Ty.int .i64) (Ty.cons (Ty.cons (Ty.int .i64) (Ty.cons (Ty.int .i64) Ty.unit)) (Ty.cons (Ty.cons (Ty.int .i64) (Ty.cons (Ty.int .i64) (Ty.cons (Ty.int .i64) (Ty.cons (Ty.int .i64) Ty.unit)))) (Ty.cons (Ty.sl (Ty.cons Ty.str (Ty.cons (Ty.int .i64) (Ty.cons (Ty.int .i64) (Ty.cons (Ty.int .i64) Ty.unit))))) (Ty.cons (Ty.cons (Ty.int .i64) (Ty.cons (Ty.int .i64) (Ty.cons (Ty.int .i64) Ty.unit))) (Ty.cons (Ty.sl (Ty.cons Ty.str (Ty.cons (Ty.int .i64) (Ty.cons (Ty.int .i64) (Ty.cons (Ty.int .i64) (Ty.cons (Ty.int .i64) Ty.unit)))))) (Ty.cons (Ty.int .i64) (Ty.cons (Ty.int .i64) (Ty.cons (Ty.sl (Ty.cons (Ty.int .i64) (Ty.cons (Ty.int .i64) Ty.unit))) (Ty.cons (Ty.int .i64) (Ty.cons (Ty.sl (Ty.cons (Ty.int .i64) (Ty.cons (Ty.int .i64) (Ty.cons Ty.str (Ty.cons (Ty.int .i64) Ty.unit))))) Ty.unit)))))))))))]
def kds6 : List RK := [.frz]
def oks6 : List AT := owns sig6
def P6 (x0 : TyA0) : Prop := ((P15 x0.1) ∧ ((P18 x0.2.2.2.2.1) ∧ ((P20 x0.2.2.2.2.2.2.1) ∧ ((P21 x0.2.2.2.2.2.2.2.2.2.1) ∧ ((P22 x0.2.2.2.2.2.2.2.2.2.2.2.1) ∧ True)))))
def g6_0 (x0 : TyA0) : TyA0 := (((g15_0 x0.1).1, (g15_0 x0.1).2.1, (g15_0 x0.1).2.2.1, ()), x0.2.1, (x0.2.2.1.1, x0.2.2.1.2.1, ()), (x0.2.2.2.1.1, x0.2.2.2.1.2.1, x0.2.2.2.1.2.2.1, x0.2.2.2.1.2.2.2.1, ()), g18_0 x0.2.2.2.2.1, (x0.2.2.2.2.2.1.1, x0.2.2.2.2.2.1.2.1, x0.2.2.2.2.2.1.2.2.1, ()), g20_0 x0.2.2.2.2.2.2.1, x0.2.2.2.2.2.2.2.1, x0.2.2.2.2.2.2.2.2.1, g21_0 x0.2.2.2.2.2.2.2.2.2.1, x0.2.2.2.2.2.2.2.2.2.2.1, g22_0 x0.2.2.2.2.2.2.2.2.2.2.2.1, ())
theorem p6_0 (x0 : TyA0) : runF tab ext6 false 49 [] 2000 [] oks6 kds6 tys6 Tryz.f6.results [] [.code b6] (entE 0 0 sig6 (x0, ())) (entL sig6 (x0, ())) = some ([Dyn.mk (Ty.cons (Ty.cons (Ty.sl (Ty.cons (Ty.int .i64) (Ty.cons (Ty.int .i64) Ty.unit))) (Ty.cons (Ty.int .i64) (Ty.cons (Ty.int .i64) Ty.unit))) (Ty.cons (Ty.int .i64) (Ty.cons (Ty.cons (Ty.int .i64) (Ty.cons (Ty.int .i64) Ty.unit)) (Ty.cons (Ty.cons (Ty.int .i64) (Ty.cons (Ty.int .i64) (Ty.cons (Ty.int .i64) (Ty.cons (Ty.int .i64) Ty.unit)))) (Ty.cons (Ty.sl (Ty.cons Ty.str (Ty.cons (Ty.int .i64) (Ty.cons (Ty.int .i64) (Ty.cons (Ty.int .i64) Ty.unit))))) (Ty.cons (Ty.cons (Ty.int .i64) (Ty.cons (Ty.int .i64) (Ty.cons (Ty.int .i64) Ty.unit))) (Ty.cons (Ty.sl (Ty.cons Ty.str (Ty.cons (Ty.int .i64) (Ty.cons (Ty.int .i64) (Ty.cons (Ty.int .i64) (Ty.cons (Ty.int .i64) Ty.unit)))))) (Ty.cons (Ty.int .i64) (Ty.cons (Ty.int .i64) (Ty.cons (Ty.sl (Ty.cons (Ty.int .i64) (Ty.cons (Ty.int .i64) Ty.unit))) (Ty.cons (Ty.int .i64) (Ty.cons (Ty.sl (Ty.cons (Ty.int .i64) (Ty.cons (Ty.int .i64) (Ty.cons Ty.str (Ty.cons (Ty.int .i64) Ty.unit))))) Ty.unit)))))))))))) (((g15_0 x0.1).1, (g15_0 x0.1).2.1, (g15_0 x0.1).2.2.1, ()), x0.2.1, (x0.2.2.1.1, x0.2.2.1.2.1, ()), (x0.2.2.2.1.1, x0.2.2.2.1.2.1, x0.2.2.2.1.2.2.1, x0.2.2.2.1.2.2.2.1, ()), g18_0 x0.2.2.2.2.1, (x0.2.2.2.2.2.1.1, x0.2.2.2.2.2.1.2.1, x0.2.2.2.2.2.1.2.2.1, ()), g20_0 x0.2.2.2.2.2.2.1, x0.2.2.2.2.2.2.2.1, x0.2.2.2.2.2.2.2.2.1, g21_0 x0.2.2.2.2.2.2.2.2.2.1, x0.2.2.2.2.2.2.2.2.2.2.1, g22_0 x0.2.2.2.2.2.2.2.2.2.2.2.1, ())], [], [P15 x0.1, True, True, P18 x0.2.2.2.2.1, True, P20 x0.2.2.2.2.2.2.1, P21 x0.2.2.2.2.2.2.2.2.2.1, P22 x0.2.2.2.2.2.2.2.2.2.2.2.1]) := by kernel_rfl
theorem at6 (x0 : TyA0) (h : P6 x0) (K : Ctx) (q : Nat → Value) : AtV Tryz.prog 6 (PostR kds6 oks6 [⟨Ty.cons (Ty.cons (Ty.sl (Ty.cons (Ty.int .i64) (Ty.cons (Ty.int .i64) Ty.unit))) (Ty.cons (Ty.int .i64) (Ty.cons (Ty.int .i64) Ty.unit))) (Ty.cons (Ty.int .i64) (Ty.cons (Ty.cons (Ty.int .i64) (Ty.cons (Ty.int .i64) Ty.unit)) (Ty.cons (Ty.cons (Ty.int .i64) (Ty.cons (Ty.int .i64) (Ty.cons (Ty.int .i64) (Ty.cons (Ty.int .i64) Ty.unit)))) (Ty.cons (Ty.sl (Ty.cons Ty.str (Ty.cons (Ty.int .i64) (Ty.cons (Ty.int .i64) (Ty.cons (Ty.int .i64) Ty.unit))))) (Ty.cons (Ty.cons (Ty.int .i64) (Ty.cons (Ty.int .i64) (Ty.cons (Ty.int .i64) Ty.unit))) (Ty.cons (Ty.sl (Ty.cons Ty.str (Ty.cons (Ty.int .i64) (Ty.cons (Ty.int .i64) (Ty.cons (Ty.int .i64) (Ty.cons (Ty.int .i64) Ty.unit)))))) (Ty.cons (Ty.int .i64) (Ty.cons (Ty.int .i64) (Ty.cons (Ty.sl (Ty.cons (Ty.int .i64) (Ty.cons (Ty.int .i64) Ty.unit))) (Ty.cons (Ty.int .i64) (Ty.cons (Ty.sl (Ty.cons (Ty.int .i64) (Ty.cons (Ty.int .i64) (Ty.cons Ty.str (Ty.cons (Ty.int .i64) Ty.unit))))) Ty.unit))))))))))), g6_0 x0⟩] [] [] q K) 49 K q [] [.code b6] (entE 0 0 sig6 (x0, ())) (entL sig6 (x0, ())) := by
  unfold P6 at h
  unfold g6_0
  obtain ⟨s0, h⟩ := h
  obtain ⟨s1, h⟩ := h
  obtain ⟨s2, h⟩ := h
  obtain ⟨s3, h⟩ := h
  obtain ⟨s4, h⟩ := h
  exact AtV.fin Tryz.func6 tabOk ext6Ok mixed (p6_0 x0) ⟨s0, trivial, trivial, s1, trivial, s2, s3, s4, trivial⟩

def S6 : Am.Spec := { sig := sig6, pre := fun ⟨x0, _⟩ => P6 x0, res := fun ⟨x0, _⟩ => [⟨Ty.cons (Ty.cons (Ty.sl (Ty.cons (Ty.int .i64) (Ty.cons (Ty.int .i64) Ty.unit))) (Ty.cons (Ty.int .i64) (Ty.cons (Ty.int .i64) Ty.unit))) (Ty.cons (Ty.int .i64) (Ty.cons (Ty.cons (Ty.int .i64) (Ty.cons (Ty.int .i64) Ty.unit)) (Ty.cons (Ty.cons (Ty.int .i64) (Ty.cons (Ty.int .i64) (Ty.cons (Ty.int .i64) (Ty.cons (Ty.int .i64) Ty.unit)))) (Ty.cons (Ty.sl (Ty.cons Ty.str (Ty.cons (Ty.int .i64) (Ty.cons (Ty.int .i64) (Ty.cons (Ty.int .i64) Ty.unit))))) (Ty.cons (Ty.cons (Ty.int .i64) (Ty.cons (Ty.int .i64) (Ty.cons (Ty.int .i64) Ty.unit))) (Ty.cons (Ty.sl (Ty.cons Ty.str (Ty.cons (Ty.int .i64) (Ty.cons (Ty.int .i64) (Ty.cons (Ty.int .i64) (Ty.cons (Ty.int .i64) Ty.unit)))))) (Ty.cons (Ty.int .i64) (Ty.cons (Ty.int .i64) (Ty.cons (Ty.sl (Ty.cons (Ty.int .i64) (Ty.cons (Ty.int .i64) Ty.unit))) (Ty.cons (Ty.int .i64) (Ty.cons (Ty.sl (Ty.cons (Ty.int .i64) (Ty.cons (Ty.int .i64) (Ty.cons Ty.str (Ty.cons (Ty.int .i64) Ty.unit))))) Ty.unit))))))))))), g6_0 x0⟩], kds := kds6 }
theorem con6 : Contract Tryz.prog 6 S6 := contract_of Tryz.func6 hb6 (Nat.le_of_ble_eq_true (by kernel_rfl)) (fun ⟨x0, _⟩ h _ K q => at6 x0 h K q)


end
end Go.Proofs.YthlhnglkechkaaaGreatDoor

/- Function 77 (spec.l00In): its runs between cut points. Written by a program of this repo (gen). -/
set_option linter.unusedVariables false
set_option linter.unusedSimpArgs false
set_option maxRecDepth 100000
namespace Go.Proofs.YthlhnglkechkaaaGreatDoor
open Go Go.Am Go.Proofs
noncomputable section
def ext77 : Ext := []
theorem ext77Ok : ExtOk Tryz.prog ext77 := trivial

noncomputable def b77 : Code := bodyOf Tryz.f77
theorem hb77 : Tryz.f77.body = some b77 := by kernel_rfl
def sig77 : List AT := [AT.v (Ty.int .i64), AT.v (Ty.int .i64), AT.v (Ty.int .i64)]
def tys77 : List Ty := [Ty.bool]
def kds77 : List RK := []
def oks77 : List AT := owns sig77
def P77 (x0 : Int) (x1 : Int) (x2 : Int) : Prop := True
def g77_0 (x0 : Int) (x1 : Int) (x2 : Int) : Bool := (if (decide (x0 ≥ x1)) = true then decide (x0 ≤ x2) else false)
theorem p77_0 (x0 : Int) (x1 : Int) (x2 : Int) : runF tab ext77 false 15 [] 2000 [] oks77 kds77 tys77 Tryz.f77.results [true] [.code b77] (entE 0 0 sig77 (x0, x1, x2, ())) (entL sig77 (x0, x1, x2, ())) = some ([Dyn.mk Ty.bool (decide (x0 ≤ x2))], [], [decide (x0 ≥ x1) = true]) := by kernel_rfl
theorem p77_1 (x0 : Int) (x1 : Int) (x2 : Int) : runF tab ext77 false 15 [] 2000 [] oks77 kds77 tys77 Tryz.f77.results [false] [.code b77] (entE 0 0 sig77 (x0, x1, x2, ())) (entL sig77 (x0, x1, x2, ())) = some ([Dyn.mk Ty.bool false], [], [decide (x0 ≥ x1) = false]) := by kernel_rfl
theorem at77 (x0 : Int) (x1 : Int) (x2 : Int) (h : P77 x0 x1 x2) (K : Ctx) (q : Nat → Value) : AtV Tryz.prog 77 (PostR kds77 oks77 [⟨Ty.bool, g77_0 x0 x1 x2⟩] [] [] q K) 15 K q [] [.code b77] (entE 0 0 sig77 (x0, x1, x2, ())) (entL sig77 (x0, x1, x2, ())) := by
  unfold P77 at h
  unfold g77_0
  by_cases b0 : (decide (x0 ≥ x1)) = true
  · try simp only [if_pos b0] at h ⊢
    exact AtV.fin Tryz.func77 tabOk ext77Ok mixed (p77_0 x0 x1 x2) ⟨b0, trivial⟩
  · try simp only [if_neg b0] at h ⊢
    replace b0 := Bool.eq_false_iff.2 b0
    exact AtV.fin Tryz.func77 tabOk ext77Ok mixed (p77_1 x0 x1 x2) ⟨b0, trivial⟩

def S77 : Am.Spec := { sig := sig77, pre := fun ⟨x0, x1, x2, _⟩ => P77 x0 x1 x2, res := fun ⟨x0, x1, x2, _⟩ => [⟨Ty.bool, g77_0 x0 x1 x2⟩], kds := kds77 }
theorem con77 : Contract Tryz.prog 77 S77 := contract_of Tryz.func77 hb77 (Nat.le_of_ble_eq_true (by kernel_rfl)) (fun ⟨x0, x1, x2, _⟩ h _ K q => at77 x0 x1 x2 h K q)


end
end Go.Proofs.YthlhnglkechkaaaGreatDoor

/- Function 78 (spec.l03Length): its runs between cut points. Written by a program of this repo (gen). -/
set_option linter.unusedVariables false
set_option linter.unusedSimpArgs false
set_option maxRecDepth 100000
namespace Go.Proofs.YthlhnglkechkaaaGreatDoor
open Go Go.Am Go.Proofs
noncomputable section
def ext78 : Ext := []
theorem ext78Ok : ExtOk Tryz.prog ext78 := trivial

noncomputable def b78 : Code := bodyOf Tryz.f78
theorem hb78 : Tryz.f78.body = some b78 := by kernel_rfl
def sig78 : List AT := [AT.p (Ty.cons (Ty.sl (Ty.cons (Ty.int .i64) (Ty.cons (Ty.int .i64) Ty.unit))) (Ty.cons (Ty.int .i64) (Ty.cons (Ty.int .i64) Ty.unit)))]
def tys78 : List Ty := [Ty.int .i64]
def kds78 : List RK := []
def oks78 : List AT := owns sig78
def E78_3 (v3 : Int) (v4 : Int) (x0 : List TyB3 × Int × Int × Unit) : Env := [(0, PV.a (Atom.ptr (Ty.cons (Ty.sl (Ty.cons (Ty.int .i64) (Ty.cons (Ty.int .i64) Ty.unit))) (Ty.cons (Ty.int .i64) (Ty.cons (Ty.int .i64) Ty.unit))) x0)), (3, PV.a (Atom.val (Value.int .i64 v3))), (4, PV.a (Atom.val (Value.int .i64 v4)))]
def L78_3 (v3 : Int) (v4 : Int) (x0 : List TyB3 × Int × Int × Unit) : Heap := []
mutual
def R78 : Nat → List TyB3 × Int × Int × Unit → List Dyn → Prop
  | 0, _, _ => False
  | n + 1, x0, ds => (R78_3 n (0) (0) (x0) ds)
def R78_3 : Nat → Int → Int → List TyB3 × Int × Int × Unit → List Dyn → Prop
  | 0, _, _, _, _ => False
  | n + 1, v3, v4, x0, ds => (if (decide (v4 < (↑(List.length x0.1) : Int))) = true then ((0 ≤ v4) ∧ (v4 < (↑(List.length x0.1) : Int)) ∧ ((InR .i64 (v3 + (List.getD x0.1 (Int.toNat v4) (0, 0, ())).1)) ∧ ((InR .i64 (v4 + 1)) ∧ (R78_3 n (v3 + (List.getD x0.1 (Int.toNat v4) (0, 0, ())).1) (v4 + 1) (x0) ds)))) else (ds = [Dyn.mk (Ty.int .i64) v3]))
end
theorem p78_0 (x0 : List TyB3 × Int × Int × Unit) : Am.runN tab ext78 false 25 [] 2000 [] [] [0, 3, 4] [] [] [.code b78] (entE 0 0 sig78 (x0, ())) (entL sig78 (x0, ())) = some (cutAt b78 3, E78_3 (0) (0) (x0), L78_3 (0) (0) (x0), []) := by kernel_rfl
theorem p78_1 (v3 : Int) (v4 : Int) (x0 : List TyB3 × Int × Int × Unit) : Am.runN tab ext78 false 25 [] 2000 [] [] [0, 3, 4] [] [true] (cutAt b78 3) (E78_3 v3 v4 x0) (L78_3 v3 v4 x0) = some (cutAt b78 3, E78_3 (v3 + (List.getD x0.1 (Int.toNat v4) (0, 0, ())).1) (v4 + 1) (x0), L78_3 (v3 + (List.getD x0.1 (Int.toNat v4) (0, 0, ())).1) (v4 + 1) (x0), [decide (v4 < (↑(List.length x0.1) : Int)) = true, 0 ≤ v4, v4 < (↑(List.length x0.1) : Int), InR .i64 (v3 + (List.getD x0.1 (Int.toNat v4) (0, 0, ())).1), InR .i64 (v4 + 1)]) := by kernel_rfl
theorem p78_2 (v3 : Int) (v4 : Int) (x0 : List TyB3 × Int × Int × Unit) : runF tab ext78 false 25 [] 2000 [] oks78 kds78 tys78 Tryz.f78.results [false] (cutAt b78 3) (E78_3 v3 v4 x0) (L78_3 v3 v4 x0) = some ([Dyn.mk (Ty.int .i64) v3], [], [decide (v4 < (↑(List.length x0.1) : Int)) = false]) := by kernel_rfl
theorem snd78 : ∀ n, (∀ (x0 : List TyB3 × Int × Int × Unit) ds, R78 n x0 ds → ∀ K q, AtV Tryz.prog 78 (PostR kds78 oks78 ds [] [] q K) 25 K q [] [.code b78] (entE 0 0 sig78 (x0, ())) (entL sig78 (x0, ()))) ∧ (∀ (v3 : Int) (v4 : Int) (x0 : List TyB3 × Int × Int × Unit) ds, R78_3 n v3 v4 x0 ds → ∀ K q, AtV Tryz.prog 78 (PostR kds78 oks78 ds [] [] q K) 25 K q [] (cutAt b78 3) (E78_3 v3 v4 x0) (L78_3 v3 v4 x0)) := by
  intro n
  induction n with
  | zero => exact ⟨fun _ _ h => by simp only [R78] at h, fun _ _ _ _ h => by simp only [R78_3] at h⟩
  | succ n ih =>
  obtain ⟨ih, ih3⟩ := ih
  refine ⟨?_, ?_⟩
  · intro x0 ds h K q
    rw [R78] at h
    exact AtV.runN tabOk ext78Ok mixed (p78_0 x0) trivial (ih3 _ _ _ _ h K q)

  · intro v3 v4 x0 ds h K q
    rw [R78_3] at h
    by_cases b0 : (decide (v4 < (↑(List.length x0.1) : Int))) = true
    · rw [if_pos b0] at h
      obtain ⟨s0, s1, h⟩ := h
      obtain ⟨s2, h⟩ := h
      obtain ⟨s3, h⟩ := h
      exact AtV.runN tabOk ext78Ok mixed (p78_1 v3 v4 x0) ⟨b0, s0, s1, s2, s3, trivial⟩ (ih3 _ _ _ _ h K q)
    · rw [if_neg b0] at h
      replace b0 := Bool.eq_false_iff.2 b0
      subst h
      exact AtV.fin Tryz.func78 tabOk ext78Ok mixed (p78_2 v3 v4 x0) ⟨b0, trivial⟩



def sum78 (xs : List TyB3) : Int := xs.foldr (fun x n => x.1 + n) 0
def g78_0 (x0 : List TyB3 × Int × Int × Unit) : Int := sum78 x0.1
def P78 (x0 : List TyB3 × Int × Int × Unit) : Prop := x0.1.length ≤ 1000000 ∧ ∀ x ∈ x0.1, 0 ≤ x.1 ∧ x.1 ≤ 1000000000

theorem run78 (x0 : List TyB3 × Int × Int × Unit) (hl : x0.1.length ≤ 1000000) (hx : ∀ x ∈ x0.1, 0 ≤ x.1 ∧ x.1 ≤ 1000000000) : ∀ (k i : Nat) (v : Int), i + k = x0.1.length → 0 ≤ v → v ≤ 1000000000 * (i : Int) →
    R78_3 (k + 1) v (i : Int) x0 [⟨.int .i64, v + sum78 (x0.1.drop i)⟩] := by
  intro k
  induction k with
  | zero =>
    intro i v hi h0 h1
    rw [R78_3, if_neg (by simp only [decide_eq_true_eq]; omega), drop_end _ _ (by omega)]
    simp [sum78]
  | succ k ih =>
    intro i v hi h0 h1
    have hlt : i < x0.1.length := by omega
    have hm := hx _ (mem_getD x0.1 i ((0 : Int), (0 : Int), ()) hlt)
    have h := ih (i + 1) (v + (x0.1.getD i ((0 : Int), (0 : Int), ())).1) (by omega) (by omega) (by omega)
    rw [R78_3, if_pos (by simp only [decide_eq_true_eq]; omega)]
    simp only [Int.toNat_natCast]
    refine ⟨by omega, by omega, by rw [i64_iff]; omega, by rw [i64_iff]; omega, ?_⟩
    rw [drop_get x0.1 i ((0 : Int), (0 : Int), ()) hlt]
    have e : ∀ (y : Int × Int × Unit) l, v + sum78 (y :: l) = v + y.1 + sum78 l := fun y l => by
      show v + (y.1 + sum78 l) = _; omega
    rw [e]
    exact h

theorem top78 (x0 : List TyB3 × Int × Int × Unit) (h : P78 x0) : R78 (x0.1.length + 1 + 1) x0 [⟨.int .i64, g78_0 x0⟩] := by
  rw [R78]
  have := run78 x0 h.1 h.2 x0.1.length 0 0 (by omega) (by omega) (by omega)
  simpa [g78_0] using this

def S78 : Am.Spec := { sig := sig78, pre := fun ⟨x0, _⟩ => P78 x0, res := fun ⟨x0, _⟩ => [⟨.int .i64, g78_0 x0⟩] }
theorem con78 : Contract Tryz.prog 78 S78 := contract_of Tryz.func78 hb78 (Nat.le_of_ble_eq_true (by kernel_rfl)) (fun ⟨x0, _⟩ h hwf K q =>
  (snd78 _).1 x0 _ (top78 x0 h) K q)

theorem sum78_le (xs : List TyB3) (h : ∀ x ∈ xs, 0 ≤ x.1 ∧ x.1 ≤ 3000000) : 0 ≤ sum78 xs ∧ sum78 xs ≤ 3000000 * (xs.length : Int) := by
  induction xs with
  | nil => exact ⟨Int.le_refl _, Int.le_refl _⟩
  | cons x r ih =>
    obtain ⟨i1, i2⟩ := ih fun y hy => h y (List.mem_cons_of_mem _ hy)
    obtain ⟨x1, x2⟩ := h x (List.mem_cons_self ..)
    show 0 ≤ x.1 + sum78 r ∧ x.1 + sum78 r ≤ _
    simp only [List.length_cons]
    omega

end
end Go.Proofs.YthlhnglkechkaaaGreatDoor

/- Function 45 (spec.l03Ok): its runs between cut points. Written by a program of this repo (gen). -/
set_option linter.unusedVariables false
set_option linter.unusedSimpArgs false
set_option maxRecDepth 100000
namespace Go.Proofs.YthlhnglkechkaaaGreatDoor
open Go Go.Am Go.Proofs
noncomputable section
def ext45 : Ext := [(77, S77), (78, S78)]
theorem call45_77 : Callable Tryz.prog 77 := ⟨Tryz.f77, Tryz.func77, by kernel_rfl, by kernel_rfl⟩
theorem call45_78 : Callable Tryz.prog 78 := ⟨Tryz.f78, Tryz.func78, by kernel_rfl, by kernel_rfl⟩
theorem ext45Ok : ExtOk Tryz.prog ext45 := ⟨⟨call45_77, con77⟩, ⟨call45_78, con78⟩, trivial⟩

noncomputable def b45 : Code := bodyOf Tryz.f45
theorem hb45 : Tryz.f45.body = some b45 := by kernel_rfl
def sig45 : List AT := [AT.p (Ty.cons (Ty.sl (Ty.cons (Ty.int .i64) (Ty.cons (Ty.int .i64) Ty.unit))) (Ty.cons (Ty.int .i64) (Ty.cons (Ty.int .i64) Ty.unit)))]
def tys45 : List Ty := [Ty.bool]
def kds45 : List RK := []
def oks45 : List AT := owns sig45
def E45_2 (v3 : Int) (x0 : List TyB3 × Int × Int × Unit) : Env := [(0, PV.a (Atom.ptr (Ty.cons (Ty.sl (Ty.cons (Ty.int .i64) (Ty.cons (Ty.int .i64) Ty.unit))) (Ty.cons (Ty.int .i64) (Ty.cons (Ty.int .i64) Ty.unit))) x0)), (3, PV.a (Atom.val (Value.int .i64 v3)))]
def L45_2 (v3 : Int) (x0 : List TyB3 × Int × Int × Unit) : Heap := []
mutual
def R45 : Nat → List TyB3 × Int × Int × Unit → List Dyn → Prop
  | 0, _, _ => False
  | n + 1, x0, ds => (R45_2 n (0) (x0) ds)
def R45_2 : Nat → Int → List TyB3 × Int × Int × Unit → List Dyn → Prop
  | 0, _, _, _ => False
  | n + 1, v3, x0, ds => (if (decide (v3 < (↑(List.length x0.1) : Int))) = true then ((0 ≤ v3) ∧ (v3 < (↑(List.length x0.1) : Int)) ∧ (if (!g77_0 (List.getD x0.1 (Int.toNat v3) (0, 0, ())).1 1 3000000) = true then (ds = [Dyn.mk Ty.bool false]) else ((0 ≤ v3) ∧ (v3 < (↑(List.length x0.1) : Int)) ∧ (if (!g77_0 (List.getD x0.1 (Int.toNat v3) (0, 0, ())).2.1 0 900) = true then (ds = [Dyn.mk Ty.bool false]) else ((InR .i64 (v3 + 1)) ∧ (R45_2 n (v3 + 1) (x0) ds)))))) else (if ((↑(List.length x0.1) : Int) == 0) = true then (ds = [Dyn.mk Ty.bool false]) else (if (decide ((↑(List.length x0.1) : Int) > 12)) = true then (ds = [Dyn.mk Ty.bool false]) else ((P78 x0) ∧ (if (decide (g78_0 x0 ≤ 3000000)) = true then (if (g77_0 x0.2.1 0 (g78_0 x0)) = true then (ds = [Dyn.mk Ty.bool (g77_0 x0.2.2.1 x0.2.1 (g78_0 x0))]) else (ds = [Dyn.mk Ty.bool false])) else (ds = [Dyn.mk Ty.bool false]))))))
end
theorem p45_0 (x0 : List TyB3 × Int × Int × Unit) : Am.runN tab ext45 false 74 [] 2000 [] [] [0, 3] [] [] [.code b45] (entE 0 0 sig45 (x0, ())) (entL sig45 (x0, ())) = some (cutAt b45 2, E45_2 (0) (x0), L45_2 (0) (x0), []) := by kernel_rfl
theorem p45_1 (v3 : Int) (x0 : List TyB3 × Int × Int × Unit) : runF tab ext45 false 74 [] 2000 [] oks45 kds45 tys45 Tryz.f45.results [true, true, true] (cutAt b45 2) (E45_2 v3 x0) (L45_2 v3 x0) = some ([Dyn.mk Ty.bool false], [], [decide (v3 < (↑(List.length x0.1) : Int)) = true, 0 ≤ v3, v3 < (↑(List.length x0.1) : Int), True, (!g77_0 (List.getD x0.1 (Int.toNat v3) (0, 0, ())).1 1 3000000) = true, true = true]) := by kernel_rfl
theorem p45_2 (v3 : Int) (x0 : List TyB3 × Int × Int × Unit) : runF tab ext45 false 74 [] 2000 [] oks45 kds45 tys45 Tryz.f45.results [true, false, true] (cutAt b45 2) (E45_2 v3 x0) (L45_2 v3 x0) = some ([Dyn.mk Ty.bool false], [], [decide (v3 < (↑(List.length x0.1) : Int)) = true, 0 ≤ v3, v3 < (↑(List.length x0.1) : Int), True, (!g77_0 (List.getD x0.1 (Int.toNat v3) (0, 0, ())).1 1 3000000) = false, 0 ≤ v3, v3 < (↑(List.length x0.1) : Int), True, (!g77_0 (List.getD x0.1 (Int.toNat v3) (0, 0, ())).2.1 0 900) = true]) := by kernel_rfl
theorem p45_3 (v3 : Int) (x0 : List TyB3 × Int × Int × Unit) : Am.runN tab ext45 false 74 [] 2000 [] [] [0, 3] [] [true, false, false] (cutAt b45 2) (E45_2 v3 x0) (L45_2 v3 x0) = some (cutAt b45 2, E45_2 (v3 + 1) (x0), L45_2 (v3 + 1) (x0), [decide (v3 < (↑(List.length x0.1) : Int)) = true, 0 ≤ v3, v3 < (↑(List.length x0.1) : Int), True, (!g77_0 (List.getD x0.1 (Int.toNat v3) (0, 0, ())).1 1 3000000) = false, 0 ≤ v3, v3 < (↑(List.length x0.1) : Int), True, (!g77_0 (List.getD x0.1 (Int.toNat v3) (0, 0, ())).2.1 0 900) = false, InR .i64 (v3 + 1)]) := by kernel_rfl
theorem p45_4 (v3 : Int) (x0 : List TyB3 × Int × Int × Unit) : runF tab ext45 false 74 [] 2000 [] oks45 kds45 tys45 Tryz.f45.results [false, true, true] (cutAt b45 2) (E45_2 v3 x0) (L45_2 v3 x0) = some ([Dyn.mk Ty.bool false], [], [decide (v3 < (↑(List.length x0.1) : Int)) = false, ((↑(List.length x0.1) : Int) == 0) = true, true = true]) := by kernel_rfl
theorem p45_5 (v3 : Int) (x0 : List TyB3 × Int × Int × Unit) : runF tab ext45 false 74 [] 2000 [] oks45 kds45 tys45 Tryz.f45.results [false, false, true] (cutAt b45 2) (E45_2 v3 x0) (L45_2 v3 x0) = some ([Dyn.mk Ty.bool false], [], [decide (v3 < (↑(List.length x0.1) : Int)) = false, ((↑(List.length x0.1) : Int) == 0) = false, decide ((↑(List.length x0.1) : Int) > 12) = true]) := by kernel_rfl
theorem p45_6 (v3 : Int) (x0 : List TyB3 × Int × Int × Unit) : runF tab ext45 false 74 [] 2000 [] oks45 kds45 tys45 Tryz.f45.results [false, false, false, true, true] (cutAt b45 2) (E45_2 v3 x0) (L45_2 v3 x0) = some ([Dyn.mk Ty.bool (g77_0 x0.2.2.1 x0.2.1 (g78_0 x0))], [], [decide (v3 < (↑(List.length x0.1) : Int)) = false, ((↑(List.length x0.1) : Int) == 0) = false, decide ((↑(List.length x0.1) : Int) > 12) = false, P78 x0, decide (g78_0 x0 ≤ 3000000) = true, True, g77_0 x0.2.1 0 (g78_0 x0) = true, True]) := by kernel_rfl
theorem p45_7 (v3 : Int) (x0 : List TyB3 × Int × Int × Unit) : runF tab ext45 false 74 [] 2000 [] oks45 kds45 tys45 Tryz.f45.results [false, false, false, true, false] (cutAt b45 2) (E45_2 v3 x0) (L45_2 v3 x0) = some ([Dyn.mk Ty.bool false], [], [decide (v3 < (↑(List.length x0.1) : Int)) = false, ((↑(List.length x0.1) : Int) == 0) = false, decide ((↑(List.length x0.1) : Int) > 12) = false, P78 x0, decide (g78_0 x0 ≤ 3000000) = true, True, g77_0 x0.2.1 0 (g78_0 x0) = false]) := by kernel_rfl
theorem p45_8 (v3 : Int) (x0 : List TyB3 × Int × Int × Unit) : runF tab ext45 false 74 [] 2000 [] oks45 kds45 tys45 Tryz.f45.results [false, false, false, false, false] (cutAt b45 2) (E45_2 v3 x0) (L45_2 v3 x0) = some ([Dyn.mk Ty.bool false], [], [decide (v3 < (↑(List.length x0.1) : Int)) = false, ((↑(List.length x0.1) : Int) == 0) = false, decide ((↑(List.length x0.1) : Int) > 12) = false, P78 x0, decide (g78_0 x0 ≤ 3000000) = false, false = false]) := by kernel_rfl
theorem snd45 : ∀ n, (∀ (x0 : List TyB3 × Int × Int × Unit) ds, R45 n x0 ds → ∀ K q, AtV Tryz.prog 45 (PostR kds45 oks45 ds [] [] q K) 74 K q [] [.code b45] (entE 0 0 sig45 (x0, ())) (entL sig45 (x0, ()))) ∧ (∀ (v3 : Int) (x0 : List TyB3 × Int × Int × Unit) ds, R45_2 n v3 x0 ds → ∀ K q, AtV Tryz.prog 45 (PostR kds45 oks45 ds [] [] q K) 74 K q [] (cutAt b45 2) (E45_2 v3 x0) (L45_2 v3 x0)) := by
  intro n
  induction n with
  | zero => exact ⟨fun _ _ h => by simp only [R45] at h, fun _ _ _ h => by simp only [R45_2] at h⟩
  | succ n ih =>
  obtain ⟨ih, ih2⟩ := ih
  refine ⟨?_, ?_⟩
  · intro x0 ds h K q
    rw [R45] at h
    exact AtV.runN tabOk ext45Ok mixed (p45_0 x0) trivial (ih2 _ _ _ h K q)

  · intro v3 x0 ds h K q
    rw [R45_2] at h
    by_cases b0 : (decide (v3 < (↑(List.length x0.1) : Int))) = true
    · rw [if_pos b0] at h
      obtain ⟨s0, s1, h⟩ := h
      by_cases b1 : (!g77_0 (List.getD x0.1 (Int.toNat v3) (0, 0, ())).1 1 3000000) = true
      · rw [if_pos b1] at h
        subst h
        exact AtV.fin Tryz.func45 tabOk ext45Ok mixed (p45_1 v3 x0) ⟨b0, s0, s1, trivial, b1, rfl, trivial⟩
      · rw [if_neg b1] at h
        replace b1 := Bool.eq_false_iff.2 b1
        obtain ⟨s2, s3, h⟩ := h
        by_cases b2 : (!g77_0 (List.getD x0.1 (Int.toNat v3) (0, 0, ())).2.1 0 900) = true
        · rw [if_pos b2] at h
          subst h
          exact AtV.fin Tryz.func45 tabOk ext45Ok mixed (p45_2 v3 x0) ⟨b0, s0, s1, trivial, b1, s2, s3, trivial, b2, trivial⟩
        · rw [if_neg b2] at h
          replace b2 := Bool.eq_false_iff.2 b2
          obtain ⟨s4, h⟩ := h
          exact AtV.runN tabOk ext45Ok mixed (p45_3 v3 x0) ⟨b0, s0, s1, trivial, b1, s2, s3, trivial, b2, s4, trivial⟩ (ih2 _ _ _ h K q)
    · rw [if_neg b0] at h
      replace b0 := Bool.eq_false_iff.2 b0
      by_cases b1 : ((↑(List.length x0.1) : Int) == 0) = true
      · rw [if_pos b1] at h
        subst h
        exact AtV.fin Tryz.func45 tabOk ext45Ok mixed (p45_4 v3 x0) ⟨b0, b1, rfl, trivial⟩
      · rw [if_neg b1] at h
        replace b1 := Bool.eq_false_iff.2 b1
        by_cases b2 : (decide ((↑(List.length x0.1) : Int) > 12)) = true
        · rw [if_pos b2] at h
          subst h
          exact AtV.fin Tryz.func45 tabOk ext45Ok mixed (p45_5 v3 x0) ⟨b0, b1, b2, trivial⟩
        · rw [if_neg b2] at h
          replace b2 := Bool.eq_false_iff.2 b2
          obtain ⟨s0, h⟩ := h
          by_cases b3 : (decide (g78_0 x0 ≤ 3000000)) = true
          · rw [if_pos b3] at h
            by_cases b4 : (g77_0 x0.2.1 0 (g78_0 x0)) = true
            · rw [if_pos b4] at h
              subst h
              exact AtV.fin Tryz.func45 tabOk ext45Ok mixed (p45_6 v3 x0) ⟨b0, b1, b2, s0, b3, trivial, b4, trivial, trivial⟩
            · rw [if_neg b4] at h
              replace b4 := Bool.eq_false_iff.2 b4
              subst h
              exact AtV.fin Tryz.func45 tabOk ext45Ok mixed (p45_7 v3 x0) ⟨b0, b1, b2, s0, b3, trivial, b4, trivial⟩
          · rw [if_neg b3] at h
            replace b3 := Bool.eq_false_iff.2 b3
            subst h
            exact AtV.fin Tryz.func45 tabOk ext45Ok mixed (p45_8 v3 x0) ⟨b0, b1, b2, s0, b3, rfl, trivial⟩



def ok45 (x : TyB3) : Bool := g77_0 x.1 1 3000000 && g77_0 x.2.1 0 900
def fine45 (x0 : (List TyB3 × Int × Int × Unit)) : Bool := if decide (g78_0 x0 ≤ 3000000) = true then (if g77_0 x0.2.1 0 (g78_0 x0) = true then g77_0 x0.2.2.1 x0.2.1 (g78_0 x0) else false) else false
def g45_0 (x0 : (List TyB3 × Int × Int × Unit)) : Bool := x0.1.all ok45 && (decide (1 ≤ x0.1.length) && decide (x0.1.length ≤ 12)) && fine45 x0
def P45 (x0 : (List TyB3 × Int × Int × Unit)) : Prop := True

theorem in45 {x a b : Int} : g77_0 x a b = true ↔ a ≤ x ∧ x ≤ b := by
  unfold g77_0
  by_cases c1 : x ≥ a
  · by_cases c2 : x ≤ b
    · simp [c1, c2]
    · simp [c1, c2]
  · have : ¬ a ≤ x := c1
    simp [c1, this]

theorem lenp45 {x0 : (List TyB3 × Int × Int × Unit)} (h : x0.1.all ok45 = true) (hl : x0.1.length ≤ 12) : P78 x0 ∧ 0 ≤ g78_0 x0 ∧ g78_0 x0 ≤ 36000000 := by
  have hx : ∀ x ∈ x0.1, 0 ≤ x.1 ∧ x.1 ≤ 3000000 := fun x hx => by
    have := List.all_eq_true.1 h x hx
    unfold ok45 at this
    rw [Bool.and_eq_true] at this
    have := in45.1 this.1
    omega
  obtain ⟨s1, s2⟩ := sum78_le x0.1 hx
  refine ⟨⟨by omega, fun x h => by have := hx x h; omega⟩, s1, ?_⟩
  show sum78 x0.1 ≤ _
  omega

theorem run45 (x0 : (List TyB3 × Int × Int × Unit)) (hm : x0.1.length ≤ maxLen) (yes : List Dyn) (hend : ∀ n, x0.1.all ok45 = true → R45_2 (n + 1) (x0.1.length : Int) x0 yes) : ∀ (k i : Nat) (B : Bool), i + k = x0.1.length → (x0.1.drop i).all ok45 = B → (∀ j, j < i → ok45 (x0.1.getD j ((0 : Int), (0 : Int), ())) = true) →
    R45_2 (k + 1) (i : Int) x0 (if B = true then yes else [⟨.bool, false⟩]) := by
  intro k
  induction k with
  | zero =>
    intro i B hi hB hp
    have : i = x0.1.length := by omega
    subst this
    rw [drop_end _ _ (by omega)] at hB
    subst hB
    refine hend 0 (List.all_eq_true.2 fun x hx => ?_)
    obtain ⟨j, hj, rfl⟩ := List.getElem_of_mem hx
    have := hp j (by omega)
    rwa [getD_lt _ _ _ hj] at this
  | succ k ih =>
    intro i B hi hB hp
    have hlt : i < x0.1.length := by omega
    have hu := inR_up hm hlt
    rw [R45_2, if_pos (by simp only [decide_eq_true_eq]; omega)]
    rw [drop_get x0.1 i ((0 : Int), (0 : Int), ()) hlt, List.all_cons] at hB
    simp only [Int.toNat_natCast]
    refine ⟨by omega, by omega, ?_⟩
    by_cases h1 : ok45 (x0.1.getD i ((0 : Int), (0 : Int), ())) = true
    case neg =>
      have h1 := Bool.eq_false_iff.2 h1
      rw [h1, Bool.false_and] at hB
      subst hB
      by_cases c1 : g77_0 (x0.1.getD i ((0 : Int), (0 : Int), ())).1 1 3000000 = true
      · rw [if_neg (by rw [c1]; simp)]
        have c2 : g77_0 (x0.1.getD i ((0 : Int), (0 : Int), ())).2.1 0 900 = false := by
          unfold ok45 at h1; rw [c1] at h1; simpa using h1
        exact ⟨by omega, by omega, by rw [if_pos (by rw [c2]; rfl)] <;> rfl⟩
      · rw [if_pos (by rw [Bool.eq_false_iff.2 c1]; rfl)] <;> rfl
    case pos =>
      have hb := h1
      rw [h1, Bool.true_and] at hB
      unfold ok45 at hb
      rw [Bool.and_eq_true] at hb
      rw [if_neg (by rw [hb.1]; simp)]
      have e1 : (((i + 1 : Nat)) : Int) = (i : Int) + 1 := by omega
      have hnext := ih (i + 1) B (by omega) hB (fun j hj => by
        rcases Nat.lt_or_ge j i with h | h
        · exact hp j h
        · have : j = i := by omega
          subst this; exact h1)
      rw [e1] at hnext
      exact ⟨by omega, by omega, by rw [if_neg (by rw [hb.2]; simp)]; exact ⟨hu, hnext⟩⟩

theorem end45 (x0 : (List TyB3 × Int × Int × Unit)) (n : Nat) (h : x0.1.all ok45 = true) : R45_2 (n + 1) (x0.1.length : Int) x0 [⟨.bool, (decide (1 ≤ x0.1.length) && decide (x0.1.length ≤ 12)) && fine45 x0⟩] := by
  rw [R45_2, if_neg (by simp)]
  by_cases c1 : ((x0.1.length : Int) == 0) = true
  · rw [if_pos c1]
    have : ¬ 1 ≤ x0.1.length := by simp only [beq_iff_eq] at c1; omega
    rw [decide_eq_false this]; rfl
  · rw [if_neg c1]
    have d1 : 1 ≤ x0.1.length := by simp only [beq_iff_eq] at c1; omega
    by_cases c2 : (x0.1.length : Int) > 12
    · rw [if_pos (decide_eq_true c2)]
      have : ¬ x0.1.length ≤ 12 := by omega
      rw [decide_eq_false this, Bool.and_false]; rfl
    · rw [if_neg (by simpa using c2)]
      have d2 : x0.1.length ≤ 12 := by omega
      rw [decide_eq_true d1, decide_eq_true d2]
      refine ⟨(lenp45 h d2).1, ?_⟩
      unfold fine45
      split
      · split
        · rfl
        · rfl
      · rfl

theorem top45 (x0 : (List TyB3 × Int × Int × Unit)) (hm : x0.1.length ≤ maxLen) : ∃ n, R45 n x0 [⟨.bool, g45_0 x0⟩] := by
  refine ⟨x0.1.length + 1 + 1, ?_⟩
  rw [R45]
  have key := run45 x0 hm _ (end45 x0) x0.1.length 0 _ (by omega) rfl (fun j hj => by omega)
  rw [List.drop_zero] at key
  unfold g45_0
  cases h : x0.1.all ok45 with
  | true => rw [if_pos h] at key; rw [Bool.true_and]; exact key
  | false => rw [if_neg (by rw [h]; simp)] at key; exact key

def S45 : Am.Spec := { sig := sig45, pre := fun ⟨x0, _⟩ => P45 x0, res := fun ⟨x0, _⟩ => [⟨Ty.bool, g45_0 x0⟩] }
theorem con45 : Contract Tryz.prog 45 S45 := contract_of Tryz.func45 hb45 (Nat.le_of_ble_eq_true (by kernel_rfl)) (fun ⟨x0, _⟩ h hwf K q =>
  let ⟨n, hn⟩ := top45 x0 hwf.1.1.1
  (snd45 n).1 x0 _ hn K q)

end
end Go.Proofs.YthlhnglkechkaaaGreatDoor

/- Function 46 (spec.l05Clear): its runs between cut points. Written by a program of this repo (gen). -/
set_option linter.unusedVariables false
set_option linter.unusedSimpArgs false
set_option maxRecDepth 100000
namespace Go.Proofs.YthlhnglkechkaaaGreatDoor
open Go Go.Am Go.Proofs
noncomputable section
def ext46 : Ext := [(77, S77)]
theorem call46_77 : Callable Tryz.prog 77 := ⟨Tryz.f77, Tryz.func77, by kernel_rfl, by kernel_rfl⟩
theorem ext46Ok : ExtOk Tryz.prog ext46 := ⟨⟨call46_77, con77⟩, trivial⟩

noncomputable def b46 : Code := bodyOf Tryz.f46
theorem hb46 : Tryz.f46.body = some b46 := by kernel_rfl
def sig46 : List AT := [AT.v (Ty.int .i64)]
def tys46 : List Ty := [Ty.bool]
def kds46 : List RK := []
def oks46 : List AT := owns sig46
def P46 (x0 : Int) : Prop := True
def g46_0 (x0 : Int) : Bool := g77_0 x0 0 3000000
theorem p46_0 (x0 : Int) : runF tab ext46 false 5 [] 2000 [] oks46 kds46 tys46 Tryz.f46.results [] [.code b46] (entE 0 0 sig46 (x0, ())) (entL sig46 (x0, ())) = some ([Dyn.mk Ty.bool (g77_0 x0 0 3000000)], [], [True]) := by kernel_rfl
theorem at46 (x0 : Int) (h : P46 x0) (K : Ctx) (q : Nat → Value) : AtV Tryz.prog 46 (PostR kds46 oks46 [⟨Ty.bool, g46_0 x0⟩] [] [] q K) 5 K q [] [.code b46] (entE 0 0 sig46 (x0, ())) (entL sig46 (x0, ())) := by
  unfold P46 at h
  unfold g46_0
  exact AtV.fin Tryz.func46 tabOk ext46Ok mixed (p46_0 x0) ⟨trivial, trivial⟩

def S46 : Am.Spec := { sig := sig46, pre := fun ⟨x0, _⟩ => P46 x0, res := fun ⟨x0, _⟩ => [⟨Ty.bool, g46_0 x0⟩], kds := kds46 }
theorem con46 : Contract Tryz.prog 46 S46 := contract_of Tryz.func46 hb46 (Nat.le_of_ble_eq_true (by kernel_rfl)) (fun ⟨x0, _⟩ h _ K q => at46 x0 h K q)


end
end Go.Proofs.YthlhnglkechkaaaGreatDoor

/- Function 47 (spec.l11Ok): its runs between cut points. Written by a program of this repo (gen). -/
set_option linter.unusedVariables false
set_option linter.unusedSimpArgs false
set_option maxRecDepth 100000
namespace Go.Proofs.YthlhnglkechkaaaGreatDoor
open Go Go.Am Go.Proofs
noncomputable section
def ext47 : Ext := [(77, S77)]
theorem call47_77 : Callable Tryz.prog 77 := ⟨Tryz.f77, Tryz.func77, by kernel_rfl, by kernel_rfl⟩
theorem ext47Ok : ExtOk Tryz.prog ext47 := ⟨⟨call47_77, con77⟩, trivial⟩

noncomputable def b47 : Code := bodyOf Tryz.f47
theorem hb47 : Tryz.f47.body = some b47 := by kernel_rfl
def sig47 : List AT := [AT.p (Ty.cons (Ty.int .i64) (Ty.cons (Ty.int .i64) Ty.unit))]
def tys47 : List Ty := [Ty.bool]
def kds47 : List RK := []
def oks47 : List AT := owns sig47
def P47 (x0 : Int × Int × Unit) : Prop := True
def g47_0 (x0 : Int × Int × Unit) : Bool := (if (g77_0 x0.1 0 100) = true then g77_0 x0.2.1 1 10000 else false)
theorem p47_0 (x0 : Int × Int × Unit) : runF tab ext47 false 15 [] 2000 [] oks47 kds47 tys47 Tryz.f47.results [true] [.code b47] (entE 0 0 sig47 (x0, ())) (entL sig47 (x0, ())) = some ([Dyn.mk Ty.bool (g77_0 x0.2.1 1 10000)], [], [True, g77_0 x0.1 0 100 = true, True]) := by kernel_rfl
theorem p47_1 (x0 : Int × Int × Unit) : runF tab ext47 false 15 [] 2000 [] oks47 kds47 tys47 Tryz.f47.results [false] [.code b47] (entE 0 0 sig47 (x0, ())) (entL sig47 (x0, ())) = some ([Dyn.mk Ty.bool false], [], [True, g77_0 x0.1 0 100 = false]) := by kernel_rfl
theorem at47 (x0 : Int × Int × Unit) (h : P47 x0) (K : Ctx) (q : Nat → Value) : AtV Tryz.prog 47 (PostR kds47 oks47 [⟨Ty.bool, g47_0 x0⟩] [] [] q K) 15 K q [] [.code b47] (entE 0 0 sig47 (x0, ())) (entL sig47 (x0, ())) := by
  unfold P47 at h
  unfold g47_0
  by_cases b0 : (g77_0 x0.1 0 100) = true
  · try simp only [if_pos b0] at h ⊢
    exact AtV.fin Tryz.func47 tabOk ext47Ok mixed (p47_0 x0) ⟨trivial, b0, trivial, trivial⟩
  · try simp only [if_neg b0] at h ⊢
    replace b0 := Bool.eq_false_iff.2 b0
    exact AtV.fin Tryz.func47 tabOk ext47Ok mixed (p47_1 x0) ⟨trivial, b0, trivial⟩

def S47 : Am.Spec := { sig := sig47, pre := fun ⟨x0, _⟩ => P47 x0, res := fun ⟨x0, _⟩ => [⟨Ty.bool, g47_0 x0⟩], kds := kds47 }
theorem con47 : Contract Tryz.prog 47 S47 := contract_of Tryz.func47 hb47 (Nat.le_of_ble_eq_true (by kernel_rfl)) (fun ⟨x0, _⟩ h _ K q => at47 x0 h K q)


end
end Go.Proofs.YthlhnglkechkaaaGreatDoor

/- Function 48 (spec.l09Ok): its runs between cut points. Written by a program of this repo (gen). -/
set_option linter.unusedVariables false
set_option linter.unusedSimpArgs false
set_option maxRecDepth 100000
namespace Go.Proofs.YthlhnglkechkaaaGreatDoor
open Go Go.Am Go.Proofs
noncomputable section
def ext48 : Ext := [(77, S77)]
theorem call48_77 : Callable Tryz.prog 77 := ⟨Tryz.f77, Tryz.func77, by kernel_rfl, by kernel_rfl⟩
theorem ext48Ok : ExtOk Tryz.prog ext48 := ⟨⟨call48_77, con77⟩, trivial⟩

noncomputable def b48 : Code := bodyOf Tryz.f48
theorem hb48 : Tryz.f48.body = some b48 := by kernel_rfl
def sig48 : List AT := [AT.p (Ty.cons (Ty.int .i64) (Ty.cons (Ty.int .i64) (Ty.cons (Ty.int .i64) (Ty.cons (Ty.int .i64) Ty.unit))))]
def tys48 : List Ty := [Ty.bool]
def kds48 : List RK := []
def oks48 : List AT := owns sig48
def P48 (x0 : Int × Int × Int × Int × Unit) : Prop := True
def g48_0 (x0 : Int × Int × Int × Int × Unit) : Bool := (if (g77_0 x0.1 1 2000) = true then (if (g77_0 x0.2.1 100 15000) = true then (if (g77_0 x0.2.2.1 100 x0.2.1) = true then g77_0 x0.2.2.2.1 0 3000000 else false) else false) else false)
theorem p48_0 (x0 : Int × Int × Int × Int × Unit) : runF tab ext48 false 33 [] 2000 [] oks48 kds48 tys48 Tryz.f48.results [true, true, true] [.code b48] (entE 0 0 sig48 (x0, ())) (entL sig48 (x0, ())) = some ([Dyn.mk Ty.bool (g77_0 x0.2.2.2.1 0 3000000)], [], [True, g77_0 x0.1 1 2000 = true, True, g77_0 x0.2.1 100 15000 = true, True, g77_0 x0.2.2.1 100 x0.2.1 = true, True]) := by kernel_rfl
theorem p48_1 (x0 : Int × Int × Int × Int × Unit) : runF tab ext48 false 33 [] 2000 [] oks48 kds48 tys48 Tryz.f48.results [true, true, false] [.code b48] (entE 0 0 sig48 (x0, ())) (entL sig48 (x0, ())) = some ([Dyn.mk Ty.bool false], [], [True, g77_0 x0.1 1 2000 = true, True, g77_0 x0.2.1 100 15000 = true, True, g77_0 x0.2.2.1 100 x0.2.1 = false]) := by kernel_rfl
theorem p48_2 (x0 : Int × Int × Int × Int × Unit) : runF tab ext48 false 33 [] 2000 [] oks48 kds48 tys48 Tryz.f48.results [true, false, false] [.code b48] (entE 0 0 sig48 (x0, ())) (entL sig48 (x0, ())) = some ([Dyn.mk Ty.bool false], [], [True, g77_0 x0.1 1 2000 = true, True, g77_0 x0.2.1 100 15000 = false, false = false]) := by kernel_rfl
theorem p48_3 (x0 : Int × Int × Int × Int × Unit) : runF tab ext48 false 33 [] 2000 [] oks48 kds48 tys48 Tryz.f48.results [false, false, false] [.code b48] (entE 0 0 sig48 (x0, ())) (entL sig48 (x0, ())) = some ([Dyn.mk Ty.bool false], [], [True, g77_0 x0.1 1 2000 = false, false = false, false = false]) := by kernel_rfl
theorem at48 (x0 : Int × Int × Int × Int × Unit) (h : P48 x0) (K : Ctx) (q : Nat → Value) : AtV Tryz.prog 48 (PostR kds48 oks48 [⟨Ty.bool, g48_0 x0⟩] [] [] q K) 33 K q [] [.code b48] (entE 0 0 sig48 (x0, ())) (entL sig48 (x0, ())) := by
  unfold P48 at h
  unfold g48_0
  by_cases b0 : (g77_0 x0.1 1 2000) = true
  · try simp only [if_pos b0] at h ⊢
    by_cases b1 : (g77_0 x0.2.1 100 15000) = true
    · try simp only [if_pos b1] at h ⊢
      by_cases b2 : (g77_0 x0.2.2.1 100 x0.2.1) = true
      · try simp only [if_pos b2] at h ⊢
        exact AtV.fin Tryz.func48 tabOk ext48Ok mixed (p48_0 x0) ⟨trivial, b0, trivial, b1, trivial, b2, trivial, trivial⟩
      · try simp only [if_neg b2] at h ⊢
        replace b2 := Bool.eq_false_iff.2 b2
        exact AtV.fin Tryz.func48 tabOk ext48Ok mixed (p48_1 x0) ⟨trivial, b0, trivial, b1, trivial, b2, trivial⟩
    · try simp only [if_neg b1] at h ⊢
      replace b1 := Bool.eq_false_iff.2 b1
      exact AtV.fin Tryz.func48 tabOk ext48Ok mixed (p48_2 x0) ⟨trivial, b0, trivial, b1, rfl, trivial⟩
  · try simp only [if_neg b0] at h ⊢
    replace b0 := Bool.eq_false_iff.2 b0
    exact AtV.fin Tryz.func48 tabOk ext48Ok mixed (p48_3 x0) ⟨trivial, b0, rfl, rfl, trivial⟩

def S48 : Am.Spec := { sig := sig48, pre := fun ⟨x0, _⟩ => P48 x0, res := fun ⟨x0, _⟩ => [⟨Ty.bool, g48_0 x0⟩], kds := kds48 }
theorem con48 : Contract Tryz.prog 48 S48 := contract_of Tryz.func48 hb48 (Nat.le_of_ble_eq_true (by kernel_rfl)) (fun ⟨x0, _⟩ h _ K q => at48 x0 h K q)


end
end Go.Proofs.YthlhnglkechkaaaGreatDoor

/- Function 103 (spec.l01Small): its runs between cut points. Written by a program of this repo (gen). -/
set_option linter.unusedVariables false
set_option linter.unusedSimpArgs false
set_option maxRecDepth 100000
namespace Go.Proofs.YthlhnglkechkaaaGreatDoor
open Go Go.Am Go.Proofs
noncomputable section
def ext103 : Ext := []
theorem ext103Ok : ExtOk Tryz.prog ext103 := trivial

noncomputable def b103 : Code := bodyOf Tryz.f103
theorem hb103 : Tryz.f103.body = some b103 := by kernel_rfl
def sig103 : List AT := [AT.v (Ty.int .u8)]
def tys103 : List Ty := [Ty.bool]
def kds103 : List RK := []
def oks103 : List AT := owns sig103
def P103 (x0 : Int) : Prop := True
def g103_0 (x0 : Int) : Bool := (if (decide (x0 ≥ 97)) = true then decide (x0 ≤ 122) else false)
theorem p103_0 (x0 : Int) : runF tab ext103 false 9 [] 2000 [] oks103 kds103 tys103 Tryz.f103.results [true] [.code b103] (entE 0 0 sig103 (x0, ())) (entL sig103 (x0, ())) = some ([Dyn.mk Ty.bool (decide (x0 ≤ 122))], [], [decide (x0 ≥ 97) = true]) := by kernel_rfl
theorem p103_1 (x0 : Int) : runF tab ext103 false 9 [] 2000 [] oks103 kds103 tys103 Tryz.f103.results [false] [.code b103] (entE 0 0 sig103 (x0, ())) (entL sig103 (x0, ())) = some ([Dyn.mk Ty.bool false], [], [decide (x0 ≥ 97) = false]) := by kernel_rfl
theorem at103 (x0 : Int) (h : P103 x0) (K : Ctx) (q : Nat → Value) : AtV Tryz.prog 103 (PostR kds103 oks103 [⟨Ty.bool, g103_0 x0⟩] [] [] q K) 9 K q [] [.code b103] (entE 0 0 sig103 (x0, ())) (entL sig103 (x0, ())) := by
  unfold P103 at h
  unfold g103_0
  by_cases b0 : (decide (x0 ≥ 97)) = true
  · try simp only [if_pos b0] at h ⊢
    exact AtV.fin Tryz.func103 tabOk ext103Ok mixed (p103_0 x0) ⟨b0, trivial⟩
  · try simp only [if_neg b0] at h ⊢
    replace b0 := Bool.eq_false_iff.2 b0
    exact AtV.fin Tryz.func103 tabOk ext103Ok mixed (p103_1 x0) ⟨b0, trivial⟩

def S103 : Am.Spec := { sig := sig103, pre := fun ⟨x0, _⟩ => P103 x0, res := fun ⟨x0, _⟩ => [⟨Ty.bool, g103_0 x0⟩], kds := kds103 }
theorem con103 : Contract Tryz.prog 103 S103 := contract_of Tryz.func103 hb103 (Nat.le_of_ble_eq_true (by kernel_rfl)) (fun ⟨x0, _⟩ h _ K q => at103 x0 h K q)


end
end Go.Proofs.YthlhnglkechkaaaGreatDoor

/- Function 104 (spec.l01Digit): its runs between cut points. Written by a program of this repo (gen). -/
set_option linter.unusedVariables false
set_option linter.unusedSimpArgs false
set_option maxRecDepth 100000
namespace Go.Proofs.YthlhnglkechkaaaGreatDoor
open Go Go.Am Go.Proofs
noncomputable section
def ext104 : Ext := []
theorem ext104Ok : ExtOk Tryz.prog ext104 := trivial

noncomputable def b104 : Code := bodyOf Tryz.f104
theorem hb104 : Tryz.f104.body = some b104 := by kernel_rfl
def sig104 : List AT := [AT.v (Ty.int .u8)]
def tys104 : List Ty := [Ty.bool]
def kds104 : List RK := []
def oks104 : List AT := owns sig104
def P104 (x0 : Int) : Prop := True
def g104_0 (x0 : Int) : Bool := (if (decide (x0 ≥ 48)) = true then decide (x0 ≤ 57) else false)
theorem p104_0 (x0 : Int) : runF tab ext104 false 9 [] 2000 [] oks104 kds104 tys104 Tryz.f104.results [true] [.code b104] (entE 0 0 sig104 (x0, ())) (entL sig104 (x0, ())) = some ([Dyn.mk Ty.bool (decide (x0 ≤ 57))], [], [decide (x0 ≥ 48) = true]) := by kernel_rfl
theorem p104_1 (x0 : Int) : runF tab ext104 false 9 [] 2000 [] oks104 kds104 tys104 Tryz.f104.results [false] [.code b104] (entE 0 0 sig104 (x0, ())) (entL sig104 (x0, ())) = some ([Dyn.mk Ty.bool false], [], [decide (x0 ≥ 48) = false]) := by kernel_rfl
theorem at104 (x0 : Int) (h : P104 x0) (K : Ctx) (q : Nat → Value) : AtV Tryz.prog 104 (PostR kds104 oks104 [⟨Ty.bool, g104_0 x0⟩] [] [] q K) 9 K q [] [.code b104] (entE 0 0 sig104 (x0, ())) (entL sig104 (x0, ())) := by
  unfold P104 at h
  unfold g104_0
  by_cases b0 : (decide (x0 ≥ 48)) = true
  · try simp only [if_pos b0] at h ⊢
    exact AtV.fin Tryz.func104 tabOk ext104Ok mixed (p104_0 x0) ⟨b0, trivial⟩
  · try simp only [if_neg b0] at h ⊢
    replace b0 := Bool.eq_false_iff.2 b0
    exact AtV.fin Tryz.func104 tabOk ext104Ok mixed (p104_1 x0) ⟨b0, trivial⟩

def S104 : Am.Spec := { sig := sig104, pre := fun ⟨x0, _⟩ => P104 x0, res := fun ⟨x0, _⟩ => [⟨Ty.bool, g104_0 x0⟩], kds := kds104 }
theorem con104 : Contract Tryz.prog 104 S104 := contract_of Tryz.func104 hb104 (Nat.le_of_ble_eq_true (by kernel_rfl)) (fun ⟨x0, _⟩ h _ K q => at104 x0 h K q)


end
end Go.Proofs.YthlhnglkechkaaaGreatDoor

/- Function 95 (spec.l01Name): its runs between cut points. Written by a program of this repo (gen). -/
set_option linter.unusedVariables false
set_option linter.unusedSimpArgs false
set_option maxRecDepth 100000
namespace Go.Proofs.YthlhnglkechkaaaGreatDoor
open Go Go.Am Go.Proofs
noncomputable section
def ext95 : Ext := [(103, S103), (104, S104)]
theorem call95_103 : Callable Tryz.prog 103 := ⟨Tryz.f103, Tryz.func103, by kernel_rfl, by kernel_rfl⟩
theorem call95_104 : Callable Tryz.prog 104 := ⟨Tryz.f104, Tryz.func104, by kernel_rfl, by kernel_rfl⟩
theorem ext95Ok : ExtOk Tryz.prog ext95 := ⟨⟨call95_103, con103⟩, ⟨call95_104, con104⟩, trivial⟩

noncomputable def b95 : Code := bodyOf Tryz.f95
theorem hb95 : Tryz.f95.body = some b95 := by kernel_rfl
def sig95 : List AT := [AT.v (Ty.str)]
def tys95 : List Ty := [Ty.bool]
def kds95 : List RK := []
def oks95 : List AT := owns sig95
def E95_4 (v3 : Int) (x0 : ByteArray) : Env := [(0, PV.a (Atom.val (Value.string x0))), (3, PV.a (Atom.val (Value.int .i64 v3)))]
def L95_4 (v3 : Int) (x0 : ByteArray) : Heap := []
mutual
def R95 : Nat → ByteArray → List Dyn → Prop
  | 0, _, _ => False
  | n + 1, x0, ds => (if (ByteArray.toList x0 == ByteArray.toList (ByteArray.mk #[])) = true then (ds = [Dyn.mk Ty.bool false]) else (if (decide ((↑(ByteArray.size x0) : Int) > 10)) = true then (ds = [Dyn.mk Ty.bool false]) else ((0 < (↑(ByteArray.size x0) : Int)) ∧ (if (!g103_0 (↑(UInt8.toNat (List.getD (Array.toList (ByteArray.data x0)) 0 0)) : Int)) = true then (ds = [Dyn.mk Ty.bool false]) else (R95_4 n (0) (x0) ds)))))
def R95_4 : Nat → Int → ByteArray → List Dyn → Prop
  | 0, _, _, _ => False
  | n + 1, v3, x0, ds => (if (decide (v3 < (↑(ByteArray.size x0) : Int))) = true then ((0 ≤ v3) ∧ (v3 < (↑(ByteArray.size x0) : Int)) ∧ (if (!g103_0 (↑(UInt8.toNat (List.getD (Array.toList (ByteArray.data x0)) (Int.toNat v3) 0)) : Int)) = true then ((0 ≤ v3) ∧ (v3 < (↑(ByteArray.size x0) : Int)) ∧ (if (!g104_0 (↑(UInt8.toNat (List.getD (Array.toList (ByteArray.data x0)) (Int.toNat v3) 0)) : Int)) = true then (ds = [Dyn.mk Ty.bool false]) else ((InR .i64 (v3 + 1)) ∧ (R95_4 n (v3 + 1) (x0) ds)))) else ((InR .i64 (v3 + 1)) ∧ (R95_4 n (v3 + 1) (x0) ds)))) else (ds = [Dyn.mk Ty.bool true]))
end
theorem p95_0 (x0 : ByteArray) : runF tab ext95 false 35 [] 2000 [] oks95 kds95 tys95 Tryz.f95.results [true, true, true] [.code b95] (entE 0 0 sig95 (x0, ())) (entL sig95 (x0, ())) = some ([Dyn.mk Ty.bool false], [], [(ByteArray.toList x0 == ByteArray.toList (ByteArray.mk #[])) = true, true = true, true = true]) := by kernel_rfl
theorem p95_1 (x0 : ByteArray) : runF tab ext95 false 35 [] 2000 [] oks95 kds95 tys95 Tryz.f95.results [false, true, true] [.code b95] (entE 0 0 sig95 (x0, ())) (entL sig95 (x0, ())) = some ([Dyn.mk Ty.bool false], [], [(ByteArray.toList x0 == ByteArray.toList (ByteArray.mk #[])) = false, decide ((↑(ByteArray.size x0) : Int) > 10) = true, true = true]) := by kernel_rfl
theorem p95_2 (x0 : ByteArray) : runF tab ext95 false 35 [] 2000 [] oks95 kds95 tys95 Tryz.f95.results [false, false, true] [.code b95] (entE 0 0 sig95 (x0, ())) (entL sig95 (x0, ())) = some ([Dyn.mk Ty.bool false], [], [(ByteArray.toList x0 == ByteArray.toList (ByteArray.mk #[])) = false, decide ((↑(ByteArray.size x0) : Int) > 10) = false, (0 : Int) ≤ (0 : Int), 0 < (↑(ByteArray.size x0) : Int), True, (!g103_0 (↑(UInt8.toNat (List.getD (Array.toList (ByteArray.data x0)) 0 0)) : Int)) = true]) := by kernel_rfl
theorem p95_3 (x0 : ByteArray) : Am.runN tab ext95 false 35 [] 2000 [] [] [0, 3] [] [false, false, false] [.code b95] (entE 0 0 sig95 (x0, ())) (entL sig95 (x0, ())) = some (cutAt b95 4, E95_4 (0) (x0), L95_4 (0) (x0), [(ByteArray.toList x0 == ByteArray.toList (ByteArray.mk #[])) = false, decide ((↑(ByteArray.size x0) : Int) > 10) = false, (0 : Int) ≤ (0 : Int), 0 < (↑(ByteArray.size x0) : Int), True, (!g103_0 (↑(UInt8.toNat (List.getD (Array.toList (ByteArray.data x0)) 0 0)) : Int)) = false]) := by kernel_rfl
theorem p95_4 (v3 : Int) (x0 : ByteArray) : runF tab ext95 false 35 [] 2000 [] oks95 kds95 tys95 Tryz.f95.results [true, true, true] (cutAt b95 4) (E95_4 v3 x0) (L95_4 v3 x0) = some ([Dyn.mk Ty.bool false], [], [decide (v3 < (↑(ByteArray.size x0) : Int)) = true, 0 ≤ v3, v3 < (↑(ByteArray.size x0) : Int), True, (!g103_0 (↑(UInt8.toNat (List.getD (Array.toList (ByteArray.data x0)) (Int.toNat v3) 0)) : Int)) = true, 0 ≤ v3, v3 < (↑(ByteArray.size x0) : Int), True, (!g104_0 (↑(UInt8.toNat (List.getD (Array.toList (ByteArray.data x0)) (Int.toNat v3) 0)) : Int)) = true]) := by kernel_rfl
theorem p95_5 (v3 : Int) (x0 : ByteArray) : Am.runN tab ext95 false 35 [] 2000 [] [] [0, 3] [] [true, true, false] (cutAt b95 4) (E95_4 v3 x0) (L95_4 v3 x0) = some (cutAt b95 4, E95_4 (v3 + 1) (x0), L95_4 (v3 + 1) (x0), [decide (v3 < (↑(ByteArray.size x0) : Int)) = true, 0 ≤ v3, v3 < (↑(ByteArray.size x0) : Int), True, (!g103_0 (↑(UInt8.toNat (List.getD (Array.toList (ByteArray.data x0)) (Int.toNat v3) 0)) : Int)) = true, 0 ≤ v3, v3 < (↑(ByteArray.size x0) : Int), True, (!g104_0 (↑(UInt8.toNat (List.getD (Array.toList (ByteArray.data x0)) (Int.toNat v3) 0)) : Int)) = false, InR .i64 (v3 + 1)]) := by kernel_rfl
theorem p95_6 (v3 : Int) (x0 : ByteArray) : Am.runN tab ext95 false 35 [] 2000 [] [] [0, 3] [] [true, false, false] (cutAt b95 4) (E95_4 v3 x0) (L95_4 v3 x0) = some (cutAt b95 4, E95_4 (v3 + 1) (x0), L95_4 (v3 + 1) (x0), [decide (v3 < (↑(ByteArray.size x0) : Int)) = true, 0 ≤ v3, v3 < (↑(ByteArray.size x0) : Int), True, (!g103_0 (↑(UInt8.toNat (List.getD (Array.toList (ByteArray.data x0)) (Int.toNat v3) 0)) : Int)) = false, false = false, InR .i64 (v3 + 1)]) := by kernel_rfl
theorem p95_7 (v3 : Int) (x0 : ByteArray) : runF tab ext95 false 35 [] 2000 [] oks95 kds95 tys95 Tryz.f95.results [false] (cutAt b95 4) (E95_4 v3 x0) (L95_4 v3 x0) = some ([Dyn.mk Ty.bool true], [], [decide (v3 < (↑(ByteArray.size x0) : Int)) = false]) := by kernel_rfl
theorem snd95 : ∀ n, (∀ (x0 : ByteArray) ds, R95 n x0 ds → ∀ K q, AtV Tryz.prog 95 (PostR kds95 oks95 ds [] [] q K) 35 K q [] [.code b95] (entE 0 0 sig95 (x0, ())) (entL sig95 (x0, ()))) ∧ (∀ (v3 : Int) (x0 : ByteArray) ds, R95_4 n v3 x0 ds → ∀ K q, AtV Tryz.prog 95 (PostR kds95 oks95 ds [] [] q K) 35 K q [] (cutAt b95 4) (E95_4 v3 x0) (L95_4 v3 x0)) := by
  intro n
  induction n with
  | zero => exact ⟨fun _ _ h => by simp only [R95] at h, fun _ _ _ h => by simp only [R95_4] at h⟩
  | succ n ih =>
  obtain ⟨ih, ih4⟩ := ih
  refine ⟨?_, ?_⟩
  · intro x0 ds h K q
    rw [R95] at h
    by_cases b0 : (ByteArray.toList x0 == ByteArray.toList (ByteArray.mk #[])) = true
    · rw [if_pos b0] at h
      subst h
      exact AtV.fin Tryz.func95 tabOk ext95Ok mixed (p95_0 x0) ⟨b0, rfl, rfl, trivial⟩
    · rw [if_neg b0] at h
      replace b0 := Bool.eq_false_iff.2 b0
      by_cases b1 : (decide ((↑(ByteArray.size x0) : Int) > 10)) = true
      · rw [if_pos b1] at h
        subst h
        exact AtV.fin Tryz.func95 tabOk ext95Ok mixed (p95_1 x0) ⟨b0, b1, rfl, trivial⟩
      · rw [if_neg b1] at h
        replace b1 := Bool.eq_false_iff.2 b1
        obtain ⟨s0, h⟩ := h
        by_cases b2 : (!g103_0 (↑(UInt8.toNat (List.getD (Array.toList (ByteArray.data x0)) 0 0)) : Int)) = true
        · rw [if_pos b2] at h
          subst h
          exact AtV.fin Tryz.func95 tabOk ext95Ok mixed (p95_2 x0) ⟨b0, b1, (by decide), s0, trivial, b2, trivial⟩
        · rw [if_neg b2] at h
          replace b2 := Bool.eq_false_iff.2 b2
          exact AtV.runN tabOk ext95Ok mixed (p95_3 x0) ⟨b0, b1, (by decide), s0, trivial, b2, trivial⟩ (ih4 _ _ _ h K q)

  · intro v3 x0 ds h K q
    rw [R95_4] at h
    by_cases b0 : (decide (v3 < (↑(ByteArray.size x0) : Int))) = true
    · rw [if_pos b0] at h
      obtain ⟨s0, s1, h⟩ := h
      by_cases b1 : (!g103_0 (↑(UInt8.toNat (List.getD (Array.toList (ByteArray.data x0)) (Int.toNat v3) 0)) : Int)) = true
      · rw [if_pos b1] at h
        obtain ⟨s2, s3, h⟩ := h
        by_cases b2 : (!g104_0 (↑(UInt8.toNat (List.getD (Array.toList (ByteArray.data x0)) (Int.toNat v3) 0)) : Int)) = true
        · rw [if_pos b2] at h
          subst h
          exact AtV.fin Tryz.func95 tabOk ext95Ok mixed (p95_4 v3 x0) ⟨b0, s0, s1, trivial, b1, s2, s3, trivial, b2, trivial⟩
        · rw [if_neg b2] at h
          replace b2 := Bool.eq_false_iff.2 b2
          obtain ⟨s4, h⟩ := h
          exact AtV.runN tabOk ext95Ok mixed (p95_5 v3 x0) ⟨b0, s0, s1, trivial, b1, s2, s3, trivial, b2, s4, trivial⟩ (ih4 _ _ _ h K q)
      · rw [if_neg b1] at h
        replace b1 := Bool.eq_false_iff.2 b1
        obtain ⟨s2, h⟩ := h
        exact AtV.runN tabOk ext95Ok mixed (p95_6 v3 x0) ⟨b0, s0, s1, trivial, b1, rfl, s2, trivial⟩ (ih4 _ _ _ h K q)
    · rw [if_neg b0] at h
      replace b0 := Bool.eq_false_iff.2 b0
      subst h
      exact AtV.fin Tryz.func95 tabOk ext95Ok mixed (p95_7 v3 x0) ⟨b0, trivial⟩



def g95_0 (x0 : ByteArray) : Bool := decide (1 ≤ x0.size) && decide (x0.size ≤ 10) && g103_0 ((bytesOf x0).getD 0 0) && (bytesOf x0).all fun b => g103_0 b || g104_0 b
def P95 (x0 : ByteArray) : Prop := True

theorem top95 (x0 : ByteArray) (hw : Wf .str x0) : R95 (x0.size + 1 + 1) x0 [⟨.bool, g95_0 x0⟩] := by
  have hl := bytesOf_length x0
  rw [R95]
  by_cases h0 : x0 = ByteArray.mk #[]
  · rw [if_pos ((bytes_eq _ _).2 h0)]
    subst h0
    rfl
  · rw [if_neg (fun h => h0 ((bytes_eq _ _).1 h))]
    have hs : 1 ≤ x0.size := by
      rcases Nat.lt_or_ge 0 x0.size with h | h
      · exact h
      · exact absurd (bytesOf_inj (s := x0) (t := ByteArray.mk #[]) (List.eq_nil_of_length_eq_zero (by rw [hl]; omega))) h0
    by_cases h1 : (x0.size : Int) > 10
    · rw [if_pos (by simpa using h1)]
      have : ¬ x0.size ≤ 10 := by omega
      simp [g95_0, this]
    · rw [if_neg (by simpa using h1)]
      refine ⟨by omega, ?_⟩
      rw [byte_get]
      cases h2 : g103_0 ((bytesOf x0).getD 0 0) with
      | false =>
        rw [if_pos (by simp)]
        simp [g95_0, h2, -List.getD_eq_getElem?_getD]
      | true =>
        rw [if_neg (by simp)]
        have key := loop_test (bytesOf x0) 0 (fun b => g103_0 b || g104_0 b) [(⟨.bool, false⟩ : Dyn)] [⟨.bool, true⟩] (fun n i ds => R95_4 n i x0 ds) (fun n => ?_) (fun n i hi hok ds hr => ?_) (fun n i hi hok => ?_)
        · rw [hl] at key
          have e : g95_0 x0 = (bytesOf x0).all fun b => g103_0 b || g104_0 b := by
            have : x0.size ≤ 10 := by omega
            unfold g95_0
            simp only [hs, this, decide_true, Bool.true_and, h2]
          rw [e]
          cases h : (bytesOf x0).all fun b => g103_0 b || g104_0 b with
          | true => rw [if_pos h] at key; exact key
          | false => rw [if_neg (by rw [h]; simp)] at key; exact key
        · show R95_4 (n + 1) ((bytesOf x0).length : Int) x0 _
          rw [R95_4, hl, if_neg (by simp)]
        · rw [R95_4, if_pos (by simp; omega)]
          simp only [Int.toNat_natCast, byte_get]
          generalize (bytesOf x0).getD i 0 = c at *
          refine ⟨by omega, by omega, ?_⟩
          have hu := inR_up (xs := bytesOf x0) (by rw [hl]; exact hw) hi
          cases h3 : g103_0 c with
          | true => rw [if_neg (by simp)]; exact ⟨hu, hr⟩
          | false =>
            rw [if_pos (by simp)]
            rw [h3, Bool.false_or] at hok
            refine ⟨by omega, by omega, ?_⟩
            rw [if_neg (by rw [hok]; simp)]
            exact ⟨hu, hr⟩
        · simp only [Bool.or_eq_false_iff] at hok
          rw [R95_4, if_pos (by simp; omega)]
          simp only [Int.toNat_natCast, byte_get]
          refine ⟨by omega, by omega, ?_⟩
          rw [if_pos (by rw [hok.1]; rfl)]
          refine ⟨by omega, by omega, ?_⟩
          rw [if_pos (by rw [hok.2]; rfl)] <;> trivial

def S95 : Am.Spec := { sig := sig95, pre := fun ⟨x0, _⟩ => P95 x0, res := fun ⟨x0, _⟩ => [⟨Ty.bool, g95_0 x0⟩] }
theorem con95 : Contract Tryz.prog 95 S95 := contract_of Tryz.func95 hb95 (Nat.le_of_ble_eq_true (by kernel_rfl)) (fun ⟨x0, _⟩ h hwf K q =>
  (snd95 _).1 x0 _ (top95 x0 hwf.1) K q)

end
end Go.Proofs.YthlhnglkechkaaaGreatDoor

/- Function 79 (spec.l17One): its runs between cut points. Written by a program of this repo (gen). -/
set_option linter.unusedVariables false
set_option linter.unusedSimpArgs false
set_option maxRecDepth 100000
namespace Go.Proofs.YthlhnglkechkaaaGreatDoor
open Go Go.Am Go.Proofs
noncomputable section
def ext79 : Ext := [(95, S95), (77, S77)]
theorem call79_95 : Callable Tryz.prog 95 := ⟨Tryz.f95, Tryz.func95, by kernel_rfl, by kernel_rfl⟩
theorem call79_77 : Callable Tryz.prog 77 := ⟨Tryz.f77, Tryz.func77, by kernel_rfl, by kernel_rfl⟩
theorem ext79Ok : ExtOk Tryz.prog ext79 := ⟨⟨call79_95, con95⟩, ⟨call79_77, con77⟩, trivial⟩

noncomputable def b79 : Code := bodyOf Tryz.f79
theorem hb79 : Tryz.f79.body = some b79 := by kernel_rfl
def sig79 : List AT := [AT.p (Ty.cons Ty.str (Ty.cons (Ty.int .i64) (Ty.cons (Ty.int .i64) (Ty.cons (Ty.int .i64) Ty.unit))))]
def tys79 : List Ty := [Ty.bool]
def kds79 : List RK := []
def oks79 : List AT := owns sig79
def P79 (x0 : ByteArray × Int × Int × Int × Unit) : Prop := True
def g79_0 (x0 : ByteArray × Int × Int × Int × Unit) : Bool := (if (g95_0 x0.1) = true then (if (g77_0 x0.2.1 1 200) = true then (if (g77_0 x0.2.2.1 0 40) = true then g77_0 x0.2.2.2.1 0 100000 else false) else false) else false)
theorem p79_0 (x0 : ByteArray × Int × Int × Int × Unit) : runF tab ext79 false 29 [] 2000 [] oks79 kds79 tys79 Tryz.f79.results [true, true, true] [.code b79] (entE 0 0 sig79 (x0, ())) (entL sig79 (x0, ())) = some ([Dyn.mk Ty.bool (g77_0 x0.2.2.2.1 0 100000)], [], [True, g95_0 x0.1 = true, True, g77_0 x0.2.1 1 200 = true, True, g77_0 x0.2.2.1 0 40 = true, True]) := by kernel_rfl
theorem p79_1 (x0 : ByteArray × Int × Int × Int × Unit) : runF tab ext79 false 29 [] 2000 [] oks79 kds79 tys79 Tryz.f79.results [true, true, false] [.code b79] (entE 0 0 sig79 (x0, ())) (entL sig79 (x0, ())) = some ([Dyn.mk Ty.bool false], [], [True, g95_0 x0.1 = true, True, g77_0 x0.2.1 1 200 = true, True, g77_0 x0.2.2.1 0 40 = false]) := by kernel_rfl
theorem p79_2 (x0 : ByteArray × Int × Int × Int × Unit) : runF tab ext79 false 29 [] 2000 [] oks79 kds79 tys79 Tryz.f79.results [true, false, false] [.code b79] (entE 0 0 sig79 (x0, ())) (entL sig79 (x0, ())) = some ([Dyn.mk Ty.bool false], [], [True, g95_0 x0.1 = true, True, g77_0 x0.2.1 1 200 = false, false = false]) := by kernel_rfl
theorem p79_3 (x0 : ByteArray × Int × Int × Int × Unit) : runF tab ext79 false 29 [] 2000 [] oks79 kds79 tys79 Tryz.f79.results [false, false, false] [.code b79] (entE 0 0 sig79 (x0, ())) (entL sig79 (x0, ())) = some ([Dyn.mk Ty.bool false], [], [True, g95_0 x0.1 = false, false = false, false = false]) := by kernel_rfl
theorem at79 (x0 : ByteArray × Int × Int × Int × Unit) (h : P79 x0) (K : Ctx) (q : Nat → Value) : AtV Tryz.prog 79 (PostR kds79 oks79 [⟨Ty.bool, g79_0 x0⟩] [] [] q K) 29 K q [] [.code b79] (entE 0 0 sig79 (x0, ())) (entL sig79 (x0, ())) := by
  unfold P79 at h
  unfold g79_0
  by_cases b0 : (g95_0 x0.1) = true
  · try simp only [if_pos b0] at h ⊢
    by_cases b1 : (g77_0 x0.2.1 1 200) = true
    · try simp only [if_pos b1] at h ⊢
      by_cases b2 : (g77_0 x0.2.2.1 0 40) = true
      · try simp only [if_pos b2] at h ⊢
        exact AtV.fin Tryz.func79 tabOk ext79Ok mixed (p79_0 x0) ⟨trivial, b0, trivial, b1, trivial, b2, trivial, trivial⟩
      · try simp only [if_neg b2] at h ⊢
        replace b2 := Bool.eq_false_iff.2 b2
        exact AtV.fin Tryz.func79 tabOk ext79Ok mixed (p79_1 x0) ⟨trivial, b0, trivial, b1, trivial, b2, trivial⟩
    · try simp only [if_neg b1] at h ⊢
      replace b1 := Bool.eq_false_iff.2 b1
      exact AtV.fin Tryz.func79 tabOk ext79Ok mixed (p79_2 x0) ⟨trivial, b0, trivial, b1, rfl, trivial⟩
  · try simp only [if_neg b0] at h ⊢
    replace b0 := Bool.eq_false_iff.2 b0
    exact AtV.fin Tryz.func79 tabOk ext79Ok mixed (p79_3 x0) ⟨trivial, b0, rfl, rfl, trivial⟩

def S79 : Am.Spec := { sig := sig79, pre := fun ⟨x0, _⟩ => P79 x0, res := fun ⟨x0, _⟩ => [⟨Ty.bool, g79_0 x0⟩], kds := kds79 }
theorem con79 : Contract Tryz.prog 79 S79 := contract_of Tryz.func79 hb79 (Nat.le_of_ble_eq_true (by kernel_rfl)) (fun ⟨x0, _⟩ h _ K q => at79 x0 h K q)


end
end Go.Proofs.YthlhnglkechkaaaGreatDoor

/- Function 49 (spec.l17Ok): its runs between cut points. Written by a program of this repo (gen). -/
set_option linter.unusedVariables false
set_option linter.unusedSimpArgs false
set_option maxRecDepth 100000
namespace Go.Proofs.YthlhnglkechkaaaGreatDoor
open Go Go.Am Go.Proofs
noncomputable section
def ext49 : Ext := [(79, S79)]
theorem call49_79 : Callable Tryz.prog 79 := ⟨Tryz.f79, Tryz.func79, by kernel_rfl, by kernel_rfl⟩
theorem ext49Ok : ExtOk Tryz.prog ext49 := ⟨⟨call49_79, con79⟩, trivial⟩

noncomputable def b49 : Code := bodyOf Tryz.f49
theorem hb49 : Tryz.f49.body = some b49 := by kernel_rfl
def sig49 : List AT := [AT.v (Ty.sl (Ty.cons Ty.str (Ty.cons (Ty.int .i64) (Ty.cons (Ty.int .i64) (Ty.cons (Ty.int .i64) Ty.unit)))))]
def tys49 : List Ty := [Ty.bool]
def kds49 : List RK := []
def oks49 : List AT := owns sig49
def E49_2 (v3 : Int) (x0 : List TyB1) : Env := [(0, PV.a (Atom.sl (Ty.cons Ty.str (Ty.cons (Ty.int .i64) (Ty.cons (Ty.int .i64) (Ty.cons (Ty.int .i64) Ty.unit)))) x0)), (3, PV.a (Atom.val (Value.int .i64 v3)))]
def L49_2 (v3 : Int) (x0 : List TyB1) : Heap := []
mutual
def R49 : Nat → List TyB1 → List Dyn → Prop
  | 0, _, _ => False
  | n + 1, x0, ds => (R49_2 n (0) (x0) ds)
def R49_2 : Nat → Int → List TyB1 → List Dyn → Prop
  | 0, _, _, _ => False
  | n + 1, v3, x0, ds => (if (decide (v3 < (↑(List.length x0) : Int))) = true then ((0 ≤ v3) ∧ (v3 < (↑(List.length x0) : Int)) ∧ (if (!g79_0 (List.getD x0 (Int.toNat v3) (ByteArray.empty, 0, 0, 0, ()))) = true then (ds = [Dyn.mk Ty.bool false]) else (if (decide (v3 > 0)) = true then ((InR .i64 (v3 - 1)) ∧ ((0 ≤ v3 - 1) ∧ (v3 - 1 < (↑(List.length x0) : Int)) ∧ ((0 ≤ v3) ∧ (v3 < (↑(List.length x0) : Int)) ∧ (if (!Op.bytesLess (ByteArray.toList (List.getD x0 (Int.toNat (v3 - 1)) (ByteArray.empty, 0, 0, 0, ())).1) (ByteArray.toList (List.getD x0 (Int.toNat v3) (ByteArray.empty, 0, 0, 0, ())).1)) = true then (ds = [Dyn.mk Ty.bool false]) else ((InR .i64 (v3 + 1)) ∧ (R49_2 n (v3 + 1) (x0) ds)))))) else ((InR .i64 (v3 + 1)) ∧ (R49_2 n (v3 + 1) (x0) ds))))) else (ds = [Dyn.mk Ty.bool (decide ((↑(List.length x0) : Int) ≤ 12))]))
end
theorem p49_0 (x0 : List TyB1) : Am.runN tab ext49 false 36 [] 2000 [] [] [0, 3] [] [] [.code b49] (entE 0 0 sig49 (x0, ())) (entL sig49 (x0, ())) = some (cutAt b49 2, E49_2 (0) (x0), L49_2 (0) (x0), []) := by kernel_rfl
theorem p49_1 (v3 : Int) (x0 : List TyB1) : runF tab ext49 false 36 [] 2000 [] oks49 kds49 tys49 Tryz.f49.results [true, true, true] (cutAt b49 2) (E49_2 v3 x0) (L49_2 v3 x0) = some ([Dyn.mk Ty.bool false], [], [decide (v3 < (↑(List.length x0) : Int)) = true, 0 ≤ v3, v3 < (↑(List.length x0) : Int), True, (!g79_0 (List.getD x0 (Int.toNat v3) (ByteArray.empty, 0, 0, 0, ()))) = true, true = true]) := by kernel_rfl
theorem p49_2 (v3 : Int) (x0 : List TyB1) : runF tab ext49 false 36 [] 2000 [] oks49 kds49 tys49 Tryz.f49.results [true, false, true, true] (cutAt b49 2) (E49_2 v3 x0) (L49_2 v3 x0) = some ([Dyn.mk Ty.bool false], [], [decide (v3 < (↑(List.length x0) : Int)) = true, 0 ≤ v3, v3 < (↑(List.length x0) : Int), True, (!g79_0 (List.getD x0 (Int.toNat v3) (ByteArray.empty, 0, 0, 0, ()))) = false, decide (v3 > 0) = true, InR .i64 (v3 - 1), 0 ≤ v3 - 1, v3 - 1 < (↑(List.length x0) : Int), 0 ≤ v3, v3 < (↑(List.length x0) : Int), (!Op.bytesLess (ByteArray.toList (List.getD x0 (Int.toNat (v3 - 1)) (ByteArray.empty, 0, 0, 0, ())).1) (ByteArray.toList (List.getD x0 (Int.toNat v3) (ByteArray.empty, 0, 0, 0, ())).1)) = true]) := by kernel_rfl
theorem p49_3 (v3 : Int) (x0 : List TyB1) : Am.runN tab ext49 false 36 [] 2000 [] [] [0, 3] [] [true, false, true, false] (cutAt b49 2) (E49_2 v3 x0) (L49_2 v3 x0) = some (cutAt b49 2, E49_2 (v3 + 1) (x0), L49_2 (v3 + 1) (x0), [decide (v3 < (↑(List.length x0) : Int)) = true, 0 ≤ v3, v3 < (↑(List.length x0) : Int), True, (!g79_0 (List.getD x0 (Int.toNat v3) (ByteArray.empty, 0, 0, 0, ()))) = false, decide (v3 > 0) = true, InR .i64 (v3 - 1), 0 ≤ v3 - 1, v3 - 1 < (↑(List.length x0) : Int), 0 ≤ v3, v3 < (↑(List.length x0) : Int), (!Op.bytesLess (ByteArray.toList (List.getD x0 (Int.toNat (v3 - 1)) (ByteArray.empty, 0, 0, 0, ())).1) (ByteArray.toList (List.getD x0 (Int.toNat v3) (ByteArray.empty, 0, 0, 0, ())).1)) = false, InR .i64 (v3 + 1)]) := by kernel_rfl
theorem p49_4 (v3 : Int) (x0 : List TyB1) : Am.runN tab ext49 false 36 [] 2000 [] [] [0, 3] [] [true, false, false, false] (cutAt b49 2) (E49_2 v3 x0) (L49_2 v3 x0) = some (cutAt b49 2, E49_2 (v3 + 1) (x0), L49_2 (v3 + 1) (x0), [decide (v3 < (↑(List.length x0) : Int)) = true, 0 ≤ v3, v3 < (↑(List.length x0) : Int), True, (!g79_0 (List.getD x0 (Int.toNat v3) (ByteArray.empty, 0, 0, 0, ()))) = false, decide (v3 > 0) = false, false = false, InR .i64 (v3 + 1)]) := by kernel_rfl
theorem p49_5 (v3 : Int) (x0 : List TyB1) : runF tab ext49 false 36 [] 2000 [] oks49 kds49 tys49 Tryz.f49.results [false] (cutAt b49 2) (E49_2 v3 x0) (L49_2 v3 x0) = some ([Dyn.mk Ty.bool (decide ((↑(List.length x0) : Int) ≤ 12))], [], [decide (v3 < (↑(List.length x0) : Int)) = false]) := by kernel_rfl
theorem snd49 : ∀ n, (∀ (x0 : List TyB1) ds, R49 n x0 ds → ∀ K q, AtV Tryz.prog 49 (PostR kds49 oks49 ds [] [] q K) 36 K q [] [.code b49] (entE 0 0 sig49 (x0, ())) (entL sig49 (x0, ()))) ∧ (∀ (v3 : Int) (x0 : List TyB1) ds, R49_2 n v3 x0 ds → ∀ K q, AtV Tryz.prog 49 (PostR kds49 oks49 ds [] [] q K) 36 K q [] (cutAt b49 2) (E49_2 v3 x0) (L49_2 v3 x0)) := by
  intro n
  induction n with
  | zero => exact ⟨fun _ _ h => by simp only [R49] at h, fun _ _ _ h => by simp only [R49_2] at h⟩
  | succ n ih =>
  obtain ⟨ih, ih2⟩ := ih
  refine ⟨?_, ?_⟩
  · intro x0 ds h K q
    rw [R49] at h
    exact AtV.runN tabOk ext49Ok mixed (p49_0 x0) trivial (ih2 _ _ _ h K q)

  · intro v3 x0 ds h K q
    rw [R49_2] at h
    by_cases b0 : (decide (v3 < (↑(List.length x0) : Int))) = true
    · rw [if_pos b0] at h
      obtain ⟨s0, s1, h⟩ := h
      by_cases b1 : (!g79_0 (List.getD x0 (Int.toNat v3) (ByteArray.empty, 0, 0, 0, ()))) = true
      · rw [if_pos b1] at h
        subst h
        exact AtV.fin Tryz.func49 tabOk ext49Ok mixed (p49_1 v3 x0) ⟨b0, s0, s1, trivial, b1, rfl, trivial⟩
      · rw [if_neg b1] at h
        replace b1 := Bool.eq_false_iff.2 b1
        by_cases b2 : (decide (v3 > 0)) = true
        · rw [if_pos b2] at h
          obtain ⟨s2, h⟩ := h
          obtain ⟨s3, s4, h⟩ := h
          obtain ⟨s5, s6, h⟩ := h
          by_cases b3 : (!Op.bytesLess (ByteArray.toList (List.getD x0 (Int.toNat (v3 - 1)) (ByteArray.empty, 0, 0, 0, ())).1) (ByteArray.toList (List.getD x0 (Int.toNat v3) (ByteArray.empty, 0, 0, 0, ())).1)) = true
          · rw [if_pos b3] at h
            subst h
            exact AtV.fin Tryz.func49 tabOk ext49Ok mixed (p49_2 v3 x0) ⟨b0, s0, s1, trivial, b1, b2, s2, s3, s4, s5, s6, b3, trivial⟩
          · rw [if_neg b3] at h
            replace b3 := Bool.eq_false_iff.2 b3
            obtain ⟨s7, h⟩ := h
            exact AtV.runN tabOk ext49Ok mixed (p49_3 v3 x0) ⟨b0, s0, s1, trivial, b1, b2, s2, s3, s4, s5, s6, b3, s7, trivial⟩ (ih2 _ _ _ h K q)
        · rw [if_neg b2] at h
          replace b2 := Bool.eq_false_iff.2 b2
          obtain ⟨s2, h⟩ := h
          exact AtV.runN tabOk ext49Ok mixed (p49_4 v3 x0) ⟨b0, s0, s1, trivial, b1, b2, rfl, s2, trivial⟩ (ih2 _ _ _ h K q)
    · rw [if_neg b0] at h
      replace b0 := Bool.eq_false_iff.2 b0
      subst h
      exact AtV.fin Tryz.func49 tabOk ext49Ok mixed (p49_5 v3 x0) ⟨b0, trivial⟩



def ok49 (x0 : List TyB1) (i : Nat) (x : TyB1) : Bool :=
  g79_0 x && (i == 0 || Op.bytesLess (ByteArray.toList (x0.getD (i - 1) (ByteArray.empty, (0 : Int), (0 : Int), (0 : Int), ())).1) (ByteArray.toList x.1))
def g49_0 (x0 : List TyB1) : Bool := allI (ok49 x0) 0 x0 && decide (x0.length ≤ 12)
def P49 (x0 : List TyB1) : Prop := True

theorem step49 (n i : Nat) (x0 : List TyB1) (hm : x0.length ≤ maxLen) (hi : i < x0.length) (ds : List Dyn) :
    (if ok49 x0 i (x0.getD i (ByteArray.empty, (0 : Int), (0 : Int), (0 : Int), ())) = true then R49_2 n ((i : Int) + 1) x0 ds else ds = [⟨.bool, false⟩]) → R49_2 (n + 1) (i : Int) x0 ds := by
  intro h
  have hu := inR_up hm hi
  rw [R49_2, if_pos (by simp; omega)]
  refine ⟨by omega, by omega, ?_⟩
  simp only [Int.toNat_natCast]
  unfold ok49 at h
  cases h1 : g79_0 (x0.getD i (ByteArray.empty, (0 : Int), (0 : Int), (0 : Int), ())) with
  | false =>
    rw [h1] at h
    rw [if_pos (by rfl)]
    simpa using h
  | true =>
    rw [h1] at h
    rw [if_neg (by simp)]
    by_cases h0 : (i : Int) > 0
    · rw [if_pos (by simpa using h0)]
      have hi0 : (i == 0) = false := by simp; omega
      have e : ((i : Int) - 1).toNat = i - 1 := by omega
      refine ⟨by rw [i64_iff]; have : maxLen ≤ 9223372036854775807 := by decide
                 omega, by omega, by omega, by omega, by omega, ?_⟩
      rw [e]
      by_cases h2 : Op.bytesLess (ByteArray.toList (x0.getD (i - 1) (ByteArray.empty, (0 : Int), (0 : Int), (0 : Int), ())).1) (ByteArray.toList (x0.getD i (ByteArray.empty, (0 : Int), (0 : Int), (0 : Int), ())).1) = true
      · rw [h2, hi0] at h
        rw [if_neg (by rw [h2]; simp)]
        exact ⟨hu, by simpa using h⟩
      · have h2 := Bool.eq_false_iff.2 h2
        rw [h2, hi0] at h
        rw [if_pos (by rw [h2]; rfl)]
        simpa using h
    · rw [if_neg (by simpa using h0)]
      have hi0 : (i == 0) = true := by simp; omega
      rw [hi0] at h
      exact ⟨hu, by simpa using h⟩

theorem top49 (x0 : List TyB1) (hw : x0.length ≤ maxLen) : R49 (x0.length + 1 + 1) x0 [⟨.bool, g49_0 x0⟩] := by
  rw [R49]
  have key := loop_testI x0 (ByteArray.empty, (0 : Int), (0 : Int), (0 : Int), ()) (ok49 x0) [(⟨.bool, false⟩ : Dyn)] [⟨.bool, decide (x0.length ≤ 12)⟩] (fun n i ds => R49_2 n i x0 ds) (fun n => ?_) (fun n i hi hok ds hr => ?_) (fun n i hi hok => ?_)
  · unfold g49_0
    cases h : allI (ok49 x0) 0 x0 with
    | true => rw [if_pos h] at key; simpa using key
    | false => rw [if_neg (by rw [h]; simp)] at key; simpa using key
  · rw [R49_2, if_neg (by simp)]
    have hc : decide ((x0.length : Int) ≤ 12) = decide (x0.length ≤ 12) := by
      congr 1; exact propext ⟨fun h => by omega, fun h => by omega⟩
    rw [hc]
  · exact step49 n i x0 hw hi ds (by rw [if_pos hok]; exact hr)
  · exact step49 n i x0 hw hi _ (by rw [if_neg (by rw [hok]; simp)])

def S49 : Am.Spec := { sig := sig49, pre := fun ⟨x0, _⟩ => P49 x0, res := fun ⟨x0, _⟩ => [⟨Ty.bool, g49_0 x0⟩] }
theorem con49 : Contract Tryz.prog 49 S49 := contract_of Tryz.func49 hb49 (Nat.le_of_ble_eq_true (by kernel_rfl)) (fun ⟨x0, _⟩ h hwf K q =>
  (snd49 _).1 x0 _ (top49 x0 hwf.1.1) K q)

end
end Go.Proofs.YthlhnglkechkaaaGreatDoor

/- Function 50 (spec.l17Room): its runs between cut points. Written by a program of this repo (gen). -/
set_option linter.unusedVariables false
set_option linter.unusedSimpArgs false
set_option maxRecDepth 100000
namespace Go.Proofs.YthlhnglkechkaaaGreatDoor
open Go Go.Am Go.Proofs
noncomputable section
def ext50 : Ext := [(77, S77)]
theorem call50_77 : Callable Tryz.prog 77 := ⟨Tryz.f77, Tryz.func77, by kernel_rfl, by kernel_rfl⟩
theorem ext50Ok : ExtOk Tryz.prog ext50 := ⟨⟨call50_77, con77⟩, trivial⟩

noncomputable def b50 : Code := bodyOf Tryz.f50
theorem hb50 : Tryz.f50.body = some b50 := by kernel_rfl
def sig50 : List AT := [AT.p (Ty.cons (Ty.int .i64) (Ty.cons (Ty.int .i64) (Ty.cons (Ty.int .i64) Ty.unit)))]
def tys50 : List Ty := [Ty.bool]
def kds50 : List RK := []
def oks50 : List AT := owns sig50
def P50 (x0 : Int × Int × Int × Unit) : Prop := True
def g50_0 (x0 : Int × Int × Int × Unit) : Bool := (if (g77_0 x0.1 0 200) = true then (if (g77_0 x0.2.1 0 40) = true then g77_0 x0.2.2.1 0 100000 else false) else false)
theorem p50_0 (x0 : Int × Int × Int × Unit) : runF tab ext50 false 22 [] 2000 [] oks50 kds50 tys50 Tryz.f50.results [true, true] [.code b50] (entE 0 0 sig50 (x0, ())) (entL sig50 (x0, ())) = some ([Dyn.mk Ty.bool (g77_0 x0.2.2.1 0 100000)], [], [True, g77_0 x0.1 0 200 = true, True, g77_0 x0.2.1 0 40 = true, True]) := by kernel_rfl
theorem p50_1 (x0 : Int × Int × Int × Unit) : runF tab ext50 false 22 [] 2000 [] oks50 kds50 tys50 Tryz.f50.results [true, false] [.code b50] (entE 0 0 sig50 (x0, ())) (entL sig50 (x0, ())) = some ([Dyn.mk Ty.bool false], [], [True, g77_0 x0.1 0 200 = true, True, g77_0 x0.2.1 0 40 = false]) := by kernel_rfl
theorem p50_2 (x0 : Int × Int × Int × Unit) : runF tab ext50 false 22 [] 2000 [] oks50 kds50 tys50 Tryz.f50.results [false, false] [.code b50] (entE 0 0 sig50 (x0, ())) (entL sig50 (x0, ())) = some ([Dyn.mk Ty.bool false], [], [True, g77_0 x0.1 0 200 = false, false = false]) := by kernel_rfl
theorem at50 (x0 : Int × Int × Int × Unit) (h : P50 x0) (K : Ctx) (q : Nat → Value) : AtV Tryz.prog 50 (PostR kds50 oks50 [⟨Ty.bool, g50_0 x0⟩] [] [] q K) 22 K q [] [.code b50] (entE 0 0 sig50 (x0, ())) (entL sig50 (x0, ())) := by
  unfold P50 at h
  unfold g50_0
  by_cases b0 : (g77_0 x0.1 0 200) = true
  · try simp only [if_pos b0] at h ⊢
    by_cases b1 : (g77_0 x0.2.1 0 40) = true
    · try simp only [if_pos b1] at h ⊢
      exact AtV.fin Tryz.func50 tabOk ext50Ok mixed (p50_0 x0) ⟨trivial, b0, trivial, b1, trivial, trivial⟩
    · try simp only [if_neg b1] at h ⊢
      replace b1 := Bool.eq_false_iff.2 b1
      exact AtV.fin Tryz.func50 tabOk ext50Ok mixed (p50_1 x0) ⟨trivial, b0, trivial, b1, trivial⟩
  · try simp only [if_neg b0] at h ⊢
    replace b0 := Bool.eq_false_iff.2 b0
    exact AtV.fin Tryz.func50 tabOk ext50Ok mixed (p50_2 x0) ⟨trivial, b0, rfl, trivial⟩

def S50 : Am.Spec := { sig := sig50, pre := fun ⟨x0, _⟩ => P50 x0, res := fun ⟨x0, _⟩ => [⟨Ty.bool, g50_0 x0⟩], kds := kds50 }
theorem con50 : Contract Tryz.prog 50 S50 := contract_of Tryz.func50 hb50 (Nat.le_of_ble_eq_true (by kernel_rfl)) (fun ⟨x0, _⟩ h _ K q => at50 x0 h K q)


end
end Go.Proofs.YthlhnglkechkaaaGreatDoor

/- Function 81 (spec.l21Day): its runs between cut points. Written by a program of this repo (gen). -/
set_option linter.unusedVariables false
set_option linter.unusedSimpArgs false
set_option maxRecDepth 100000
namespace Go.Proofs.YthlhnglkechkaaaGreatDoor
open Go Go.Am Go.Proofs
noncomputable section
def ext81 : Ext := [(77, S77)]
theorem call81_77 : Callable Tryz.prog 77 := ⟨Tryz.f77, Tryz.func77, by kernel_rfl, by kernel_rfl⟩
theorem ext81Ok : ExtOk Tryz.prog ext81 := ⟨⟨call81_77, con77⟩, trivial⟩

noncomputable def b81 : Code := bodyOf Tryz.f81
theorem hb81 : Tryz.f81.body = some b81 := by kernel_rfl
def sig81 : List AT := [AT.v (Ty.int .i64)]
def tys81 : List Ty := [Ty.bool]
def kds81 : List RK := []
def oks81 : List AT := owns sig81
def P81 (x0 : Int) : Prop := True
def g81_0 (x0 : Int) : Bool := g77_0 x0 0 100000
theorem p81_0 (x0 : Int) : runF tab ext81 false 5 [] 2000 [] oks81 kds81 tys81 Tryz.f81.results [] [.code b81] (entE 0 0 sig81 (x0, ())) (entL sig81 (x0, ())) = some ([Dyn.mk Ty.bool (g77_0 x0 0 100000)], [], [True]) := by kernel_rfl
theorem at81 (x0 : Int) (h : P81 x0) (K : Ctx) (q : Nat → Value) : AtV Tryz.prog 81 (PostR kds81 oks81 [⟨Ty.bool, g81_0 x0⟩] [] [] q K) 5 K q [] [.code b81] (entE 0 0 sig81 (x0, ())) (entL sig81 (x0, ())) := by
  unfold P81 at h
  unfold g81_0
  exact AtV.fin Tryz.func81 tabOk ext81Ok mixed (p81_0 x0) ⟨trivial, trivial⟩

def S81 : Am.Spec := { sig := sig81, pre := fun ⟨x0, _⟩ => P81 x0, res := fun ⟨x0, _⟩ => [⟨Ty.bool, g81_0 x0⟩], kds := kds81 }
theorem con81 : Contract Tryz.prog 81 S81 := contract_of Tryz.func81 hb81 (Nat.le_of_ble_eq_true (by kernel_rfl)) (fun ⟨x0, _⟩ h _ K q => at81 x0 h K q)


end
end Go.Proofs.YthlhnglkechkaaaGreatDoor

/- Function 82 (spec.l21Count): its runs between cut points. Written by a program of this repo (gen). -/
set_option linter.unusedVariables false
set_option linter.unusedSimpArgs false
set_option maxRecDepth 100000
namespace Go.Proofs.YthlhnglkechkaaaGreatDoor
open Go Go.Am Go.Proofs
noncomputable section
def ext82 : Ext := [(77, S77)]
theorem call82_77 : Callable Tryz.prog 77 := ⟨Tryz.f77, Tryz.func77, by kernel_rfl, by kernel_rfl⟩
theorem ext82Ok : ExtOk Tryz.prog ext82 := ⟨⟨call82_77, con77⟩, trivial⟩

noncomputable def b82 : Code := bodyOf Tryz.f82
theorem hb82 : Tryz.f82.body = some b82 := by kernel_rfl
def sig82 : List AT := [AT.v (Ty.int .i64)]
def tys82 : List Ty := [Ty.bool]
def kds82 : List RK := []
def oks82 : List AT := owns sig82
def P82 (x0 : Int) : Prop := True
def g82_0 (x0 : Int) : Bool := g77_0 x0 0 1000000
theorem p82_0 (x0 : Int) : runF tab ext82 false 5 [] 2000 [] oks82 kds82 tys82 Tryz.f82.results [] [.code b82] (entE 0 0 sig82 (x0, ())) (entL sig82 (x0, ())) = some ([Dyn.mk Ty.bool (g77_0 x0 0 1000000)], [], [True]) := by kernel_rfl
theorem at82 (x0 : Int) (h : P82 x0) (K : Ctx) (q : Nat → Value) : AtV Tryz.prog 82 (PostR kds82 oks82 [⟨Ty.bool, g82_0 x0⟩] [] [] q K) 5 K q [] [.code b82] (entE 0 0 sig82 (x0, ())) (entL sig82 (x0, ())) := by
  unfold P82 at h
  unfold g82_0
  exact AtV.fin Tryz.func82 tabOk ext82Ok mixed (p82_0 x0) ⟨trivial, trivial⟩

def S82 : Am.Spec := { sig := sig82, pre := fun ⟨x0, _⟩ => P82 x0, res := fun ⟨x0, _⟩ => [⟨Ty.bool, g82_0 x0⟩], kds := kds82 }
theorem con82 : Contract Tryz.prog 82 S82 := contract_of Tryz.func82 hb82 (Nat.le_of_ble_eq_true (by kernel_rfl)) (fun ⟨x0, _⟩ h _ K q => at82 x0 h K q)


end
end Go.Proofs.YthlhnglkechkaaaGreatDoor

/- Function 96 (spec.l21One): its runs between cut points. Written by a program of this repo (gen). -/
set_option linter.unusedVariables false
set_option linter.unusedSimpArgs false
set_option maxRecDepth 100000
namespace Go.Proofs.YthlhnglkechkaaaGreatDoor
open Go Go.Am Go.Proofs
noncomputable section
def ext96 : Ext := [(95, S95), (77, S77), (81, S81), (82, S82)]
theorem call96_95 : Callable Tryz.prog 95 := ⟨Tryz.f95, Tryz.func95, by kernel_rfl, by kernel_rfl⟩
theorem call96_77 : Callable Tryz.prog 77 := ⟨Tryz.f77, Tryz.func77, by kernel_rfl, by kernel_rfl⟩
theorem call96_81 : Callable Tryz.prog 81 := ⟨Tryz.f81, Tryz.func81, by kernel_rfl, by kernel_rfl⟩
theorem call96_82 : Callable Tryz.prog 82 := ⟨Tryz.f82, Tryz.func82, by kernel_rfl, by kernel_rfl⟩
theorem ext96Ok : ExtOk Tryz.prog ext96 := ⟨⟨call96_95, con95⟩, ⟨call96_77, con77⟩, ⟨call96_81, con81⟩, ⟨call96_82, con82⟩, trivial⟩

noncomputable def b96 : Code := bodyOf Tryz.f96
theorem hb96 : Tryz.f96.body = some b96 := by kernel_rfl
def sig96 : List AT := [AT.p (Ty.cons Ty.str (Ty.cons (Ty.int .i64) (Ty.cons (Ty.int .i64) (Ty.cons (Ty.int .i64) (Ty.cons (Ty.int .i64) Ty.unit)))))]
def tys96 : List Ty := [Ty.bool]
def kds96 : List RK := []
def oks96 : List AT := owns sig96
def P96 (x0 : ByteArray × Int × Int × Int × Int × Unit) : Prop := True
def g96_0 (x0 : ByteArray × Int × Int × Int × Int × Unit) : Bool := (if (g95_0 x0.1) = true then (if (g77_0 x0.2.1 1 100000) = true then (if (g77_0 x0.2.2.1 1 1000000) = true then (if (g81_0 x0.2.2.2.1) = true then g82_0 x0.2.2.2.2.1 else false) else false) else false) else false)
theorem p96_0 (x0 : ByteArray × Int × Int × Int × Int × Unit) : runF tab ext96 false 36 [] 2000 [] oks96 kds96 tys96 Tryz.f96.results [true, true, true, true] [.code b96] (entE 0 0 sig96 (x0, ())) (entL sig96 (x0, ())) = some ([Dyn.mk Ty.bool (g82_0 x0.2.2.2.2.1)], [], [True, g95_0 x0.1 = true, True, g77_0 x0.2.1 1 100000 = true, True, g77_0 x0.2.2.1 1 1000000 = true, True, g81_0 x0.2.2.2.1 = true, True]) := by kernel_rfl
theorem p96_1 (x0 : ByteArray × Int × Int × Int × Int × Unit) : runF tab ext96 false 36 [] 2000 [] oks96 kds96 tys96 Tryz.f96.results [true, true, true, false] [.code b96] (entE 0 0 sig96 (x0, ())) (entL sig96 (x0, ())) = some ([Dyn.mk Ty.bool false], [], [True, g95_0 x0.1 = true, True, g77_0 x0.2.1 1 100000 = true, True, g77_0 x0.2.2.1 1 1000000 = true, True, g81_0 x0.2.2.2.1 = false]) := by kernel_rfl
theorem p96_2 (x0 : ByteArray × Int × Int × Int × Int × Unit) : runF tab ext96 false 36 [] 2000 [] oks96 kds96 tys96 Tryz.f96.results [true, true, false, false] [.code b96] (entE 0 0 sig96 (x0, ())) (entL sig96 (x0, ())) = some ([Dyn.mk Ty.bool false], [], [True, g95_0 x0.1 = true, True, g77_0 x0.2.1 1 100000 = true, True, g77_0 x0.2.2.1 1 1000000 = false, false = false]) := by kernel_rfl
theorem p96_3 (x0 : ByteArray × Int × Int × Int × Int × Unit) : runF tab ext96 false 36 [] 2000 [] oks96 kds96 tys96 Tryz.f96.results [true, false, false, false] [.code b96] (entE 0 0 sig96 (x0, ())) (entL sig96 (x0, ())) = some ([Dyn.mk Ty.bool false], [], [True, g95_0 x0.1 = true, True, g77_0 x0.2.1 1 100000 = false, false = false, false = false]) := by kernel_rfl
theorem p96_4 (x0 : ByteArray × Int × Int × Int × Int × Unit) : runF tab ext96 false 36 [] 2000 [] oks96 kds96 tys96 Tryz.f96.results [false, false, false, false] [.code b96] (entE 0 0 sig96 (x0, ())) (entL sig96 (x0, ())) = some ([Dyn.mk Ty.bool false], [], [True, g95_0 x0.1 = false, false = false, false = false, false = false]) := by kernel_rfl
theorem at96 (x0 : ByteArray × Int × Int × Int × Int × Unit) (h : P96 x0) (K : Ctx) (q : Nat → Value) : AtV Tryz.prog 96 (PostR kds96 oks96 [⟨Ty.bool, g96_0 x0⟩] [] [] q K) 36 K q [] [.code b96] (entE 0 0 sig96 (x0, ())) (entL sig96 (x0, ())) := by
  unfold P96 at h
  unfold g96_0
  by_cases b0 : (g95_0 x0.1) = true
  · try simp only [if_pos b0] at h ⊢
    by_cases b1 : (g77_0 x0.2.1 1 100000) = true
    · try simp only [if_pos b1] at h ⊢
      by_cases b2 : (g77_0 x0.2.2.1 1 1000000) = true
      · try simp only [if_pos b2] at h ⊢
        by_cases b3 : (g81_0 x0.2.2.2.1) = true
        · try simp only [if_pos b3] at h ⊢
          exact AtV.fin Tryz.func96 tabOk ext96Ok mixed (p96_0 x0) ⟨trivial, b0, trivial, b1, trivial, b2, trivial, b3, trivial, trivial⟩
        · try simp only [if_neg b3] at h ⊢
          replace b3 := Bool.eq_false_iff.2 b3
          exact AtV.fin Tryz.func96 tabOk ext96Ok mixed (p96_1 x0) ⟨trivial, b0, trivial, b1, trivial, b2, trivial, b3, trivial⟩
      · try simp only [if_neg b2] at h ⊢
        replace b2 := Bool.eq_false_iff.2 b2
        exact AtV.fin Tryz.func96 tabOk ext96Ok mixed (p96_2 x0) ⟨trivial, b0, trivial, b1, trivial, b2, rfl, trivial⟩
    · try simp only [if_neg b1] at h ⊢
      replace b1 := Bool.eq_false_iff.2 b1
      exact AtV.fin Tryz.func96 tabOk ext96Ok mixed (p96_3 x0) ⟨trivial, b0, trivial, b1, rfl, rfl, trivial⟩
  · try simp only [if_neg b0] at h ⊢
    replace b0 := Bool.eq_false_iff.2 b0
    exact AtV.fin Tryz.func96 tabOk ext96Ok mixed (p96_4 x0) ⟨trivial, b0, rfl, rfl, rfl, trivial⟩

def S96 : Am.Spec := { sig := sig96, pre := fun ⟨x0, _⟩ => P96 x0, res := fun ⟨x0, _⟩ => [⟨Ty.bool, g96_0 x0⟩], kds := kds96 }
theorem con96 : Contract Tryz.prog 96 S96 := contract_of Tryz.func96 hb96 (Nat.le_of_ble_eq_true (by kernel_rfl)) (fun ⟨x0, _⟩ h _ K q => at96 x0 h K q)


end
end Go.Proofs.YthlhnglkechkaaaGreatDoor

/- Function 80 (spec.l21Ok): its runs between cut points. Written by a program of this repo (gen). -/
set_option linter.unusedVariables false
set_option linter.unusedSimpArgs false
set_option maxRecDepth 100000
namespace Go.Proofs.YthlhnglkechkaaaGreatDoor
open Go Go.Am Go.Proofs
noncomputable section
def ext80 : Ext := [(96, S96)]
theorem call80_96 : Callable Tryz.prog 96 := ⟨Tryz.f96, Tryz.func96, by kernel_rfl, by kernel_rfl⟩
theorem ext80Ok : ExtOk Tryz.prog ext80 := ⟨⟨call80_96, con96⟩, trivial⟩

noncomputable def b80 : Code := bodyOf Tryz.f80
theorem hb80 : Tryz.f80.body = some b80 := by kernel_rfl
def sig80 : List AT := [AT.v (Ty.sl (Ty.cons Ty.str (Ty.cons (Ty.int .i64) (Ty.cons (Ty.int .i64) (Ty.cons (Ty.int .i64) (Ty.cons (Ty.int .i64) Ty.unit))))))]
def tys80 : List Ty := [Ty.bool]
def kds80 : List RK := []
def oks80 : List AT := owns sig80
def E80_2 (v3 : Int) (x0 : List TyB0) : Env := [(0, PV.a (Atom.sl (Ty.cons Ty.str (Ty.cons (Ty.int .i64) (Ty.cons (Ty.int .i64) (Ty.cons (Ty.int .i64) (Ty.cons (Ty.int .i64) Ty.unit))))) x0)), (3, PV.a (Atom.val (Value.int .i64 v3)))]
def L80_2 (v3 : Int) (x0 : List TyB0) : Heap := []
mutual
def R80 : Nat → List TyB0 → List Dyn → Prop
  | 0, _, _ => False
  | n + 1, x0, ds => (R80_2 n (0) (x0) ds)
def R80_2 : Nat → Int → List TyB0 → List Dyn → Prop
  | 0, _, _, _ => False
  | n + 1, v3, x0, ds => (if (decide (v3 < (↑(List.length x0) : Int))) = true then ((0 ≤ v3) ∧ (v3 < (↑(List.length x0) : Int)) ∧ (if (!g96_0 (List.getD x0 (Int.toNat v3) (ByteArray.empty, 0, 0, 0, 0, ()))) = true then (ds = [Dyn.mk Ty.bool false]) else (if (decide (v3 > 0)) = true then ((InR .i64 (v3 - 1)) ∧ ((0 ≤ v3 - 1) ∧ (v3 - 1 < (↑(List.length x0) : Int)) ∧ ((0 ≤ v3) ∧ (v3 < (↑(List.length x0) : Int)) ∧ (if (!Op.bytesLess (ByteArray.toList (List.getD x0 (Int.toNat (v3 - 1)) (ByteArray.empty, 0, 0, 0, 0, ())).1) (ByteArray.toList (List.getD x0 (Int.toNat v3) (ByteArray.empty, 0, 0, 0, 0, ())).1)) = true then (ds = [Dyn.mk Ty.bool false]) else ((InR .i64 (v3 + 1)) ∧ (R80_2 n (v3 + 1) (x0) ds)))))) else ((InR .i64 (v3 + 1)) ∧ (R80_2 n (v3 + 1) (x0) ds))))) else (ds = [Dyn.mk Ty.bool (decide ((↑(List.length x0) : Int) ≤ 16))]))
end
theorem p80_0 (x0 : List TyB0) : Am.runN tab ext80 false 36 [] 2000 [] [] [0, 3] [] [] [.code b80] (entE 0 0 sig80 (x0, ())) (entL sig80 (x0, ())) = some (cutAt b80 2, E80_2 (0) (x0), L80_2 (0) (x0), []) := by kernel_rfl
theorem p80_1 (v3 : Int) (x0 : List TyB0) : runF tab ext80 false 36 [] 2000 [] oks80 kds80 tys80 Tryz.f80.results [true, true, true] (cutAt b80 2) (E80_2 v3 x0) (L80_2 v3 x0) = some ([Dyn.mk Ty.bool false], [], [decide (v3 < (↑(List.length x0) : Int)) = true, 0 ≤ v3, v3 < (↑(List.length x0) : Int), True, (!g96_0 (List.getD x0 (Int.toNat v3) (ByteArray.empty, 0, 0, 0, 0, ()))) = true, true = true]) := by kernel_rfl
theorem p80_2 (v3 : Int) (x0 : List TyB0) : runF tab ext80 false 36 [] 2000 [] oks80 kds80 tys80 Tryz.f80.results [true, false, true, true] (cutAt b80 2) (E80_2 v3 x0) (L80_2 v3 x0) = some ([Dyn.mk Ty.bool false], [], [decide (v3 < (↑(List.length x0) : Int)) = true, 0 ≤ v3, v3 < (↑(List.length x0) : Int), True, (!g96_0 (List.getD x0 (Int.toNat v3) (ByteArray.empty, 0, 0, 0, 0, ()))) = false, decide (v3 > 0) = true, InR .i64 (v3 - 1), 0 ≤ v3 - 1, v3 - 1 < (↑(List.length x0) : Int), 0 ≤ v3, v3 < (↑(List.length x0) : Int), (!Op.bytesLess (ByteArray.toList (List.getD x0 (Int.toNat (v3 - 1)) (ByteArray.empty, 0, 0, 0, 0, ())).1) (ByteArray.toList (List.getD x0 (Int.toNat v3) (ByteArray.empty, 0, 0, 0, 0, ())).1)) = true]) := by kernel_rfl
theorem p80_3 (v3 : Int) (x0 : List TyB0) : Am.runN tab ext80 false 36 [] 2000 [] [] [0, 3] [] [true, false, true, false] (cutAt b80 2) (E80_2 v3 x0) (L80_2 v3 x0) = some (cutAt b80 2, E80_2 (v3 + 1) (x0), L80_2 (v3 + 1) (x0), [decide (v3 < (↑(List.length x0) : Int)) = true, 0 ≤ v3, v3 < (↑(List.length x0) : Int), True, (!g96_0 (List.getD x0 (Int.toNat v3) (ByteArray.empty, 0, 0, 0, 0, ()))) = false, decide (v3 > 0) = true, InR .i64 (v3 - 1), 0 ≤ v3 - 1, v3 - 1 < (↑(List.length x0) : Int), 0 ≤ v3, v3 < (↑(List.length x0) : Int), (!Op.bytesLess (ByteArray.toList (List.getD x0 (Int.toNat (v3 - 1)) (ByteArray.empty, 0, 0, 0, 0, ())).1) (ByteArray.toList (List.getD x0 (Int.toNat v3) (ByteArray.empty, 0, 0, 0, 0, ())).1)) = false, InR .i64 (v3 + 1)]) := by kernel_rfl
theorem p80_4 (v3 : Int) (x0 : List TyB0) : Am.runN tab ext80 false 36 [] 2000 [] [] [0, 3] [] [true, false, false, false] (cutAt b80 2) (E80_2 v3 x0) (L80_2 v3 x0) = some (cutAt b80 2, E80_2 (v3 + 1) (x0), L80_2 (v3 + 1) (x0), [decide (v3 < (↑(List.length x0) : Int)) = true, 0 ≤ v3, v3 < (↑(List.length x0) : Int), True, (!g96_0 (List.getD x0 (Int.toNat v3) (ByteArray.empty, 0, 0, 0, 0, ()))) = false, decide (v3 > 0) = false, false = false, InR .i64 (v3 + 1)]) := by kernel_rfl
theorem p80_5 (v3 : Int) (x0 : List TyB0) : runF tab ext80 false 36 [] 2000 [] oks80 kds80 tys80 Tryz.f80.results [false] (cutAt b80 2) (E80_2 v3 x0) (L80_2 v3 x0) = some ([Dyn.mk Ty.bool (decide ((↑(List.length x0) : Int) ≤ 16))], [], [decide (v3 < (↑(List.length x0) : Int)) = false]) := by kernel_rfl
theorem snd80 : ∀ n, (∀ (x0 : List TyB0) ds, R80 n x0 ds → ∀ K q, AtV Tryz.prog 80 (PostR kds80 oks80 ds [] [] q K) 36 K q [] [.code b80] (entE 0 0 sig80 (x0, ())) (entL sig80 (x0, ()))) ∧ (∀ (v3 : Int) (x0 : List TyB0) ds, R80_2 n v3 x0 ds → ∀ K q, AtV Tryz.prog 80 (PostR kds80 oks80 ds [] [] q K) 36 K q [] (cutAt b80 2) (E80_2 v3 x0) (L80_2 v3 x0)) := by
  intro n
  induction n with
  | zero => exact ⟨fun _ _ h => by simp only [R80] at h, fun _ _ _ h => by simp only [R80_2] at h⟩
  | succ n ih =>
  obtain ⟨ih, ih2⟩ := ih
  refine ⟨?_, ?_⟩
  · intro x0 ds h K q
    rw [R80] at h
    exact AtV.runN tabOk ext80Ok mixed (p80_0 x0) trivial (ih2 _ _ _ h K q)

  · intro v3 x0 ds h K q
    rw [R80_2] at h
    by_cases b0 : (decide (v3 < (↑(List.length x0) : Int))) = true
    · rw [if_pos b0] at h
      obtain ⟨s0, s1, h⟩ := h
      by_cases b1 : (!g96_0 (List.getD x0 (Int.toNat v3) (ByteArray.empty, 0, 0, 0, 0, ()))) = true
      · rw [if_pos b1] at h
        subst h
        exact AtV.fin Tryz.func80 tabOk ext80Ok mixed (p80_1 v3 x0) ⟨b0, s0, s1, trivial, b1, rfl, trivial⟩
      · rw [if_neg b1] at h
        replace b1 := Bool.eq_false_iff.2 b1
        by_cases b2 : (decide (v3 > 0)) = true
        · rw [if_pos b2] at h
          obtain ⟨s2, h⟩ := h
          obtain ⟨s3, s4, h⟩ := h
          obtain ⟨s5, s6, h⟩ := h
          by_cases b3 : (!Op.bytesLess (ByteArray.toList (List.getD x0 (Int.toNat (v3 - 1)) (ByteArray.empty, 0, 0, 0, 0, ())).1) (ByteArray.toList (List.getD x0 (Int.toNat v3) (ByteArray.empty, 0, 0, 0, 0, ())).1)) = true
          · rw [if_pos b3] at h
            subst h
            exact AtV.fin Tryz.func80 tabOk ext80Ok mixed (p80_2 v3 x0) ⟨b0, s0, s1, trivial, b1, b2, s2, s3, s4, s5, s6, b3, trivial⟩
          · rw [if_neg b3] at h
            replace b3 := Bool.eq_false_iff.2 b3
            obtain ⟨s7, h⟩ := h
            exact AtV.runN tabOk ext80Ok mixed (p80_3 v3 x0) ⟨b0, s0, s1, trivial, b1, b2, s2, s3, s4, s5, s6, b3, s7, trivial⟩ (ih2 _ _ _ h K q)
        · rw [if_neg b2] at h
          replace b2 := Bool.eq_false_iff.2 b2
          obtain ⟨s2, h⟩ := h
          exact AtV.runN tabOk ext80Ok mixed (p80_4 v3 x0) ⟨b0, s0, s1, trivial, b1, b2, rfl, s2, trivial⟩ (ih2 _ _ _ h K q)
    · rw [if_neg b0] at h
      replace b0 := Bool.eq_false_iff.2 b0
      subst h
      exact AtV.fin Tryz.func80 tabOk ext80Ok mixed (p80_5 v3 x0) ⟨b0, trivial⟩



def ok80 (x0 : List TyB0) (i : Nat) (x : TyB0) : Bool :=
  g96_0 x && (i == 0 || Op.bytesLess (ByteArray.toList (x0.getD (i - 1) (ByteArray.empty, (0 : Int), (0 : Int), (0 : Int), (0 : Int), ())).1) (ByteArray.toList x.1))
def g80_0 (x0 : List TyB0) : Bool := allI (ok80 x0) 0 x0 && decide (x0.length ≤ 16)
def P80 (x0 : List TyB0) : Prop := True

theorem step80 (n i : Nat) (x0 : List TyB0) (hm : x0.length ≤ maxLen) (hi : i < x0.length) (ds : List Dyn) :
    (if ok80 x0 i (x0.getD i (ByteArray.empty, (0 : Int), (0 : Int), (0 : Int), (0 : Int), ())) = true then R80_2 n ((i : Int) + 1) x0 ds else ds = [⟨.bool, false⟩]) → R80_2 (n + 1) (i : Int) x0 ds := by
  intro h
  have hu := inR_up hm hi
  rw [R80_2, if_pos (by simp; omega)]
  refine ⟨by omega, by omega, ?_⟩
  simp only [Int.toNat_natCast]
  unfold ok80 at h
  cases h1 : g96_0 (x0.getD i (ByteArray.empty, (0 : Int), (0 : Int), (0 : Int), (0 : Int), ())) with
  | false =>
    rw [h1] at h
    rw [if_pos (by rfl)]
    simpa using h
  | true =>
    rw [h1] at h
    rw [if_neg (by simp)]
    by_cases h0 : (i : Int) > 0
    · rw [if_pos (by simpa using h0)]
      have hi0 : (i == 0) = false := by simp; omega
      have e : ((i : Int) - 1).toNat = i - 1 := by omega
      refine ⟨by rw [i64_iff]; have : maxLen ≤ 9223372036854775807 := by decide
                 omega, by omega, by omega, by omega, by omega, ?_⟩
      rw [e]
      by_cases h2 : Op.bytesLess (ByteArray.toList (x0.getD (i - 1) (ByteArray.empty, (0 : Int), (0 : Int), (0 : Int), (0 : Int), ())).1) (ByteArray.toList (x0.getD i (ByteArray.empty, (0 : Int), (0 : Int), (0 : Int), (0 : Int), ())).1) = true
      · rw [h2, hi0] at h
        rw [if_neg (by rw [h2]; simp)]
        exact ⟨hu, by simpa using h⟩
      · have h2 := Bool.eq_false_iff.2 h2
        rw [h2, hi0] at h
        rw [if_pos (by rw [h2]; rfl)]
        simpa using h
    · rw [if_neg (by simpa using h0)]
      have hi0 : (i == 0) = true := by simp; omega
      rw [hi0] at h
      exact ⟨hu, by simpa using h⟩

theorem top80 (x0 : List TyB0) (hw : x0.length ≤ maxLen) : R80 (x0.length + 1 + 1) x0 [⟨.bool, g80_0 x0⟩] := by
  rw [R80]
  have key := loop_testI x0 (ByteArray.empty, (0 : Int), (0 : Int), (0 : Int), (0 : Int), ()) (ok80 x0) [(⟨.bool, false⟩ : Dyn)] [⟨.bool, decide (x0.length ≤ 16)⟩] (fun n i ds => R80_2 n i x0 ds) (fun n => ?_) (fun n i hi hok ds hr => ?_) (fun n i hi hok => ?_)
  · unfold g80_0
    cases h : allI (ok80 x0) 0 x0 with
    | true => rw [if_pos h] at key; simpa using key
    | false => rw [if_neg (by rw [h]; simp)] at key; simpa using key
  · rw [R80_2, if_neg (by simp)]
    have hc : decide ((x0.length : Int) ≤ 16) = decide (x0.length ≤ 16) := by
      congr 1; exact propext ⟨fun h => by omega, fun h => by omega⟩
    rw [hc]
  · exact step80 n i x0 hw hi ds (by rw [if_pos hok]; exact hr)
  · exact step80 n i x0 hw hi _ (by rw [if_neg (by rw [hok]; simp)])

def S80 : Am.Spec := { sig := sig80, pre := fun ⟨x0, _⟩ => P80 x0, res := fun ⟨x0, _⟩ => [⟨Ty.bool, g80_0 x0⟩] }
theorem con80 : Contract Tryz.prog 80 S80 := contract_of Tryz.func80 hb80 (Nat.le_of_ble_eq_true (by kernel_rfl)) (fun ⟨x0, _⟩ h hwf K q =>
  (snd80 _).1 x0 _ (top80 x0 hwf.1.1) K q)

end
end Go.Proofs.YthlhnglkechkaaaGreatDoor

/- Function 83 (spec.l21Since): its runs between cut points. Written by a program of this repo (gen). -/
set_option linter.unusedVariables false
set_option linter.unusedSimpArgs false
set_option maxRecDepth 100000
namespace Go.Proofs.YthlhnglkechkaaaGreatDoor
open Go Go.Am Go.Proofs
noncomputable section
def ext83 : Ext := []
theorem ext83Ok : ExtOk Tryz.prog ext83 := trivial

noncomputable def b83 : Code := bodyOf Tryz.f83
theorem hb83 : Tryz.f83.body = some b83 := by kernel_rfl
def sig83 : List AT := [AT.p (Ty.cons Ty.str (Ty.cons (Ty.int .i64) (Ty.cons (Ty.int .i64) (Ty.cons (Ty.int .i64) (Ty.cons (Ty.int .i64) Ty.unit))))), AT.v (Ty.int .i64), AT.v (Ty.int .i64)]
def tys83 : List Ty := [Ty.bool]
def kds83 : List RK := []
def oks83 : List AT := owns sig83
def P83 (x0 : ByteArray × Int × Int × Int × Int × Unit) (x1 : Int) (x2 : Int) : Prop := True
def g83_0 (x0 : ByteArray × Int × Int × Int × Int × Unit) (x1 : Int) (x2 : Int) : Bool := (if (decide (x0.2.2.2.1 ≤ x1)) = true then decide (x0.2.2.2.2.1 ≤ x2) else false)
theorem p83_0 (x0 : ByteArray × Int × Int × Int × Int × Unit) (x1 : Int) (x2 : Int) : runF tab ext83 false 21 [] 2000 [] oks83 kds83 tys83 Tryz.f83.results [true] [.code b83] (entE 0 0 sig83 (x0, x1, x2, ())) (entL sig83 (x0, x1, x2, ())) = some ([Dyn.mk Ty.bool (decide (x0.2.2.2.2.1 ≤ x2))], [], [decide (x0.2.2.2.1 ≤ x1) = true]) := by kernel_rfl
theorem p83_1 (x0 : ByteArray × Int × Int × Int × Int × Unit) (x1 : Int) (x2 : Int) : runF tab ext83 false 21 [] 2000 [] oks83 kds83 tys83 Tryz.f83.results [false] [.code b83] (entE 0 0 sig83 (x0, x1, x2, ())) (entL sig83 (x0, x1, x2, ())) = some ([Dyn.mk Ty.bool false], [], [decide (x0.2.2.2.1 ≤ x1) = false]) := by kernel_rfl
theorem at83 (x0 : ByteArray × Int × Int × Int × Int × Unit) (x1 : Int) (x2 : Int) (h : P83 x0 x1 x2) (K : Ctx) (q : Nat → Value) : AtV Tryz.prog 83 (PostR kds83 oks83 [⟨Ty.bool, g83_0 x0 x1 x2⟩] [] [] q K) 21 K q [] [.code b83] (entE 0 0 sig83 (x0, x1, x2, ())) (entL sig83 (x0, x1, x2, ())) := by
  unfold P83 at h
  unfold g83_0
  by_cases b0 : (decide (x0.2.2.2.1 ≤ x1)) = true
  · try simp only [if_pos b0] at h ⊢
    exact AtV.fin Tryz.func83 tabOk ext83Ok mixed (p83_0 x0 x1 x2) ⟨b0, trivial⟩
  · try simp only [if_neg b0] at h ⊢
    replace b0 := Bool.eq_false_iff.2 b0
    exact AtV.fin Tryz.func83 tabOk ext83Ok mixed (p83_1 x0 x1 x2) ⟨b0, trivial⟩

def S83 : Am.Spec := { sig := sig83, pre := fun ⟨x0, x1, x2, _⟩ => P83 x0 x1 x2, res := fun ⟨x0, x1, x2, _⟩ => [⟨Ty.bool, g83_0 x0 x1 x2⟩], kds := kds83 }
theorem con83 : Contract Tryz.prog 83 S83 := contract_of Tryz.func83 hb83 (Nat.le_of_ble_eq_true (by kernel_rfl)) (fun ⟨x0, x1, x2, _⟩ h _ K q => at83 x0 x1 x2 h K q)


end
end Go.Proofs.YthlhnglkechkaaaGreatDoor

/- Function 51 (spec.l21Ask): its runs between cut points. Written by a program of this repo (gen). -/
set_option linter.unusedVariables false
set_option linter.unusedSimpArgs false
set_option maxRecDepth 100000
namespace Go.Proofs.YthlhnglkechkaaaGreatDoor
open Go Go.Am Go.Proofs
noncomputable section
def ext51 : Ext := [(80, S80), (81, S81), (82, S82), (83, S83)]
theorem call51_80 : Callable Tryz.prog 80 := ⟨Tryz.f80, Tryz.func80, by kernel_rfl, by kernel_rfl⟩
theorem call51_81 : Callable Tryz.prog 81 := ⟨Tryz.f81, Tryz.func81, by kernel_rfl, by kernel_rfl⟩
theorem call51_82 : Callable Tryz.prog 82 := ⟨Tryz.f82, Tryz.func82, by kernel_rfl, by kernel_rfl⟩
theorem call51_83 : Callable Tryz.prog 83 := ⟨Tryz.f83, Tryz.func83, by kernel_rfl, by kernel_rfl⟩
theorem ext51Ok : ExtOk Tryz.prog ext51 := ⟨⟨call51_80, con80⟩, ⟨call51_81, con81⟩, ⟨call51_82, con82⟩, ⟨call51_83, con83⟩, trivial⟩

noncomputable def b51 : Code := bodyOf Tryz.f51
theorem hb51 : Tryz.f51.body = some b51 := by kernel_rfl
def sig51 : List AT := [AT.v (Ty.sl (Ty.cons Ty.str (Ty.cons (Ty.int .i64) (Ty.cons (Ty.int .i64) (Ty.cons (Ty.int .i64) (Ty.cons (Ty.int .i64) Ty.unit)))))), AT.v (Ty.int .i64), AT.v (Ty.int .i64)]
def tys51 : List Ty := [Ty.int .i64]
def kds51 : List RK := []
def oks51 : List AT := owns sig51
def E51_6 (v7 : Int) (x0 : List TyB0) (x1 : Int) (x2 : Int) : Env := [(0, PV.a (Atom.sl (Ty.cons Ty.str (Ty.cons (Ty.int .i64) (Ty.cons (Ty.int .i64) (Ty.cons (Ty.int .i64) (Ty.cons (Ty.int .i64) Ty.unit))))) x0)), (1, PV.a (Atom.val (Value.int .i64 x1))), (2, PV.a (Atom.val (Value.int .i64 x2))), (7, PV.a (Atom.val (Value.int .i64 v7)))]
def L51_6 (v7 : Int) (x0 : List TyB0) (x1 : Int) (x2 : Int) : Heap := []
mutual
def R51 : Nat → List TyB0 → Int → Int → List Dyn → Prop
  | 0, _, _, _, _ => False
  | n + 1, x0, x1, x2, ds => (if (!g80_0 x0) = true then (ds = [Dyn.mk (Ty.int .i64) 1]) else (if (!g81_0 x1) = true then (ds = [Dyn.mk (Ty.int .i64) 2]) else (if (!g82_0 x2) = true then (ds = [Dyn.mk (Ty.int .i64) 2]) else (R51_6 n (0) (x0) (x1) (x2) ds))))
def R51_6 : Nat → Int → List TyB0 → Int → Int → List Dyn → Prop
  | 0, _, _, _, _, _ => False
  | n + 1, v7, x0, x1, x2, ds => (if (decide (v7 < (↑(List.length x0) : Int))) = true then ((0 ≤ v7) ∧ (v7 < (↑(List.length x0) : Int)) ∧ (if (!g83_0 (List.getD x0 (Int.toNat v7) (ByteArray.empty, 0, 0, 0, 0, ())) x1 x2) = true then (ds = [Dyn.mk (Ty.int .i64) 6]) else ((InR .i64 (v7 + 1)) ∧ (R51_6 n (v7 + 1) (x0) (x1) (x2) ds)))) else (ds = [Dyn.mk (Ty.int .i64) 0]))
end
theorem p51_0 (x0 : List TyB0) (x1 : Int) (x2 : Int) : runF tab ext51 false 32 [] 2000 [] oks51 kds51 tys51 Tryz.f51.results [true] [.code b51] (entE 0 0 sig51 (x0, x1, x2, ())) (entL sig51 (x0, x1, x2, ())) = some ([Dyn.mk (Ty.int .i64) 1], [], [True, (!g80_0 x0) = true]) := by kernel_rfl
theorem p51_1 (x0 : List TyB0) (x1 : Int) (x2 : Int) : runF tab ext51 false 32 [] 2000 [] oks51 kds51 tys51 Tryz.f51.results [false, true, true] [.code b51] (entE 0 0 sig51 (x0, x1, x2, ())) (entL sig51 (x0, x1, x2, ())) = some ([Dyn.mk (Ty.int .i64) 2], [], [True, (!g80_0 x0) = false, True, (!g81_0 x1) = true, true = true]) := by kernel_rfl
theorem p51_2 (x0 : List TyB0) (x1 : Int) (x2 : Int) : runF tab ext51 false 32 [] 2000 [] oks51 kds51 tys51 Tryz.f51.results [false, false, true] [.code b51] (entE 0 0 sig51 (x0, x1, x2, ())) (entL sig51 (x0, x1, x2, ())) = some ([Dyn.mk (Ty.int .i64) 2], [], [True, (!g80_0 x0) = false, True, (!g81_0 x1) = false, True, (!g82_0 x2) = true]) := by kernel_rfl
theorem p51_3 (x0 : List TyB0) (x1 : Int) (x2 : Int) : Am.runN tab ext51 false 32 [] 2000 [] [] [0, 1, 2, 7] [] [false, false, false] [.code b51] (entE 0 0 sig51 (x0, x1, x2, ())) (entL sig51 (x0, x1, x2, ())) = some (cutAt b51 6, E51_6 (0) (x0) (x1) (x2), L51_6 (0) (x0) (x1) (x2), [True, (!g80_0 x0) = false, True, (!g81_0 x1) = false, True, (!g82_0 x2) = false]) := by kernel_rfl
theorem p51_4 (v7 : Int) (x0 : List TyB0) (x1 : Int) (x2 : Int) : runF tab ext51 false 32 [] 2000 [] oks51 kds51 tys51 Tryz.f51.results [true, true] (cutAt b51 6) (E51_6 v7 x0 x1 x2) (L51_6 v7 x0 x1 x2) = some ([Dyn.mk (Ty.int .i64) 6], [], [decide (v7 < (↑(List.length x0) : Int)) = true, 0 ≤ v7, v7 < (↑(List.length x0) : Int), True, (!g83_0 (List.getD x0 (Int.toNat v7) (ByteArray.empty, 0, 0, 0, 0, ())) x1 x2) = true]) := by kernel_rfl
theorem p51_5 (v7 : Int) (x0 : List TyB0) (x1 : Int) (x2 : Int) : Am.runN tab ext51 false 32 [] 2000 [] [] [0, 1, 2, 7] [] [true, false] (cutAt b51 6) (E51_6 v7 x0 x1 x2) (L51_6 v7 x0 x1 x2) = some (cutAt b51 6, E51_6 (v7 + 1) (x0) (x1) (x2), L51_6 (v7 + 1) (x0) (x1) (x2), [decide (v7 < (↑(List.length x0) : Int)) = true, 0 ≤ v7, v7 < (↑(List.length x0) : Int), True, (!g83_0 (List.getD x0 (Int.toNat v7) (ByteArray.empty, 0, 0, 0, 0, ())) x1 x2) = false, InR .i64 (v7 + 1)]) := by kernel_rfl
theorem p51_6 (v7 : Int) (x0 : List TyB0) (x1 : Int) (x2 : Int) : runF tab ext51 false 32 [] 2000 [] oks51 kds51 tys51 Tryz.f51.results [false] (cutAt b51 6) (E51_6 v7 x0 x1 x2) (L51_6 v7 x0 x1 x2) = some ([Dyn.mk (Ty.int .i64) 0], [], [decide (v7 < (↑(List.length x0) : Int)) = false]) := by kernel_rfl
theorem snd51 : ∀ n, (∀ (x0 : List TyB0) (x1 : Int) (x2 : Int) ds, R51 n x0 x1 x2 ds → ∀ K q, AtV Tryz.prog 51 (PostR kds51 oks51 ds [] [] q K) 32 K q [] [.code b51] (entE 0 0 sig51 (x0, x1, x2, ())) (entL sig51 (x0, x1, x2, ()))) ∧ (∀ (v7 : Int) (x0 : List TyB0) (x1 : Int) (x2 : Int) ds, R51_6 n v7 x0 x1 x2 ds → ∀ K q, AtV Tryz.prog 51 (PostR kds51 oks51 ds [] [] q K) 32 K q [] (cutAt b51 6) (E51_6 v7 x0 x1 x2) (L51_6 v7 x0 x1 x2)) := by
  intro n
  induction n with
  | zero => exact ⟨fun _ _ _ _ h => by simp only [R51] at h, fun _ _ _ _ _ h => by simp only [R51_6] at h⟩
  | succ n ih =>
  obtain ⟨ih, ih6⟩ := ih
  refine ⟨?_, ?_⟩
  · intro x0 x1 x2 ds h K q
    rw [R51] at h
    by_cases b0 : (!g80_0 x0) = true
    · rw [if_pos b0] at h
      subst h
      exact AtV.fin Tryz.func51 tabOk ext51Ok mixed (p51_0 x0 x1 x2) ⟨trivial, b0, trivial⟩
    · rw [if_neg b0] at h
      replace b0 := Bool.eq_false_iff.2 b0
      by_cases b1 : (!g81_0 x1) = true
      · rw [if_pos b1] at h
        subst h
        exact AtV.fin Tryz.func51 tabOk ext51Ok mixed (p51_1 x0 x1 x2) ⟨trivial, b0, trivial, b1, rfl, trivial⟩
      · rw [if_neg b1] at h
        replace b1 := Bool.eq_false_iff.2 b1
        by_cases b2 : (!g82_0 x2) = true
        · rw [if_pos b2] at h
          subst h
          exact AtV.fin Tryz.func51 tabOk ext51Ok mixed (p51_2 x0 x1 x2) ⟨trivial, b0, trivial, b1, trivial, b2, trivial⟩
        · rw [if_neg b2] at h
          replace b2 := Bool.eq_false_iff.2 b2
          exact AtV.runN tabOk ext51Ok mixed (p51_3 x0 x1 x2) ⟨trivial, b0, trivial, b1, trivial, b2, trivial⟩ (ih6 _ _ _ _ _ h K q)

  · intro v7 x0 x1 x2 ds h K q
    rw [R51_6] at h
    by_cases b0 : (decide (v7 < (↑(List.length x0) : Int))) = true
    · rw [if_pos b0] at h
      obtain ⟨s0, s1, h⟩ := h
      by_cases b1 : (!g83_0 (List.getD x0 (Int.toNat v7) (ByteArray.empty, 0, 0, 0, 0, ())) x1 x2) = true
      · rw [if_pos b1] at h
        subst h
        exact AtV.fin Tryz.func51 tabOk ext51Ok mixed (p51_4 v7 x0 x1 x2) ⟨b0, s0, s1, trivial, b1, trivial⟩
      · rw [if_neg b1] at h
        replace b1 := Bool.eq_false_iff.2 b1
        obtain ⟨s2, h⟩ := h
        exact AtV.runN tabOk ext51Ok mixed (p51_5 v7 x0 x1 x2) ⟨b0, s0, s1, trivial, b1, s2, trivial⟩ (ih6 _ _ _ _ _ h K q)
    · rw [if_neg b0] at h
      replace b0 := Bool.eq_false_iff.2 b0
      subst h
      exact AtV.fin Tryz.func51 tabOk ext51Ok mixed (p51_6 v7 x0 x1 x2) ⟨b0, trivial⟩



def q51 (x1 x2 : Int) (x : TyB0) : Bool := g83_0 x x1 x2
def g51_0 (x0 : List TyB0) (x1 x2 : Int) : Int := if g80_0 x0 = true then (if g81_0 x1 = true then (if g82_0 x2 = true then (if x0.all (q51 x1 x2) = true then 0 else 6) else 2) else 2) else 1
def P51 (x0 : List TyB0) (x1 x2 : Int) : Prop := True

theorem top51 (x0 : List TyB0) (x1 x2 : Int) (hm : x0.length ≤ maxLen) : R51 (x0.length + 1 + 1) x0 x1 x2 [⟨.int .i64, g51_0 x0 x1 x2⟩] := by
  rw [R51]
  unfold g51_0
  cases h0 : g80_0 x0 with
  | false => rw [if_pos (show (!false) = true from rfl), if_neg (by simp)]
  | true =>
  cases h1 : g81_0 x1 with
  | false => rw [if_neg (show ¬ (!true) = true by decide), if_pos (show (!false) = true from rfl), if_pos rfl, if_neg (by simp)]
  | true =>
  cases h2 : g82_0 x2 with
  | false => rw [if_neg (show ¬ (!true) = true by decide), if_neg (show ¬ (!true) = true by decide), if_pos (show (!false) = true from rfl), if_pos rfl, if_pos rfl, if_neg (by simp)]
  | true =>
  rw [if_neg (show ¬ (!true) = true by decide), if_neg (show ¬ (!true) = true by decide), if_neg (show ¬ (!true) = true by decide), if_pos rfl, if_pos rfl, if_pos rfl]
  have key := loop_test x0 (ByteArray.empty, (0 : Int), (0 : Int), (0 : Int), (0 : Int), ()) (q51 x1 x2) [(⟨.int .i64, 6⟩ : Dyn)] [⟨.int .i64, 0⟩] (fun n i ds => R51_6 n i x0 x1 x2 ds) (fun n => ?_) (fun n i hi hok ds hr => ?_) (fun n i hi hok => ?_)
  · cases h : x0.all (q51 x1 x2) <;> rw [h] at key <;> simpa using key
  · rw [R51_6, if_neg (by simp)]
  · rw [R51_6, if_pos (by simp; omega)]
    simp only [Int.toNat_natCast]
    unfold q51 at hok
    refine ⟨by omega, by omega, ?_⟩
    rw [if_neg (by rw [hok]; simp)]
    exact ⟨inR_up hm hi, hr⟩
  · rw [R51_6, if_pos (by simp; omega)]
    simp only [Int.toNat_natCast]
    unfold q51 at hok
    refine ⟨by omega, by omega, ?_⟩
    rw [if_pos (by rw [hok]; rfl)] <;> trivial

def S51 : Am.Spec := { sig := sig51, pre := fun ⟨x0, x1, x2, _⟩ => P51 x0 x1 x2, res := fun ⟨x0, x1, x2, _⟩ => [⟨.int .i64, g51_0 x0 x1 x2⟩] }
theorem con51 : Contract Tryz.prog 51 S51 := contract_of Tryz.func51 hb51 (Nat.le_of_ble_eq_true (by kernel_rfl)) (fun ⟨x0, x1, x2, _⟩ h hwf K q =>
  (snd51 _).1 x0 x1 x2 _ (top51 x0 x1 x2 hwf.1.1) K q)

end
end Go.Proofs.YthlhnglkechkaaaGreatDoor

/- Function 85 (spec.l19Minute): its runs between cut points. Written by a program of this repo (gen). -/
set_option linter.unusedVariables false
set_option linter.unusedSimpArgs false
set_option maxRecDepth 100000
namespace Go.Proofs.YthlhnglkechkaaaGreatDoor
open Go Go.Am Go.Proofs
noncomputable section
def ext85 : Ext := [(77, S77)]
theorem call85_77 : Callable Tryz.prog 77 := ⟨Tryz.f77, Tryz.func77, by kernel_rfl, by kernel_rfl⟩
theorem ext85Ok : ExtOk Tryz.prog ext85 := ⟨⟨call85_77, con77⟩, trivial⟩

noncomputable def b85 : Code := bodyOf Tryz.f85
theorem hb85 : Tryz.f85.body = some b85 := by kernel_rfl
def sig85 : List AT := [AT.v (Ty.int .i64)]
def tys85 : List Ty := [Ty.bool]
def kds85 : List RK := []
def oks85 : List AT := owns sig85
def P85 (x0 : Int) : Prop := True
def g85_0 (x0 : Int) : Bool := g77_0 x0 0 1440
theorem p85_0 (x0 : Int) : runF tab ext85 false 5 [] 2000 [] oks85 kds85 tys85 Tryz.f85.results [] [.code b85] (entE 0 0 sig85 (x0, ())) (entL sig85 (x0, ())) = some ([Dyn.mk Ty.bool (g77_0 x0 0 1440)], [], [True]) := by kernel_rfl
theorem at85 (x0 : Int) (h : P85 x0) (K : Ctx) (q : Nat → Value) : AtV Tryz.prog 85 (PostR kds85 oks85 [⟨Ty.bool, g85_0 x0⟩] [] [] q K) 5 K q [] [.code b85] (entE 0 0 sig85 (x0, ())) (entL sig85 (x0, ())) := by
  unfold P85 at h
  unfold g85_0
  exact AtV.fin Tryz.func85 tabOk ext85Ok mixed (p85_0 x0) ⟨trivial, trivial⟩

def S85 : Am.Spec := { sig := sig85, pre := fun ⟨x0, _⟩ => P85 x0, res := fun ⟨x0, _⟩ => [⟨Ty.bool, g85_0 x0⟩], kds := kds85 }
theorem con85 : Contract Tryz.prog 85 S85 := contract_of Tryz.func85 hb85 (Nat.le_of_ble_eq_true (by kernel_rfl)) (fun ⟨x0, _⟩ h _ K q => at85 x0 h K q)


end
end Go.Proofs.YthlhnglkechkaaaGreatDoor

/- Function 97 (spec.l19One): its runs between cut points. Written by a program of this repo (gen). -/
set_option linter.unusedVariables false
set_option linter.unusedSimpArgs false
set_option maxRecDepth 100000
namespace Go.Proofs.YthlhnglkechkaaaGreatDoor
open Go Go.Am Go.Proofs
noncomputable section
def ext97 : Ext := [(85, S85), (77, S77)]
theorem call97_85 : Callable Tryz.prog 85 := ⟨Tryz.f85, Tryz.func85, by kernel_rfl, by kernel_rfl⟩
theorem call97_77 : Callable Tryz.prog 77 := ⟨Tryz.f77, Tryz.func77, by kernel_rfl, by kernel_rfl⟩
theorem ext97Ok : ExtOk Tryz.prog ext97 := ⟨⟨call97_85, con85⟩, ⟨call97_77, con77⟩, trivial⟩

noncomputable def b97 : Code := bodyOf Tryz.f97
theorem hb97 : Tryz.f97.body = some b97 := by kernel_rfl
def sig97 : List AT := [AT.p (Ty.cons (Ty.int .i64) (Ty.cons (Ty.int .i64) Ty.unit))]
def tys97 : List Ty := [Ty.bool]
def kds97 : List RK := []
def oks97 : List AT := owns sig97
def P97 (x0 : Int × Int × Unit) : Prop := (if (g85_0 x0.1) = true then (if (g77_0 x0.2.1 1 1440) = true then ((InR .i64 (x0.1 + x0.2.1)) ∧ True) else True) else True)
def g97_0 (x0 : Int × Int × Unit) : Bool := (if (g85_0 x0.1) = true then (if (g77_0 x0.2.1 1 1440) = true then decide (x0.1 + x0.2.1 ≤ 1440) else false) else false)
theorem p97_0 (x0 : Int × Int × Unit) : runF tab ext97 false 27 [] 2000 [] oks97 kds97 tys97 Tryz.f97.results [true, true] [.code b97] (entE 0 0 sig97 (x0, ())) (entL sig97 (x0, ())) = some ([Dyn.mk Ty.bool (decide (x0.1 + x0.2.1 ≤ 1440))], [], [True, g85_0 x0.1 = true, True, g77_0 x0.2.1 1 1440 = true, InR .i64 (x0.1 + x0.2.1)]) := by kernel_rfl
theorem p97_1 (x0 : Int × Int × Unit) : runF tab ext97 false 27 [] 2000 [] oks97 kds97 tys97 Tryz.f97.results [true, false] [.code b97] (entE 0 0 sig97 (x0, ())) (entL sig97 (x0, ())) = some ([Dyn.mk Ty.bool false], [], [True, g85_0 x0.1 = true, True, g77_0 x0.2.1 1 1440 = false]) := by kernel_rfl
theorem p97_2 (x0 : Int × Int × Unit) : runF tab ext97 false 27 [] 2000 [] oks97 kds97 tys97 Tryz.f97.results [false, false] [.code b97] (entE 0 0 sig97 (x0, ())) (entL sig97 (x0, ())) = some ([Dyn.mk Ty.bool false], [], [True, g85_0 x0.1 = false, false = false]) := by kernel_rfl
theorem at97 (x0 : Int × Int × Unit) (h : P97 x0) (K : Ctx) (q : Nat → Value) : AtV Tryz.prog 97 (PostR kds97 oks97 [⟨Ty.bool, g97_0 x0⟩] [] [] q K) 27 K q [] [.code b97] (entE 0 0 sig97 (x0, ())) (entL sig97 (x0, ())) := by
  unfold P97 at h
  unfold g97_0
  by_cases b0 : (g85_0 x0.1) = true
  · try simp only [if_pos b0] at h ⊢
    by_cases b1 : (g77_0 x0.2.1 1 1440) = true
    · try simp only [if_pos b1] at h ⊢
      obtain ⟨s0, h⟩ := h
      exact AtV.fin Tryz.func97 tabOk ext97Ok mixed (p97_0 x0) ⟨trivial, b0, trivial, b1, s0, trivial⟩
    · try simp only [if_neg b1] at h ⊢
      replace b1 := Bool.eq_false_iff.2 b1
      exact AtV.fin Tryz.func97 tabOk ext97Ok mixed (p97_1 x0) ⟨trivial, b0, trivial, b1, trivial⟩
  · try simp only [if_neg b0] at h ⊢
    replace b0 := Bool.eq_false_iff.2 b0
    exact AtV.fin Tryz.func97 tabOk ext97Ok mixed (p97_2 x0) ⟨trivial, b0, rfl, trivial⟩

def S97 : Am.Spec := { sig := sig97, pre := fun ⟨x0, _⟩ => P97 x0, res := fun ⟨x0, _⟩ => [⟨Ty.bool, g97_0 x0⟩], kds := kds97 }
theorem con97 : Contract Tryz.prog 97 S97 := contract_of Tryz.func97 hb97 (Nat.le_of_ble_eq_true (by kernel_rfl)) (fun ⟨x0, _⟩ h _ K q => at97 x0 h K q)


end
end Go.Proofs.YthlhnglkechkaaaGreatDoor

/- Function 84 (spec.l19Ok): its runs between cut points. Written by a program of this repo (gen). -/
set_option linter.unusedVariables false
set_option linter.unusedSimpArgs false
set_option maxRecDepth 100000
namespace Go.Proofs.YthlhnglkechkaaaGreatDoor
open Go Go.Am Go.Proofs
noncomputable section
def ext84 : Ext := [(97, S97)]
theorem call84_97 : Callable Tryz.prog 97 := ⟨Tryz.f97, Tryz.func97, by kernel_rfl, by kernel_rfl⟩
theorem ext84Ok : ExtOk Tryz.prog ext84 := ⟨⟨call84_97, con97⟩, trivial⟩

noncomputable def b84 : Code := bodyOf Tryz.f84
theorem hb84 : Tryz.f84.body = some b84 := by kernel_rfl
def sig84 : List AT := [AT.v (Ty.sl (Ty.cons (Ty.int .i64) (Ty.cons (Ty.int .i64) Ty.unit)))]
def tys84 : List Ty := [Ty.bool]
def kds84 : List RK := []
def oks84 : List AT := owns sig84
def E84_2 (v3 : Int) (x0 : List TyB3) : Env := [(0, PV.a (Atom.sl (Ty.cons (Ty.int .i64) (Ty.cons (Ty.int .i64) Ty.unit)) x0)), (3, PV.a (Atom.val (Value.int .i64 v3)))]
def L84_2 (v3 : Int) (x0 : List TyB3) : Heap := []
mutual
def R84 : Nat → List TyB3 → List Dyn → Prop
  | 0, _, _ => False
  | n + 1, x0, ds => (R84_2 n (0) (x0) ds)
def R84_2 : Nat → Int → List TyB3 → List Dyn → Prop
  | 0, _, _, _ => False
  | n + 1, v3, x0, ds => (if (decide (v3 < (↑(List.length x0) : Int))) = true then ((0 ≤ v3) ∧ (v3 < (↑(List.length x0) : Int)) ∧ ((P97 (List.getD x0 (Int.toNat v3) (0, 0, ()))) ∧ (if (!g97_0 (List.getD x0 (Int.toNat v3) (0, 0, ()))) = true then (ds = [Dyn.mk Ty.bool false]) else (if (decide (v3 > 0)) = true then ((InR .i64 (v3 - 1)) ∧ ((0 ≤ v3 - 1) ∧ (v3 - 1 < (↑(List.length x0) : Int)) ∧ ((InR .i64 (v3 - 1)) ∧ ((0 ≤ v3 - 1) ∧ (v3 - 1 < (↑(List.length x0) : Int)) ∧ ((InR .i64 ((List.getD x0 (Int.toNat (v3 - 1)) (0, 0, ())).1 + (List.getD x0 (Int.toNat (v3 - 1)) (0, 0, ())).2.1)) ∧ ((0 ≤ v3) ∧ (v3 < (↑(List.length x0) : Int)) ∧ (if (decide ((List.getD x0 (Int.toNat (v3 - 1)) (0, 0, ())).1 + (List.getD x0 (Int.toNat (v3 - 1)) (0, 0, ())).2.1 > (List.getD x0 (Int.toNat v3) (0, 0, ())).1)) = true then (ds = [Dyn.mk Ty.bool false]) else ((InR .i64 (v3 + 1)) ∧ (R84_2 n (v3 + 1) (x0) ds))))))))) else ((InR .i64 (v3 + 1)) ∧ (R84_2 n (v3 + 1) (x0) ds)))))) else (ds = [Dyn.mk Ty.bool (decide ((↑(List.length x0) : Int) ≤ 24))]))
end
theorem p84_0 (x0 : List TyB3) : Am.runN tab ext84 false 43 [] 2000 [] [] [0, 3] [] [] [.code b84] (entE 0 0 sig84 (x0, ())) (entL sig84 (x0, ())) = some (cutAt b84 2, E84_2 (0) (x0), L84_2 (0) (x0), []) := by kernel_rfl
theorem p84_1 (v3 : Int) (x0 : List TyB3) : runF tab ext84 false 43 [] 2000 [] oks84 kds84 tys84 Tryz.f84.results [true, true, true] (cutAt b84 2) (E84_2 v3 x0) (L84_2 v3 x0) = some ([Dyn.mk Ty.bool false], [], [decide (v3 < (↑(List.length x0) : Int)) = true, 0 ≤ v3, v3 < (↑(List.length x0) : Int), P97 (List.getD x0 (Int.toNat v3) (0, 0, ())), (!g97_0 (List.getD x0 (Int.toNat v3) (0, 0, ()))) = true, true = true]) := by kernel_rfl
theorem p84_2 (v3 : Int) (x0 : List TyB3) : runF tab ext84 false 43 [] 2000 [] oks84 kds84 tys84 Tryz.f84.results [true, false, true, true] (cutAt b84 2) (E84_2 v3 x0) (L84_2 v3 x0) = some ([Dyn.mk Ty.bool false], [], [decide (v3 < (↑(List.length x0) : Int)) = true, 0 ≤ v3, v3 < (↑(List.length x0) : Int), P97 (List.getD x0 (Int.toNat v3) (0, 0, ())), (!g97_0 (List.getD x0 (Int.toNat v3) (0, 0, ()))) = false, decide (v3 > 0) = true, InR .i64 (v3 - 1), 0 ≤ v3 - 1, v3 - 1 < (↑(List.length x0) : Int), InR .i64 (v3 - 1), 0 ≤ v3 - 1, v3 - 1 < (↑(List.length x0) : Int), InR .i64 ((List.getD x0 (Int.toNat (v3 - 1)) (0, 0, ())).1 + (List.getD x0 (Int.toNat (v3 - 1)) (0, 0, ())).2.1), 0 ≤ v3, v3 < (↑(List.length x0) : Int), decide ((List.getD x0 (Int.toNat (v3 - 1)) (0, 0, ())).1 + (List.getD x0 (Int.toNat (v3 - 1)) (0, 0, ())).2.1 > (List.getD x0 (Int.toNat v3) (0, 0, ())).1) = true]) := by kernel_rfl
theorem p84_3 (v3 : Int) (x0 : List TyB3) : Am.runN tab ext84 false 43 [] 2000 [] [] [0, 3] [] [true, false, true, false] (cutAt b84 2) (E84_2 v3 x0) (L84_2 v3 x0) = some (cutAt b84 2, E84_2 (v3 + 1) (x0), L84_2 (v3 + 1) (x0), [decide (v3 < (↑(List.length x0) : Int)) = true, 0 ≤ v3, v3 < (↑(List.length x0) : Int), P97 (List.getD x0 (Int.toNat v3) (0, 0, ())), (!g97_0 (List.getD x0 (Int.toNat v3) (0, 0, ()))) = false, decide (v3 > 0) = true, InR .i64 (v3 - 1), 0 ≤ v3 - 1, v3 - 1 < (↑(List.length x0) : Int), InR .i64 (v3 - 1), 0 ≤ v3 - 1, v3 - 1 < (↑(List.length x0) : Int), InR .i64 ((List.getD x0 (Int.toNat (v3 - 1)) (0, 0, ())).1 + (List.getD x0 (Int.toNat (v3 - 1)) (0, 0, ())).2.1), 0 ≤ v3, v3 < (↑(List.length x0) : Int), decide ((List.getD x0 (Int.toNat (v3 - 1)) (0, 0, ())).1 + (List.getD x0 (Int.toNat (v3 - 1)) (0, 0, ())).2.1 > (List.getD x0 (Int.toNat v3) (0, 0, ())).1) = false, InR .i64 (v3 + 1)]) := by kernel_rfl
theorem p84_4 (v3 : Int) (x0 : List TyB3) : Am.runN tab ext84 false 43 [] 2000 [] [] [0, 3] [] [true, false, false, false] (cutAt b84 2) (E84_2 v3 x0) (L84_2 v3 x0) = some (cutAt b84 2, E84_2 (v3 + 1) (x0), L84_2 (v3 + 1) (x0), [decide (v3 < (↑(List.length x0) : Int)) = true, 0 ≤ v3, v3 < (↑(List.length x0) : Int), P97 (List.getD x0 (Int.toNat v3) (0, 0, ())), (!g97_0 (List.getD x0 (Int.toNat v3) (0, 0, ()))) = false, decide (v3 > 0) = false, false = false, InR .i64 (v3 + 1)]) := by kernel_rfl
theorem p84_5 (v3 : Int) (x0 : List TyB3) : runF tab ext84 false 43 [] 2000 [] oks84 kds84 tys84 Tryz.f84.results [false] (cutAt b84 2) (E84_2 v3 x0) (L84_2 v3 x0) = some ([Dyn.mk Ty.bool (decide ((↑(List.length x0) : Int) ≤ 24))], [], [decide (v3 < (↑(List.length x0) : Int)) = false]) := by kernel_rfl
theorem snd84 : ∀ n, (∀ (x0 : List TyB3) ds, R84 n x0 ds → ∀ K q, AtV Tryz.prog 84 (PostR kds84 oks84 ds [] [] q K) 43 K q [] [.code b84] (entE 0 0 sig84 (x0, ())) (entL sig84 (x0, ()))) ∧ (∀ (v3 : Int) (x0 : List TyB3) ds, R84_2 n v3 x0 ds → ∀ K q, AtV Tryz.prog 84 (PostR kds84 oks84 ds [] [] q K) 43 K q [] (cutAt b84 2) (E84_2 v3 x0) (L84_2 v3 x0)) := by
  intro n
  induction n with
  | zero => exact ⟨fun _ _ h => by simp only [R84] at h, fun _ _ _ h => by simp only [R84_2] at h⟩
  | succ n ih =>
  obtain ⟨ih, ih2⟩ := ih
  refine ⟨?_, ?_⟩
  · intro x0 ds h K q
    rw [R84] at h
    exact AtV.runN tabOk ext84Ok mixed (p84_0 x0) trivial (ih2 _ _ _ h K q)

  · intro v3 x0 ds h K q
    rw [R84_2] at h
    by_cases b0 : (decide (v3 < (↑(List.length x0) : Int))) = true
    · rw [if_pos b0] at h
      obtain ⟨s0, s1, h⟩ := h
      obtain ⟨s2, h⟩ := h
      by_cases b1 : (!g97_0 (List.getD x0 (Int.toNat v3) (0, 0, ()))) = true
      · rw [if_pos b1] at h
        subst h
        exact AtV.fin Tryz.func84 tabOk ext84Ok mixed (p84_1 v3 x0) ⟨b0, s0, s1, s2, b1, rfl, trivial⟩
      · rw [if_neg b1] at h
        replace b1 := Bool.eq_false_iff.2 b1
        by_cases b2 : (decide (v3 > 0)) = true
        · rw [if_pos b2] at h
          obtain ⟨s3, h⟩ := h
          obtain ⟨s4, s5, h⟩ := h
          obtain ⟨s6, h⟩ := h
          obtain ⟨s7, s8, h⟩ := h
          obtain ⟨s9, h⟩ := h
          obtain ⟨s10, s11, h⟩ := h
          by_cases b3 : (decide ((List.getD x0 (Int.toNat (v3 - 1)) (0, 0, ())).1 + (List.getD x0 (Int.toNat (v3 - 1)) (0, 0, ())).2.1 > (List.getD x0 (Int.toNat v3) (0, 0, ())).1)) = true
          · rw [if_pos b3] at h
            subst h
            exact AtV.fin Tryz.func84 tabOk ext84Ok mixed (p84_2 v3 x0) ⟨b0, s0, s1, s2, b1, b2, s3, s4, s5, s6, s7, s8, s9, s10, s11, b3, trivial⟩
          · rw [if_neg b3] at h
            replace b3 := Bool.eq_false_iff.2 b3
            obtain ⟨s12, h⟩ := h
            exact AtV.runN tabOk ext84Ok mixed (p84_3 v3 x0) ⟨b0, s0, s1, s2, b1, b2, s3, s4, s5, s6, s7, s8, s9, s10, s11, b3, s12, trivial⟩ (ih2 _ _ _ h K q)
        · rw [if_neg b2] at h
          replace b2 := Bool.eq_false_iff.2 b2
          obtain ⟨s3, h⟩ := h
          exact AtV.runN tabOk ext84Ok mixed (p84_4 v3 x0) ⟨b0, s0, s1, s2, b1, b2, rfl, s3, trivial⟩ (ih2 _ _ _ h K q)
    · rw [if_neg b0] at h
      replace b0 := Bool.eq_false_iff.2 b0
      subst h
      exact AtV.fin Tryz.func84 tabOk ext84Ok mixed (p84_5 v3 x0) ⟨b0, trivial⟩



def one84 (x : TyB3) : Bool := g97_0 x
def ok84 (x0 : List TyB3) (i : Nat) (x : TyB3) : Bool := one84 x && (i == 0 || decide ((x0.getD (i - 1) ((0 : Int), (0 : Int), ())).1 + (x0.getD (i - 1) ((0 : Int), (0 : Int), ())).2.1 ≤ x.1))
def g84_0 (x0 : List TyB3) : Bool := allI (ok84 x0) 0 x0 && decide ((x0.length : Int) ≤ 24)
def P84 (x0 : List TyB3) : Prop := True

theorem in84 {x a b : Int} : g77_0 x a b = true ↔ a ≤ x ∧ x ≤ b := by
  unfold g77_0
  by_cases c1 : x ≥ a
  · by_cases c2 : x ≤ b
    · simp [c1, c2]
    · simp [c1, c2]
  · have : ¬ a ≤ x := c1
    simp [c1, this]

theorem one84_pre (x : TyB3) : P97 x := by
  unfold P97
  split
  · rename_i h1
    split
    · rename_i h2
      have h1 := in84.1 (show g77_0 x.1 0 1440 = true from h1)
      have h2 := in84.1 (show g77_0 x.2.1 1 1440 = true from h2)
      exact ⟨by rw [i64_iff]; omega, trivial⟩
    · trivial
  · trivial

theorem one84_b {x : TyB3} (h : one84 x = true) : (0 ≤ x.1 ∧ x.1 ≤ 1440) ∧ (1 ≤ x.2.1 ∧ x.2.1 ≤ 1440) := by
  unfold one84 g97_0 at h
  split at h
  · rename_i h0
    split at h
    · rename_i h1
      exact ⟨in84.1 h0, in84.1 h1⟩
    · cases h
  · cases h

theorem run84 (x0 : List TyB3) (hm : x0.length ≤ maxLen) : ∀ (k i : Nat), i + k = x0.length → (∀ j, j < i → one84 (x0.getD j ((0 : Int), (0 : Int), ())) = true) →
    R84_2 (k + 1) (i : Int) x0 [⟨.bool, allI (ok84 x0) i (x0.drop i) && decide ((x0.length : Int) ≤ 24)⟩] := by
  intro k
  induction k with
  | zero =>
    intro i hi _
    rw [R84_2, if_neg (by simp only [decide_eq_true_eq]; omega), drop_end _ _ (by omega)]
    rfl
  | succ k ih =>
    intro i hi hp
    have hlt : i < x0.length := by omega
    have hu := inR_up hm hlt
    have hmx : maxLen ≤ 9223372036854775807 := by decide
    rw [R84_2, if_pos (by simp only [decide_eq_true_eq]; omega), drop_get x0 i ((0 : Int), (0 : Int), ()) hlt]
    simp only [Int.toNat_natCast, allI]
    refine ⟨by omega, by omega, one84_pre _, ?_⟩
    cases h1 : one84 (x0.getD i ((0 : Int), (0 : Int), ())) with
    | false =>
      unfold one84 at h1
      rw [if_pos (by rw [h1]; rfl)]
      have : ok84 x0 i (x0.getD i ((0 : Int), (0 : Int), ())) = false := by unfold ok84 one84; rw [h1]; rfl
      rw [this]; rfl
    | true =>
      have h1' := h1
      unfold one84 at h1
      rw [if_neg (by rw [h1]; simp)]
      have hnext := ih (i + 1) (by omega) (fun j hj => by
        rcases Nat.lt_or_ge j i with h | h
        · exact hp j h
        · have : j = i := by omega
          subst this; exact h1')
      have e1 : (((i + 1 : Nat)) : Int) = (i : Int) + 1 := by omega
      rw [e1] at hnext
      by_cases h0 : (i : Int) > 0
      · rw [if_pos (by simpa using h0)]
        have hi0 : (i == 0) = false := by simp; omega
        have e : ((i : Int) - 1).toNat = i - 1 := by omega
        obtain ⟨b1, b2⟩ := one84_b (hp (i - 1) (by omega))
        have hd : InR .i64 ((i : Int) - 1) := by rw [i64_iff]; omega
        simp only [e]
        refine ⟨hd, by omega, by omega, hd, by omega, by omega, by rw [i64_iff]; omega, by omega, by omega, ?_⟩
        by_cases hc : (x0.getD (i - 1) ((0 : Int), (0 : Int), ())).1 + (x0.getD (i - 1) ((0 : Int), (0 : Int), ())).2.1 ≤ (x0.getD i ((0 : Int), (0 : Int), ())).1
        · rw [if_neg (by simp only [decide_eq_true_eq]; omega)]
          have : ok84 x0 i (x0.getD i ((0 : Int), (0 : Int), ())) = true := by unfold ok84; rw [h1', hi0, decide_eq_true hc]; rfl
          rw [this, Bool.true_and]
          exact ⟨hu, hnext⟩
        · rw [if_pos (by simp only [decide_eq_true_eq]; omega)]
          have : ok84 x0 i (x0.getD i ((0 : Int), (0 : Int), ())) = false := by unfold ok84; rw [hi0, decide_eq_false hc, Bool.or_false, Bool.and_false]
          rw [this, Bool.false_and, Bool.false_and]
      · rw [if_neg (by simpa using h0)]
        have hi0 : (i == 0) = true := by simp; omega
        have : ok84 x0 i (x0.getD i ((0 : Int), (0 : Int), ())) = true := by unfold ok84; rw [h1', hi0]; rfl
        rw [this, Bool.true_and]
        exact ⟨hu, hnext⟩

theorem top84 (x0 : List TyB3) (hw : x0.length ≤ maxLen) : R84 (x0.length + 1 + 1) x0 [⟨.bool, g84_0 x0⟩] := by
  rw [R84]
  exact run84 x0 hw x0.length 0 (by omega) (fun j hj => by omega)

def S84 : Am.Spec := { sig := sig84, pre := fun ⟨x0, _⟩ => P84 x0, res := fun ⟨x0, _⟩ => [⟨Ty.bool, g84_0 x0⟩] }
theorem con84 : Contract Tryz.prog 84 S84 := contract_of Tryz.func84 hb84 (Nat.le_of_ble_eq_true (by kernel_rfl)) (fun ⟨x0, _⟩ h hwf K q =>
  (snd84 _).1 x0 _ (top84 x0 hwf.1.1) K q)

end
end Go.Proofs.YthlhnglkechkaaaGreatDoor

/- Function 52 (spec.l19Ask): its runs between cut points. Written by a program of this repo (gen). -/
set_option linter.unusedVariables false
set_option linter.unusedSimpArgs false
set_option maxRecDepth 100000
namespace Go.Proofs.YthlhnglkechkaaaGreatDoor
open Go Go.Am Go.Proofs
noncomputable section
def ext52 : Ext := [(84, S84), (85, S85)]
theorem call52_84 : Callable Tryz.prog 84 := ⟨Tryz.f84, Tryz.func84, by kernel_rfl, by kernel_rfl⟩
theorem call52_85 : Callable Tryz.prog 85 := ⟨Tryz.f85, Tryz.func85, by kernel_rfl, by kernel_rfl⟩
theorem ext52Ok : ExtOk Tryz.prog ext52 := ⟨⟨call52_84, con84⟩, ⟨call52_85, con85⟩, trivial⟩

noncomputable def b52 : Code := bodyOf Tryz.f52
theorem hb52 : Tryz.f52.body = some b52 := by kernel_rfl
def sig52 : List AT := [AT.v (Ty.sl (Ty.cons (Ty.int .i64) (Ty.cons (Ty.int .i64) Ty.unit))), AT.v (Ty.int .i64)]
def tys52 : List Ty := [Ty.int .i64]
def kds52 : List RK := []
def oks52 : List AT := owns sig52
def P52 (x0 : List TyB3) (x1 : Int) : Prop := True
def g52_0 (x0 : List TyB3) (x1 : Int) : Int := (if (!g84_0 x0) = true then 1 else (if (!g85_0 x1) = true then 2 else 0))
theorem p52_0 (x0 : List TyB3) (x1 : Int) : runF tab ext52 false 11 [] 2000 [] oks52 kds52 tys52 Tryz.f52.results [true] [.code b52] (entE 0 0 sig52 (x0, x1, ())) (entL sig52 (x0, x1, ())) = some ([Dyn.mk (Ty.int .i64) 1], [], [True, (!g84_0 x0) = true]) := by kernel_rfl
theorem p52_1 (x0 : List TyB3) (x1 : Int) : runF tab ext52 false 11 [] 2000 [] oks52 kds52 tys52 Tryz.f52.results [false, true] [.code b52] (entE 0 0 sig52 (x0, x1, ())) (entL sig52 (x0, x1, ())) = some ([Dyn.mk (Ty.int .i64) 2], [], [True, (!g84_0 x0) = false, True, (!g85_0 x1) = true]) := by kernel_rfl
theorem p52_2 (x0 : List TyB3) (x1 : Int) : runF tab ext52 false 11 [] 2000 [] oks52 kds52 tys52 Tryz.f52.results [false, false] [.code b52] (entE 0 0 sig52 (x0, x1, ())) (entL sig52 (x0, x1, ())) = some ([Dyn.mk (Ty.int .i64) 0], [], [True, (!g84_0 x0) = false, True, (!g85_0 x1) = false]) := by kernel_rfl
theorem at52 (x0 : List TyB3) (x1 : Int) (h : P52 x0 x1) (K : Ctx) (q : Nat → Value) : AtV Tryz.prog 52 (PostR kds52 oks52 [⟨Ty.int .i64, g52_0 x0 x1⟩] [] [] q K) 11 K q [] [.code b52] (entE 0 0 sig52 (x0, x1, ())) (entL sig52 (x0, x1, ())) := by
  unfold P52 at h
  unfold g52_0
  by_cases b0 : (!g84_0 x0) = true
  · try simp only [if_pos b0] at h ⊢
    exact AtV.fin Tryz.func52 tabOk ext52Ok mixed (p52_0 x0 x1) ⟨trivial, b0, trivial⟩
  · try simp only [if_neg b0] at h ⊢
    replace b0 := Bool.eq_false_iff.2 b0
    by_cases b1 : (!g85_0 x1) = true
    · try simp only [if_pos b1] at h ⊢
      exact AtV.fin Tryz.func52 tabOk ext52Ok mixed (p52_1 x0 x1) ⟨trivial, b0, trivial, b1, trivial⟩
    · try simp only [if_neg b1] at h ⊢
      replace b1 := Bool.eq_false_iff.2 b1
      exact AtV.fin Tryz.func52 tabOk ext52Ok mixed (p52_2 x0 x1) ⟨trivial, b0, trivial, b1, trivial⟩

def S52 : Am.Spec := { sig := sig52, pre := fun ⟨x0, x1, _⟩ => P52 x0 x1, res := fun ⟨x0, x1, _⟩ => [⟨Ty.int .i64, g52_0 x0 x1⟩], kds := kds52 }
theorem con52 : Contract Tryz.prog 52 S52 := contract_of Tryz.func52 hb52 (Nat.le_of_ble_eq_true (by kernel_rfl)) (fun ⟨x0, x1, _⟩ h _ K q => at52 x0 x1 h K q)


end
end Go.Proofs.YthlhnglkechkaaaGreatDoor

/- Function 105 (spec.l01Split): its runs between cut points. Written by a program of this repo (gen). -/
set_option linter.unusedVariables false
set_option linter.unusedSimpArgs false
set_option maxRecDepth 100000
namespace Go.Proofs.YthlhnglkechkaaaGreatDoor
open Go Go.Am Go.Proofs
noncomputable section
def ext105 : Ext := []
theorem ext105Ok : ExtOk Tryz.prog ext105 := trivial

noncomputable def b105 : Code := bodyOf Tryz.f105
theorem hb105 : Tryz.f105.body = some b105 := by kernel_rfl
def sig105 : List AT := [AT.v (Ty.str), AT.v (Ty.int .u8)]
def tys105 : List Ty := [Ty.sl Ty.str]
def kds105 : List RK := []
def oks105 : List AT := owns sig105
def E105_4 (v6 : Int) (v7 : Int) (h0 : List ByteArray) (x0 : ByteArray) (x1 : Int) : Env := [(0, PV.a (Atom.val (Value.string x0))), (1, PV.a (Atom.val (Value.int .u8 x1))), (5, PV.a (Atom.osl 0 Option.none)), (6, PV.a (Atom.val (Value.int .i64 v6))), (7, PV.a (Atom.val (Value.int .i64 v7)))]
def L105_4 (v6 : Int) (v7 : Int) (h0 : List ByteArray) (x0 : ByteArray) (x1 : Int) : Heap := [Option.some (Arr.mk Ty.str h0 false Option.none Option.none)]
mutual
def R105 : Nat → ByteArray → Int → List Dyn → Prop
  | 0, _, _, _ => False
  | n + 1, x0, x1, ds => (R105_4 n (0) (0) ([]) (x0) (x1) ds)
def R105_4 : Nat → Int → Int → List ByteArray → ByteArray → Int → List Dyn → Prop
  | 0, _, _, _, _, _, _ => False
  | n + 1, v6, v7, h0, x0, x1, ds => (if (decide (v7 < (↑(ByteArray.size x0) : Int))) = true then ((0 ≤ v7) ∧ (v7 < (↑(ByteArray.size x0) : Int)) ∧ (if ((↑(UInt8.toNat (List.getD (Array.toList (ByteArray.data x0)) (Int.toNat v7) 0)) : Int) == x1) = true then ((0 ≤ v6) ∧ (v6 ≤ v7) ∧ (v7 ≤ (↑(ByteArray.size x0) : Int)) ∧ (((List.length h0 + 1) * 16 ≤ 140737488355328) ∧ ((InR .i64 (v7 + 1)) ∧ ((InR .i64 (v7 + 1)) ∧ (R105_4 n (v7 + 1) (v7 + 1) (h0 ++ [ByteArray.extract x0 (Int.toNat v6) (Int.toNat v7)]) (x0) (x1) ds))))) else ((InR .i64 (v7 + 1)) ∧ (R105_4 n (v6) (v7 + 1) (h0) (x0) (x1) ds)))) else ((0 ≤ v6) ∧ (v6 ≤ (↑(ByteArray.size x0) : Int)) ∧ (((List.length h0 + 1) * 16 ≤ 140737488355328) ∧ (ds = [Dyn.mk (Ty.sl Ty.str) (h0 ++ [ByteArray.extract x0 (Int.toNat v6) (Int.toNat (↑(ByteArray.size x0) : Int))])]))))
end
theorem p105_0 (x0 : ByteArray) (x1 : Int) : Am.runN tab ext105 false 35 [] 2000 [] [] [0, 1, 5, 6, 7] [0] [] [.code b105] (entE 0 0 sig105 (x0, x1, ())) (entL sig105 (x0, x1, ())) = some (cutAt b105 4, E105_4 (0) (0) ([]) (x0) (x1), L105_4 (0) (0) ([]) (x0) (x1), []) := by kernel_rfl
theorem p105_1 (v6 : Int) (v7 : Int) (h0 : List ByteArray) (x0 : ByteArray) (x1 : Int) : Am.runN tab ext105 false 35 [] 2000 [] [] [0, 1, 5, 6, 7] [0] [true, true] (cutAt b105 4) (E105_4 v6 v7 h0 x0 x1) (L105_4 v6 v7 h0 x0 x1) = some (cutAt b105 4, E105_4 (v7 + 1) (v7 + 1) (h0 ++ [ByteArray.extract x0 (Int.toNat v6) (Int.toNat v7)]) (x0) (x1), L105_4 (v7 + 1) (v7 + 1) (h0 ++ [ByteArray.extract x0 (Int.toNat v6) (Int.toNat v7)]) (x0) (x1), [decide (v7 < (↑(ByteArray.size x0) : Int)) = true, 0 ≤ v7, v7 < (↑(ByteArray.size x0) : Int), ((↑(UInt8.toNat (List.getD (Array.toList (ByteArray.data x0)) (Int.toNat v7) 0)) : Int) == x1) = true, 0 ≤ v6, v6 ≤ v7, v7 ≤ (↑(ByteArray.size x0) : Int), (List.length h0 + 1) * 16 ≤ 140737488355328, InR .i64 (v7 + 1), InR .i64 (v7 + 1)]) := by kernel_rfl
theorem p105_2 (v6 : Int) (v7 : Int) (h0 : List ByteArray) (x0 : ByteArray) (x1 : Int) : Am.runN tab ext105 false 35 [] 2000 [] [] [0, 1, 5, 6, 7] [0] [true, false] (cutAt b105 4) (E105_4 v6 v7 h0 x0 x1) (L105_4 v6 v7 h0 x0 x1) = some (cutAt b105 4, E105_4 (v6) (v7 + 1) (h0) (x0) (x1), L105_4 (v6) (v7 + 1) (h0) (x0) (x1), [decide (v7 < (↑(ByteArray.size x0) : Int)) = true, 0 ≤ v7, v7 < (↑(ByteArray.size x0) : Int), ((↑(UInt8.toNat (List.getD (Array.toList (ByteArray.data x0)) (Int.toNat v7) 0)) : Int) == x1) = false, InR .i64 (v7 + 1)]) := by kernel_rfl
theorem p105_3 (v6 : Int) (v7 : Int) (h0 : List ByteArray) (x0 : ByteArray) (x1 : Int) : runF tab ext105 false 35 [] 2000 [] oks105 kds105 tys105 Tryz.f105.results [false] (cutAt b105 4) (E105_4 v6 v7 h0 x0 x1) (L105_4 v6 v7 h0 x0 x1) = some ([Dyn.mk (Ty.sl Ty.str) (h0 ++ [ByteArray.extract x0 (Int.toNat v6) (Int.toNat (↑(ByteArray.size x0) : Int))])], [], [decide (v7 < (↑(ByteArray.size x0) : Int)) = false, 0 ≤ v6, v6 ≤ (↑(ByteArray.size x0) : Int), (List.length h0 + 1) * 16 ≤ 140737488355328]) := by kernel_rfl
theorem snd105 : ∀ n, (∀ (x0 : ByteArray) (x1 : Int) ds, R105 n x0 x1 ds → ∀ K q, AtV Tryz.prog 105 (PostR kds105 oks105 ds [] [] q K) 35 K q [] [.code b105] (entE 0 0 sig105 (x0, x1, ())) (entL sig105 (x0, x1, ()))) ∧ (∀ (v6 : Int) (v7 : Int) (h0 : List ByteArray) (x0 : ByteArray) (x1 : Int) ds, R105_4 n v6 v7 h0 x0 x1 ds → ∀ K q, AtV Tryz.prog 105 (PostR kds105 oks105 ds [] [] q K) 35 K q [] (cutAt b105 4) (E105_4 v6 v7 h0 x0 x1) (L105_4 v6 v7 h0 x0 x1)) := by
  intro n
  induction n with
  | zero => exact ⟨fun _ _ _ h => by simp only [R105] at h, fun _ _ _ _ _ _ h => by simp only [R105_4] at h⟩
  | succ n ih =>
  obtain ⟨ih, ih4⟩ := ih
  refine ⟨?_, ?_⟩
  · intro x0 x1 ds h K q
    rw [R105] at h
    exact AtV.runN tabOk ext105Ok mixed (p105_0 x0 x1) trivial (ih4 _ _ _ _ _ _ h K q)

  · intro v6 v7 h0 x0 x1 ds h K q
    rw [R105_4] at h
    by_cases b0 : (decide (v7 < (↑(ByteArray.size x0) : Int))) = true
    · rw [if_pos b0] at h
      obtain ⟨s0, s1, h⟩ := h
      by_cases b1 : ((↑(UInt8.toNat (List.getD (Array.toList (ByteArray.data x0)) (Int.toNat v7) 0)) : Int) == x1) = true
      · rw [if_pos b1] at h
        obtain ⟨s2, s3, s4, h⟩ := h
        obtain ⟨s5, h⟩ := h
        obtain ⟨s6, h⟩ := h
        obtain ⟨s7, h⟩ := h
        exact AtV.runN tabOk ext105Ok mixed (p105_1 v6 v7 h0 x0 x1) ⟨b0, s0, s1, b1, s2, s3, s4, s5, s6, s7, trivial⟩ (ih4 _ _ _ _ _ _ h K q)
      · rw [if_neg b1] at h
        replace b1 := Bool.eq_false_iff.2 b1
        obtain ⟨s2, h⟩ := h
        exact AtV.runN tabOk ext105Ok mixed (p105_2 v6 v7 h0 x0 x1) ⟨b0, s0, s1, b1, s2, trivial⟩ (ih4 _ _ _ _ _ _ h K q)
    · rw [if_neg b0] at h
      replace b0 := Bool.eq_false_iff.2 b0
      obtain ⟨s0, s1, h⟩ := h
      obtain ⟨s2, h⟩ := h
      subst h
      exact AtV.fin Tryz.func105 tabOk ext105Ok mixed (p105_3 v6 v7 h0 x0 x1) ⟨b0, s0, s1, s2, trivial⟩



def c105 (x1 : Int) : UInt8 := UInt8.ofNat x1.toNat
def g105_0 (x0 : ByteArray) (x1 : Int) : List ByteArray := bss (splitC (c105 x1) x0.data.toList)
def P105 (x0 : ByteArray) (x1 : Int) : Prop := x0.size < 4294967281 ∧ 0 ≤ x1 ∧ x1 ≤ 255

theorem run105 (x0 : ByteArray) (x1 : Int) (hs : x0.size < 4294967281) (h0 : 0 ≤ x1) (h1 : x1 ≤ 255) : ∀ (k i frm : Nat) (h : List ByteArray), i + k = x0.size → frm ≤ i → c105 x1 ∉ (x0.data.toList.drop frm).take (i - frm) → h.length ≤ i →
    R105_4 (k + 1) (frm : Int) (i : Int) h x0 x1 [⟨.sl .str, h ++ bss (splitC (c105 x1) (x0.data.toList.drop frm))⟩] := by
  intro k
  have hll : x0.data.toList.length = x0.size := rfl
  induction k with
  | zero =>
    intro i frm h hi hf hc hl
    rw [R105_4, if_neg (by simp; omega)]
    refine ⟨by omega, by omega, by omega, ?_⟩
    have e : (x0.data.toList.drop frm).take (i - frm) = x0.data.toList.drop frm := List.take_of_length_le (by rw [List.length_drop]; omega)
    rw [e] at hc
    rw [splitC_free _ hc, Int.toNat_natCast, Int.toNat_natCast, Lib.extract_from]
    rfl
  | succ k ih =>
    intro i frm h hi hf hc hl
    have hup : InR .i64 ((i : Int) + 1) := by rw [i64_iff]; omega
    have hlt : i < x0.data.toList.length := by rw [hll]; omega
    have hcons : x0.data.toList.drop i = x0.data.toList.getD i 0 :: x0.data.toList.drop (i + 1) := drop_get _ i 0 hlt
    have hsplit : x0.data.toList.drop frm = (x0.data.toList.drop frm).take (i - frm) ++ x0.data.toList.drop i := by
      conv => lhs; rw [← List.take_append_drop (i - frm) (x0.data.toList.drop frm)]
      rw [List.drop_drop, show frm + (i - frm) = i by omega]
    rw [R105_4, if_pos (by simp; omega)]
    simp only [Int.toNat_natCast]
    refine ⟨by omega, by omega, ?_⟩
    have hb : (((x0.data.toList.getD i 0).toNat : Int) == x1) = true ↔ x0.data.toList.getD i 0 = c105 x1 := by
      have hlt' := (x0.data.toList.getD i 0).toNat_lt
      rw [beq_iff_eq, ← UInt8.toNat_inj]
      unfold c105
      have : (UInt8.ofNat x1.toNat).toNat = x1.toNat := by rw [UInt8.toNat_ofNat']; omega
      rw [this]
      omega
    by_cases he : x0.data.toList.getD i 0 = c105 x1
    · rw [if_pos (hb.2 he)]
      refine ⟨by omega, by omega, by omega, by omega, hup, hup, ?_⟩
      have := ih (i + 1) (i + 1) (h ++ [x0.extract frm i]) (by omega) (Nat.le_refl _) (by simp) (by simp; omega)
      have e2 : x0.extract frm i = ⟨((x0.data.toList.drop frm).take (i - frm)).toArray⟩ := Lib.extract_mk x0.data.toList frm i
      have e3 : splitC (c105 x1) (x0.data.toList.drop frm) = (x0.data.toList.drop frm).take (i - frm) :: splitC (c105 x1) (x0.data.toList.drop (i + 1)) := by
        conv => lhs; rw [hsplit, hcons, he]
        exact splitC_hit _ _ hc
      rw [e3, e2]
      rw [List.append_assoc, e2] at this
      exact this
    · rw [if_neg (fun hh => he (hb.1 hh))]
      refine ⟨hup, ?_⟩
      refine ih (i + 1) frm h (by omega) (by omega) (fun hm => ?_) (by omega)
      have e4 : (x0.data.toList.drop frm).take (i + 1 - frm) = (x0.data.toList.drop frm).take (i - frm) ++ [x0.data.toList.getD i 0] := by
        conv => lhs; rw [hsplit, hcons]
        rw [List.take_append, List.take_of_length_le (by rw [List.length_take, List.length_drop]; omega)]
        have : i + 1 - frm - ((x0.data.toList.drop frm).take (i - frm)).length = 1 := by rw [List.length_take, List.length_drop]; omega
        rw [this]
        rfl
      rw [e4] at hm
      rcases List.mem_append.1 hm with hm | hm
      · exact hc hm
      · exact he (List.mem_singleton.1 hm).symm

theorem top105 (x0 : ByteArray) (x1 : Int) (h : P105 x0 x1) : R105 (x0.size + 1 + 1) x0 x1 [⟨.sl .str, g105_0 x0 x1⟩] := by
  rw [R105]
  have := run105 x0 x1 h.1 h.2.1 h.2.2 x0.size 0 0 [] (by omega) (Nat.le_refl _) (by simp) (by simp)
  simpa [g105_0] using this

def S105 : Am.Spec := { sig := sig105, pre := fun ⟨x0, x1, _⟩ => P105 x0 x1, res := fun ⟨x0, x1, _⟩ => [⟨.sl .str, g105_0 x0 x1⟩] }
theorem con105 : Contract Tryz.prog 105 S105 := contract_of Tryz.func105 hb105 (Nat.le_of_ble_eq_true (by kernel_rfl)) (fun ⟨x0, x1, _⟩ h hwf K q =>
  (snd105 _).1 x0 x1 _ (top105 x0 x1 h) K q)

end
end Go.Proofs.YthlhnglkechkaaaGreatDoor

/- Function 106 (spec.l25Word): its runs between cut points. Written by a program of this repo (gen). -/
set_option linter.unusedVariables false
set_option linter.unusedSimpArgs false
set_option maxRecDepth 100000
namespace Go.Proofs.YthlhnglkechkaaaGreatDoor
open Go Go.Am Go.Proofs
noncomputable section
def ext106 : Ext := [(104, S104)]
theorem call106_104 : Callable Tryz.prog 104 := ⟨Tryz.f104, Tryz.func104, by kernel_rfl, by kernel_rfl⟩
theorem ext106Ok : ExtOk Tryz.prog ext106 := ⟨⟨call106_104, con104⟩, trivial⟩

noncomputable def b106 : Code := bodyOf Tryz.f106
theorem hb106 : Tryz.f106.body = some b106 := by kernel_rfl
def sig106 : List AT := [AT.v (Ty.str)]
def tys106 : List Ty := [Ty.bool]
def kds106 : List RK := []
def oks106 : List AT := owns sig106
def E106_2 (v3 : Int) (x0 : ByteArray) : Env := [(0, PV.a (Atom.val (Value.string x0))), (3, PV.a (Atom.val (Value.int .i64 v3)))]
def L106_2 (v3 : Int) (x0 : ByteArray) : Heap := []
mutual
def R106 : Nat → ByteArray → List Dyn → Prop
  | 0, _, _ => False
  | n + 1, x0, ds => (R106_2 n (0) (x0) ds)
def R106_2 : Nat → Int → ByteArray → List Dyn → Prop
  | 0, _, _, _ => False
  | n + 1, v3, x0, ds => (if (decide (v3 < (↑(ByteArray.size x0) : Int))) = true then ((0 ≤ v3) ∧ (v3 < (↑(ByteArray.size x0) : Int)) ∧ (if (!g104_0 (↑(UInt8.toNat (List.getD (Array.toList (ByteArray.data x0)) (Int.toNat v3) 0)) : Int)) = true then ((0 ≤ v3) ∧ (v3 < (↑(ByteArray.size x0) : Int)) ∧ (if (decide ((↑(UInt8.toNat (List.getD (Array.toList (ByteArray.data x0)) (Int.toNat v3) 0)) : Int) < 97)) = true then (ds = [Dyn.mk Ty.bool false]) else ((0 ≤ v3) ∧ (v3 < (↑(ByteArray.size x0) : Int)) ∧ (if (decide ((↑(UInt8.toNat (List.getD (Array.toList (ByteArray.data x0)) (Int.toNat v3) 0)) : Int) > 122)) = true then (ds = [Dyn.mk Ty.bool false]) else ((InR .i64 (v3 + 1)) ∧ (R106_2 n (v3 + 1) (x0) ds)))))) else ((InR .i64 (v3 + 1)) ∧ (R106_2 n (v3 + 1) (x0) ds)))) else (ds = [Dyn.mk Ty.bool (decide ((↑(ByteArray.size x0) : Int) > 0))]))
end
theorem p106_0 (x0 : ByteArray) : Am.runN tab ext106 false 30 [] 2000 [] [] [0, 3] [] [] [.code b106] (entE 0 0 sig106 (x0, ())) (entL sig106 (x0, ())) = some (cutAt b106 2, E106_2 (0) (x0), L106_2 (0) (x0), []) := by kernel_rfl
theorem p106_1 (v3 : Int) (x0 : ByteArray) : runF tab ext106 false 30 [] 2000 [] oks106 kds106 tys106 Tryz.f106.results [true, true, true, true] (cutAt b106 2) (E106_2 v3 x0) (L106_2 v3 x0) = some ([Dyn.mk Ty.bool false], [], [decide (v3 < (↑(ByteArray.size x0) : Int)) = true, 0 ≤ v3, v3 < (↑(ByteArray.size x0) : Int), True, (!g104_0 (↑(UInt8.toNat (List.getD (Array.toList (ByteArray.data x0)) (Int.toNat v3) 0)) : Int)) = true, 0 ≤ v3, v3 < (↑(ByteArray.size x0) : Int), decide ((↑(UInt8.toNat (List.getD (Array.toList (ByteArray.data x0)) (Int.toNat v3) 0)) : Int) < 97) = true, true = true]) := by kernel_rfl
theorem p106_2 (v3 : Int) (x0 : ByteArray) : runF tab ext106 false 30 [] 2000 [] oks106 kds106 tys106 Tryz.f106.results [true, true, false, true] (cutAt b106 2) (E106_2 v3 x0) (L106_2 v3 x0) = some ([Dyn.mk Ty.bool false], [], [decide (v3 < (↑(ByteArray.size x0) : Int)) = true, 0 ≤ v3, v3 < (↑(ByteArray.size x0) : Int), True, (!g104_0 (↑(UInt8.toNat (List.getD (Array.toList (ByteArray.data x0)) (Int.toNat v3) 0)) : Int)) = true, 0 ≤ v3, v3 < (↑(ByteArray.size x0) : Int), decide ((↑(UInt8.toNat (List.getD (Array.toList (ByteArray.data x0)) (Int.toNat v3) 0)) : Int) < 97) = false, 0 ≤ v3, v3 < (↑(ByteArray.size x0) : Int), decide ((↑(UInt8.toNat (List.getD (Array.toList (ByteArray.data x0)) (Int.toNat v3) 0)) : Int) > 122) = true]) := by kernel_rfl
theorem p106_3 (v3 : Int) (x0 : ByteArray) : Am.runN tab ext106 false 30 [] 2000 [] [] [0, 3] [] [true, true, false, false] (cutAt b106 2) (E106_2 v3 x0) (L106_2 v3 x0) = some (cutAt b106 2, E106_2 (v3 + 1) (x0), L106_2 (v3 + 1) (x0), [decide (v3 < (↑(ByteArray.size x0) : Int)) = true, 0 ≤ v3, v3 < (↑(ByteArray.size x0) : Int), True, (!g104_0 (↑(UInt8.toNat (List.getD (Array.toList (ByteArray.data x0)) (Int.toNat v3) 0)) : Int)) = true, 0 ≤ v3, v3 < (↑(ByteArray.size x0) : Int), decide ((↑(UInt8.toNat (List.getD (Array.toList (ByteArray.data x0)) (Int.toNat v3) 0)) : Int) < 97) = false, 0 ≤ v3, v3 < (↑(ByteArray.size x0) : Int), decide ((↑(UInt8.toNat (List.getD (Array.toList (ByteArray.data x0)) (Int.toNat v3) 0)) : Int) > 122) = false, InR .i64 (v3 + 1)]) := by kernel_rfl
theorem p106_4 (v3 : Int) (x0 : ByteArray) : Am.runN tab ext106 false 30 [] 2000 [] [] [0, 3] [] [true, false, false] (cutAt b106 2) (E106_2 v3 x0) (L106_2 v3 x0) = some (cutAt b106 2, E106_2 (v3 + 1) (x0), L106_2 (v3 + 1) (x0), [decide (v3 < (↑(ByteArray.size x0) : Int)) = true, 0 ≤ v3, v3 < (↑(ByteArray.size x0) : Int), True, (!g104_0 (↑(UInt8.toNat (List.getD (Array.toList (ByteArray.data x0)) (Int.toNat v3) 0)) : Int)) = false, false = false, InR .i64 (v3 + 1)]) := by kernel_rfl
theorem p106_5 (v3 : Int) (x0 : ByteArray) : runF tab ext106 false 30 [] 2000 [] oks106 kds106 tys106 Tryz.f106.results [false] (cutAt b106 2) (E106_2 v3 x0) (L106_2 v3 x0) = some ([Dyn.mk Ty.bool (decide ((↑(ByteArray.size x0) : Int) > 0))], [], [decide (v3 < (↑(ByteArray.size x0) : Int)) = false]) := by kernel_rfl
theorem snd106 : ∀ n, (∀ (x0 : ByteArray) ds, R106 n x0 ds → ∀ K q, AtV Tryz.prog 106 (PostR kds106 oks106 ds [] [] q K) 30 K q [] [.code b106] (entE 0 0 sig106 (x0, ())) (entL sig106 (x0, ()))) ∧ (∀ (v3 : Int) (x0 : ByteArray) ds, R106_2 n v3 x0 ds → ∀ K q, AtV Tryz.prog 106 (PostR kds106 oks106 ds [] [] q K) 30 K q [] (cutAt b106 2) (E106_2 v3 x0) (L106_2 v3 x0)) := by
  intro n
  induction n with
  | zero => exact ⟨fun _ _ h => by simp only [R106] at h, fun _ _ _ h => by simp only [R106_2] at h⟩
  | succ n ih =>
  obtain ⟨ih, ih2⟩ := ih
  refine ⟨?_, ?_⟩
  · intro x0 ds h K q
    rw [R106] at h
    exact AtV.runN tabOk ext106Ok mixed (p106_0 x0) trivial (ih2 _ _ _ h K q)

  · intro v3 x0 ds h K q
    rw [R106_2] at h
    by_cases b0 : (decide (v3 < (↑(ByteArray.size x0) : Int))) = true
    · rw [if_pos b0] at h
      obtain ⟨s0, s1, h⟩ := h
      by_cases b1 : (!g104_0 (↑(UInt8.toNat (List.getD (Array.toList (ByteArray.data x0)) (Int.toNat v3) 0)) : Int)) = true
      · rw [if_pos b1] at h
        obtain ⟨s2, s3, h⟩ := h
        by_cases b2 : (decide ((↑(UInt8.toNat (List.getD (Array.toList (ByteArray.data x0)) (Int.toNat v3) 0)) : Int) < 97)) = true
        · rw [if_pos b2] at h
          subst h
          exact AtV.fin Tryz.func106 tabOk ext106Ok mixed (p106_1 v3 x0) ⟨b0, s0, s1, trivial, b1, s2, s3, b2, rfl, trivial⟩
        · rw [if_neg b2] at h
          replace b2 := Bool.eq_false_iff.2 b2
          obtain ⟨s4, s5, h⟩ := h
          by_cases b3 : (decide ((↑(UInt8.toNat (List.getD (Array.toList (ByteArray.data x0)) (Int.toNat v3) 0)) : Int) > 122)) = true
          · rw [if_pos b3] at h
            subst h
            exact AtV.fin Tryz.func106 tabOk ext106Ok mixed (p106_2 v3 x0) ⟨b0, s0, s1, trivial, b1, s2, s3, b2, s4, s5, b3, trivial⟩
          · rw [if_neg b3] at h
            replace b3 := Bool.eq_false_iff.2 b3
            obtain ⟨s6, h⟩ := h
            exact AtV.runN tabOk ext106Ok mixed (p106_3 v3 x0) ⟨b0, s0, s1, trivial, b1, s2, s3, b2, s4, s5, b3, s6, trivial⟩ (ih2 _ _ _ h K q)
      · rw [if_neg b1] at h
        replace b1 := Bool.eq_false_iff.2 b1
        obtain ⟨s2, h⟩ := h
        exact AtV.runN tabOk ext106Ok mixed (p106_4 v3 x0) ⟨b0, s0, s1, trivial, b1, rfl, s2, trivial⟩ (ih2 _ _ _ h K q)
    · rw [if_neg b0] at h
      replace b0 := Bool.eq_false_iff.2 b0
      subst h
      exact AtV.fin Tryz.func106 tabOk ext106Ok mixed (p106_5 v3 x0) ⟨b0, trivial⟩



def ok106 (b : Int) : Bool := g104_0 b || (decide (97 ≤ b) && decide (b ≤ 122))
def g106_0 (x0 : ByteArray) : Bool := (bytesOf x0).all ok106 && decide ((x0.size : Int) > 0)
def P106 (x0 : ByteArray) : Prop := True

theorem top106 (x0 : ByteArray) (hw : Wf .str x0) : R106 (x0.size + 1 + 1) x0 [⟨.bool, g106_0 x0⟩] := by
  have hl := bytesOf_length x0
  rw [R106]
  have key := loop_test (bytesOf x0) 0 ok106 [(⟨.bool, false⟩ : Dyn)] [⟨.bool, decide ((x0.size : Int) > 0)⟩] (fun n i ds => R106_2 n i x0 ds) (fun n => ?_) (fun n i hi hok ds hr => ?_) (fun n i hi hok => ?_)
  · rw [hl] at key
    unfold g106_0
    cases h : (bytesOf x0).all ok106 <;> rw [h] at key <;> simpa using key
  · show R106_2 (n + 1) ((bytesOf x0).length : Int) x0 _
    rw [R106_2, hl, if_neg (by simp)]
  · have hu := inR_up (xs := bytesOf x0) (by rw [hl]; exact hw) hi
    rw [R106_2, if_pos (by simp; omega)]
    simp only [Int.toNat_natCast, byte_get]
    generalize (bytesOf x0).getD i 0 = c at *
    unfold ok106 at hok
    refine ⟨by omega, by omega, ?_⟩
    by_cases hd : g104_0 c = true
    · rw [if_neg (by rw [hd]; simp)]
      exact ⟨hu, hr⟩
    · rw [Bool.eq_false_iff.2 hd] at hok
      simp only [Bool.false_or, Bool.and_eq_true, decide_eq_true_eq] at hok
      rw [if_pos (by rw [Bool.eq_false_iff.2 hd]; rfl)]
      refine ⟨by omega, by omega, ?_⟩
      rw [if_neg (by simp only [decide_eq_true_eq]; omega)]
      refine ⟨by omega, by omega, ?_⟩
      rw [if_neg (by simp only [decide_eq_true_eq]; omega)]
      exact ⟨hu, hr⟩
  · rw [R106_2, if_pos (by simp; omega)]
    simp only [Int.toNat_natCast, byte_get]
    generalize (bytesOf x0).getD i 0 = c at *
    unfold ok106 at hok
    refine ⟨by omega, by omega, ?_⟩
    simp only [Bool.or_eq_false_iff] at hok
    obtain ⟨hd, h2⟩ := hok
    rw [if_pos (by rw [hd]; rfl)]
    refine ⟨by omega, by omega, ?_⟩
    by_cases h1 : c < 97
    · rw [if_pos (by simpa using h1)] <;> trivial
    · rw [if_neg (by simpa using h1)]
      refine ⟨by omega, by omega, ?_⟩
      rw [if_pos (by
        simp only [Bool.and_eq_false_iff, decide_eq_false_iff_not] at h2
        simp only [decide_eq_true_eq]; omega)] <;> trivial

def S106 : Am.Spec := { sig := sig106, pre := fun ⟨x0, _⟩ => P106 x0, res := fun ⟨x0, _⟩ => [⟨Ty.bool, g106_0 x0⟩] }
theorem con106 : Contract Tryz.prog 106 S106 := contract_of Tryz.func106 hb106 (Nat.le_of_ble_eq_true (by kernel_rfl)) (fun ⟨x0, _⟩ h hwf K q =>
  (snd106 _).1 x0 _ (top106 x0 hwf.1) K q)

end
end Go.Proofs.YthlhnglkechkaaaGreatDoor

/- Function 98 (spec.l25Text): its runs between cut points. Written by a program of this repo (gen). -/
set_option linter.unusedVariables false
set_option linter.unusedSimpArgs false
set_option maxRecDepth 100000
namespace Go.Proofs.YthlhnglkechkaaaGreatDoor
open Go Go.Am Go.Proofs
noncomputable section
def ext98 : Ext := [(105, S105), (106, S106)]
theorem call98_105 : Callable Tryz.prog 105 := ⟨Tryz.f105, Tryz.func105, by kernel_rfl, by kernel_rfl⟩
theorem call98_106 : Callable Tryz.prog 106 := ⟨Tryz.f106, Tryz.func106, by kernel_rfl, by kernel_rfl⟩
theorem ext98Ok : ExtOk Tryz.prog ext98 := ⟨⟨call98_105, con105⟩, ⟨call98_106, con106⟩, trivial⟩

noncomputable def b98 : Code := bodyOf Tryz.f98
theorem hb98 : Tryz.f98.body = some b98 := by kernel_rfl
def sig98 : List AT := [AT.v (Ty.str)]
def tys98 : List Ty := [Ty.bool]
def kds98 : List RK := []
def oks98 : List AT := owns sig98
def E98_5 (v4 : Int) (x0 : ByteArray) : Env := [(3, PV.a (Atom.osl 0 Option.none)), (4, PV.a (Atom.val (Value.int .i64 v4)))]
def L98_5 (v4 : Int) (x0 : ByteArray) : Heap := [Option.some (Arr.mk Ty.str (g105_0 x0 32) false Option.none Option.none)]
mutual
def R98 : Nat → ByteArray → List Dyn → Prop
  | 0, _, _ => False
  | n + 1, x0, ds => (if ((↑(ByteArray.size x0) : Int) == 0) = true then (ds = [Dyn.mk Ty.bool false]) else (if (decide ((↑(ByteArray.size x0) : Int) > 40)) = true then (ds = [Dyn.mk Ty.bool false]) else ((P105 x0 32) ∧ (R98_5 n (0) (x0) ds))))
def R98_5 : Nat → Int → ByteArray → List Dyn → Prop
  | 0, _, _, _ => False
  | n + 1, v4, x0, ds => (if (decide (v4 < (↑(List.length (g105_0 x0 32)) : Int))) = true then ((0 ≤ v4) ∧ (v4 < (↑(List.length (g105_0 x0 32)) : Int)) ∧ (if (!g106_0 (List.getD (g105_0 x0 32) (Int.toNat v4) ByteArray.empty)) = true then (ds = [Dyn.mk Ty.bool false]) else ((InR .i64 (v4 + 1)) ∧ (R98_5 n (v4 + 1) (x0) ds)))) else (ds = [Dyn.mk Ty.bool true]))
end
theorem p98_0 (x0 : ByteArray) : runF tab ext98 false 27 [] 2000 [] oks98 kds98 tys98 Tryz.f98.results [true, true] [.code b98] (entE 0 0 sig98 (x0, ())) (entL sig98 (x0, ())) = some ([Dyn.mk Ty.bool false], [], [((↑(ByteArray.size x0) : Int) == 0) = true, true = true]) := by kernel_rfl
theorem p98_1 (x0 : ByteArray) : runF tab ext98 false 27 [] 2000 [] oks98 kds98 tys98 Tryz.f98.results [false, true] [.code b98] (entE 0 0 sig98 (x0, ())) (entL sig98 (x0, ())) = some ([Dyn.mk Ty.bool false], [], [((↑(ByteArray.size x0) : Int) == 0) = false, decide ((↑(ByteArray.size x0) : Int) > 40) = true]) := by kernel_rfl
theorem p98_2 (x0 : ByteArray) : Am.runN tab ext98 false 27 [] 2000 [] [] [3, 4] [0] [false, false] [.code b98] (entE 0 0 sig98 (x0, ())) (entL sig98 (x0, ())) = some (cutAt b98 5, E98_5 (0) (x0), L98_5 (0) (x0), [((↑(ByteArray.size x0) : Int) == 0) = false, decide ((↑(ByteArray.size x0) : Int) > 40) = false, P105 x0 32]) := by kernel_rfl
theorem p98_3 (v4 : Int) (x0 : ByteArray) : runF tab ext98 false 27 [] 2000 [] oks98 kds98 tys98 Tryz.f98.results [true, true] (cutAt b98 5) (E98_5 v4 x0) (L98_5 v4 x0) = some ([Dyn.mk Ty.bool false], [], [decide (v4 < (↑(List.length (g105_0 x0 32)) : Int)) = true, 0 ≤ v4, v4 < (↑(List.length (g105_0 x0 32)) : Int), True, (!g106_0 (List.getD (g105_0 x0 32) (Int.toNat v4) ByteArray.empty)) = true]) := by kernel_rfl
theorem p98_4 (v4 : Int) (x0 : ByteArray) : Am.runN tab ext98 false 27 [] 2000 [] [] [3, 4] [0] [true, false] (cutAt b98 5) (E98_5 v4 x0) (L98_5 v4 x0) = some (cutAt b98 5, E98_5 (v4 + 1) (x0), L98_5 (v4 + 1) (x0), [decide (v4 < (↑(List.length (g105_0 x0 32)) : Int)) = true, 0 ≤ v4, v4 < (↑(List.length (g105_0 x0 32)) : Int), True, (!g106_0 (List.getD (g105_0 x0 32) (Int.toNat v4) ByteArray.empty)) = false, InR .i64 (v4 + 1)]) := by kernel_rfl
theorem p98_5 (v4 : Int) (x0 : ByteArray) : runF tab ext98 false 27 [] 2000 [] oks98 kds98 tys98 Tryz.f98.results [false] (cutAt b98 5) (E98_5 v4 x0) (L98_5 v4 x0) = some ([Dyn.mk Ty.bool true], [], [decide (v4 < (↑(List.length (g105_0 x0 32)) : Int)) = false]) := by kernel_rfl
theorem snd98 : ∀ n, (∀ (x0 : ByteArray) ds, R98 n x0 ds → ∀ K q, AtV Tryz.prog 98 (PostR kds98 oks98 ds [] [] q K) 27 K q [] [.code b98] (entE 0 0 sig98 (x0, ())) (entL sig98 (x0, ()))) ∧ (∀ (v4 : Int) (x0 : ByteArray) ds, R98_5 n v4 x0 ds → ∀ K q, AtV Tryz.prog 98 (PostR kds98 oks98 ds [] [] q K) 27 K q [] (cutAt b98 5) (E98_5 v4 x0) (L98_5 v4 x0)) := by
  intro n
  induction n with
  | zero => exact ⟨fun _ _ h => by simp only [R98] at h, fun _ _ _ h => by simp only [R98_5] at h⟩
  | succ n ih =>
  obtain ⟨ih, ih5⟩ := ih
  refine ⟨?_, ?_⟩
  · intro x0 ds h K q
    rw [R98] at h
    by_cases b0 : ((↑(ByteArray.size x0) : Int) == 0) = true
    · rw [if_pos b0] at h
      subst h
      exact AtV.fin Tryz.func98 tabOk ext98Ok mixed (p98_0 x0) ⟨b0, rfl, trivial⟩
    · rw [if_neg b0] at h
      replace b0 := Bool.eq_false_iff.2 b0
      by_cases b1 : (decide ((↑(ByteArray.size x0) : Int) > 40)) = true
      · rw [if_pos b1] at h
        subst h
        exact AtV.fin Tryz.func98 tabOk ext98Ok mixed (p98_1 x0) ⟨b0, b1, trivial⟩
      · rw [if_neg b1] at h
        replace b1 := Bool.eq_false_iff.2 b1
        obtain ⟨s0, h⟩ := h
        exact AtV.runN tabOk ext98Ok mixed (p98_2 x0) ⟨b0, b1, s0, trivial⟩ (ih5 _ _ _ h K q)

  · intro v4 x0 ds h K q
    rw [R98_5] at h
    by_cases b0 : (decide (v4 < (↑(List.length (g105_0 x0 32)) : Int))) = true
    · rw [if_pos b0] at h
      obtain ⟨s0, s1, h⟩ := h
      by_cases b1 : (!g106_0 (List.getD (g105_0 x0 32) (Int.toNat v4) ByteArray.empty)) = true
      · rw [if_pos b1] at h
        subst h
        exact AtV.fin Tryz.func98 tabOk ext98Ok mixed (p98_3 v4 x0) ⟨b0, s0, s1, trivial, b1, trivial⟩
      · rw [if_neg b1] at h
        replace b1 := Bool.eq_false_iff.2 b1
        obtain ⟨s2, h⟩ := h
        exact AtV.runN tabOk ext98Ok mixed (p98_4 v4 x0) ⟨b0, s0, s1, trivial, b1, s2, trivial⟩ (ih5 _ _ _ h K q)
    · rw [if_neg b0] at h
      replace b0 := Bool.eq_false_iff.2 b0
      subst h
      exact AtV.fin Tryz.func98 tabOk ext98Ok mixed (p98_5 v4 x0) ⟨b0, trivial⟩



def g98_0 (x0 : ByteArray) : Bool := !(((x0.size : Nat) : Int) == 0) && !decide (((x0.size : Nat) : Int) > 40) && (g105_0 x0 32).all g106_0
def P98 (x0 : ByteArray) : Prop := True

theorem top98 (x0 : ByteArray) : ∃ n, R98 n x0 [⟨.bool, g98_0 x0⟩] := by
  unfold g98_0
  by_cases h0 : (((x0.size : Nat) : Int) == 0) = true
  · refine ⟨1, ?_⟩
    rw [R98, if_pos h0, h0]; rfl
  by_cases h1 : ((x0.size : Nat) : Int) > 40
  · refine ⟨1, ?_⟩
    rw [R98, if_neg h0, if_pos (decide_eq_true h1), Bool.eq_false_iff.2 h0, decide_eq_true h1]; rfl
  · have hl : (g105_0 x0 32).length = x0.data.toList.count 32 + 1 := by
      show (bss (splitC (32 : UInt8) x0.data.toList)).length = _
      unfold bss
      rw [List.length_map, splitC_length]
    have hc : x0.data.toList.count (32 : UInt8) ≤ x0.size := List.count_le_length
    have hmx : 1000 ≤ maxLen := by decide
    have key := loop_test (g105_0 x0 32) ByteArray.empty g106_0 [(⟨.bool, false⟩ : Dyn)] [⟨.bool, true⟩] (fun n i ds => R98_5 n i x0 ds) (fun n => ?_) (fun n i hi hok ds hr => ?_) (fun n i hi hok => ?_)
    · refine ⟨(g105_0 x0 32).length + 1 + 1, ?_⟩
      rw [R98, if_neg h0, if_neg (by simpa using h1), Bool.eq_false_iff.2 h0, decide_eq_false h1]
      refine ⟨⟨by omega, by omega, by omega⟩, ?_⟩
      · cases h : (g105_0 x0 32).all g106_0 <;> rw [h] at key <;> exact key
    · rw [R98_5, if_neg (by simp)]
    · rw [R98_5, if_pos (by simp; omega)]
      simp only [Int.toNat_natCast]
      refine ⟨by omega, by omega, ?_⟩
      rw [if_neg (by rw [hok]; simp)]
      exact ⟨by rw [i64_iff]; omega, hr⟩
    · rw [R98_5, if_pos (by simp; omega)]
      simp only [Int.toNat_natCast]
      refine ⟨by omega, by omega, ?_⟩
      rw [if_pos (by rw [hok]; rfl)] <;> trivial

def S98 : Am.Spec := { sig := sig98, pre := fun ⟨x0, _⟩ => P98 x0, res := fun ⟨x0, _⟩ => [⟨Ty.bool, g98_0 x0⟩] }
theorem con98 : Contract Tryz.prog 98 S98 := contract_of Tryz.func98 hb98 (Nat.le_of_ble_eq_true (by kernel_rfl)) (fun ⟨x0, _⟩ h hwf K q =>
  let ⟨n, hn⟩ := top98 x0
  (snd98 n).1 x0 _ hn K q)

end
end Go.Proofs.YthlhnglkechkaaaGreatDoor

/- Function 86 (spec.l25One): its runs between cut points. Written by a program of this repo (gen). -/
set_option linter.unusedVariables false
set_option linter.unusedSimpArgs false
set_option maxRecDepth 100000
namespace Go.Proofs.YthlhnglkechkaaaGreatDoor
open Go Go.Am Go.Proofs
noncomputable section
def ext86 : Ext := [(81, S81), (77, S77), (98, S98)]
theorem call86_81 : Callable Tryz.prog 81 := ⟨Tryz.f81, Tryz.func81, by kernel_rfl, by kernel_rfl⟩
theorem call86_77 : Callable Tryz.prog 77 := ⟨Tryz.f77, Tryz.func77, by kernel_rfl, by kernel_rfl⟩
theorem call86_98 : Callable Tryz.prog 98 := ⟨Tryz.f98, Tryz.func98, by kernel_rfl, by kernel_rfl⟩
theorem ext86Ok : ExtOk Tryz.prog ext86 := ⟨⟨call86_81, con81⟩, ⟨call86_77, con77⟩, ⟨call86_98, con98⟩, trivial⟩

noncomputable def b86 : Code := bodyOf Tryz.f86
theorem hb86 : Tryz.f86.body = some b86 := by kernel_rfl
def sig86 : List AT := [AT.p (Ty.cons (Ty.int .i64) (Ty.cons (Ty.int .i64) (Ty.cons Ty.str (Ty.cons (Ty.int .i64) Ty.unit))))]
def tys86 : List Ty := [Ty.bool]
def kds86 : List RK := []
def oks86 : List AT := owns sig86
def P86 (x0 : Int × Int × ByteArray × Int × Unit) : Prop := True
def g86_0 (x0 : Int × Int × ByteArray × Int × Unit) : Bool := (if (g81_0 x0.1) = true then (if (g77_0 x0.2.1 0 1439) = true then (if (g98_0 x0.2.2.1) = true then g77_0 x0.2.2.2.1 0 65535 else false) else false) else false)
theorem p86_0 (x0 : Int × Int × ByteArray × Int × Unit) : runF tab ext86 false 29 [] 2000 [] oks86 kds86 tys86 Tryz.f86.results [true, true, true] [.code b86] (entE 0 0 sig86 (x0, ())) (entL sig86 (x0, ())) = some ([Dyn.mk Ty.bool (g77_0 x0.2.2.2.1 0 65535)], [], [True, g81_0 x0.1 = true, True, g77_0 x0.2.1 0 1439 = true, True, g98_0 x0.2.2.1 = true, True]) := by kernel_rfl
theorem p86_1 (x0 : Int × Int × ByteArray × Int × Unit) : runF tab ext86 false 29 [] 2000 [] oks86 kds86 tys86 Tryz.f86.results [true, true, false] [.code b86] (entE 0 0 sig86 (x0, ())) (entL sig86 (x0, ())) = some ([Dyn.mk Ty.bool false], [], [True, g81_0 x0.1 = true, True, g77_0 x0.2.1 0 1439 = true, True, g98_0 x0.2.2.1 = false]) := by kernel_rfl
theorem p86_2 (x0 : Int × Int × ByteArray × Int × Unit) : runF tab ext86 false 29 [] 2000 [] oks86 kds86 tys86 Tryz.f86.results [true, false, false] [.code b86] (entE 0 0 sig86 (x0, ())) (entL sig86 (x0, ())) = some ([Dyn.mk Ty.bool false], [], [True, g81_0 x0.1 = true, True, g77_0 x0.2.1 0 1439 = false, false = false]) := by kernel_rfl
theorem p86_3 (x0 : Int × Int × ByteArray × Int × Unit) : runF tab ext86 false 29 [] 2000 [] oks86 kds86 tys86 Tryz.f86.results [false, false, false] [.code b86] (entE 0 0 sig86 (x0, ())) (entL sig86 (x0, ())) = some ([Dyn.mk Ty.bool false], [], [True, g81_0 x0.1 = false, false = false, false = false]) := by kernel_rfl
theorem at86 (x0 : Int × Int × ByteArray × Int × Unit) (h : P86 x0) (K : Ctx) (q : Nat → Value) : AtV Tryz.prog 86 (PostR kds86 oks86 [⟨Ty.bool, g86_0 x0⟩] [] [] q K) 29 K q [] [.code b86] (entE 0 0 sig86 (x0, ())) (entL sig86 (x0, ())) := by
  unfold P86 at h
  unfold g86_0
  by_cases b0 : (g81_0 x0.1) = true
  · try simp only [if_pos b0] at h ⊢
    by_cases b1 : (g77_0 x0.2.1 0 1439) = true
    · try simp only [if_pos b1] at h ⊢
      by_cases b2 : (g98_0 x0.2.2.1) = true
      · try simp only [if_pos b2] at h ⊢
        exact AtV.fin Tryz.func86 tabOk ext86Ok mixed (p86_0 x0) ⟨trivial, b0, trivial, b1, trivial, b2, trivial, trivial⟩
      · try simp only [if_neg b2] at h ⊢
        replace b2 := Bool.eq_false_iff.2 b2
        exact AtV.fin Tryz.func86 tabOk ext86Ok mixed (p86_1 x0) ⟨trivial, b0, trivial, b1, trivial, b2, trivial⟩
    · try simp only [if_neg b1] at h ⊢
      replace b1 := Bool.eq_false_iff.2 b1
      exact AtV.fin Tryz.func86 tabOk ext86Ok mixed (p86_2 x0) ⟨trivial, b0, trivial, b1, rfl, trivial⟩
  · try simp only [if_neg b0] at h ⊢
    replace b0 := Bool.eq_false_iff.2 b0
    exact AtV.fin Tryz.func86 tabOk ext86Ok mixed (p86_3 x0) ⟨trivial, b0, rfl, rfl, trivial⟩

def S86 : Am.Spec := { sig := sig86, pre := fun ⟨x0, _⟩ => P86 x0, res := fun ⟨x0, _⟩ => [⟨Ty.bool, g86_0 x0⟩], kds := kds86 }
theorem con86 : Contract Tryz.prog 86 S86 := contract_of Tryz.func86 hb86 (Nat.le_of_ble_eq_true (by kernel_rfl)) (fun ⟨x0, _⟩ h _ K q => at86 x0 h K q)


end
end Go.Proofs.YthlhnglkechkaaaGreatDoor

/- Function 53 (spec.l25Lines): its runs between cut points. Written by a program of this repo (gen). -/
set_option linter.unusedVariables false
set_option linter.unusedSimpArgs false
set_option maxRecDepth 100000
namespace Go.Proofs.YthlhnglkechkaaaGreatDoor
open Go Go.Am Go.Proofs
noncomputable section
def ext53 : Ext := [(86, S86)]
theorem call53_86 : Callable Tryz.prog 86 := ⟨Tryz.f86, Tryz.func86, by kernel_rfl, by kernel_rfl⟩
theorem ext53Ok : ExtOk Tryz.prog ext53 := ⟨⟨call53_86, con86⟩, trivial⟩

noncomputable def b53 : Code := bodyOf Tryz.f53
theorem hb53 : Tryz.f53.body = some b53 := by kernel_rfl
def sig53 : List AT := [AT.v (Ty.sl (Ty.cons (Ty.int .i64) (Ty.cons (Ty.int .i64) (Ty.cons Ty.str (Ty.cons (Ty.int .i64) Ty.unit)))))]
def tys53 : List Ty := [Ty.bool]
def kds53 : List RK := []
def oks53 : List AT := owns sig53
def E53_2 (v3 : Int) (x0 : List TyB2) : Env := [(0, PV.a (Atom.sl (Ty.cons (Ty.int .i64) (Ty.cons (Ty.int .i64) (Ty.cons Ty.str (Ty.cons (Ty.int .i64) Ty.unit)))) x0)), (3, PV.a (Atom.val (Value.int .i64 v3)))]
def L53_2 (v3 : Int) (x0 : List TyB2) : Heap := []
mutual
def R53 : Nat → List TyB2 → List Dyn → Prop
  | 0, _, _ => False
  | n + 1, x0, ds => (R53_2 n (0) (x0) ds)
def R53_2 : Nat → Int → List TyB2 → List Dyn → Prop
  | 0, _, _, _ => False
  | n + 1, v3, x0, ds => (if (decide (v3 < (↑(List.length x0) : Int))) = true then ((0 ≤ v3) ∧ (v3 < (↑(List.length x0) : Int)) ∧ (if (!g86_0 (List.getD x0 (Int.toNat v3) (0, 0, ByteArray.empty, 0, ()))) = true then (ds = [Dyn.mk Ty.bool false]) else (if (decide (v3 > 0)) = true then ((InR .i64 (v3 - 1)) ∧ ((0 ≤ v3 - 1) ∧ (v3 - 1 < (↑(List.length x0) : Int)) ∧ (if (decide ((List.getD x0 (Int.toNat (v3 - 1)) (0, 0, ByteArray.empty, 0, ())).1 > (List.getD x0 (Int.toNat v3) (0, 0, ByteArray.empty, 0, ())).1)) = true then (ds = [Dyn.mk Ty.bool false]) else ((InR .i64 (v3 - 1)) ∧ ((0 ≤ v3 - 1) ∧ (v3 - 1 < (↑(List.length x0) : Int)) ∧ (if ((List.getD x0 (Int.toNat (v3 - 1)) (0, 0, ByteArray.empty, 0, ())).1 == (List.getD x0 (Int.toNat v3) (0, 0, ByteArray.empty, 0, ())).1) = true then ((InR .i64 (v3 - 1)) ∧ ((0 ≤ v3 - 1) ∧ (v3 - 1 < (↑(List.length x0) : Int)) ∧ (if (decide ((List.getD x0 (Int.toNat (v3 - 1)) (0, 0, ByteArray.empty, 0, ())).2.1 > (List.getD x0 (Int.toNat v3) (0, 0, ByteArray.empty, 0, ())).2.1)) = true then (ds = [Dyn.mk Ty.bool false]) else ((InR .i64 (v3 + 1)) ∧ (R53_2 n (v3 + 1) (x0) ds))))) else ((InR .i64 (v3 + 1)) ∧ (R53_2 n (v3 + 1) (x0) ds)))))))) else ((InR .i64 (v3 + 1)) ∧ (R53_2 n (v3 + 1) (x0) ds))))) else (ds = [Dyn.mk Ty.bool (decide ((↑(List.length x0) : Int) ≤ 40))]))
end
theorem p53_0 (x0 : List TyB2) : Am.runN tab ext53 false 61 [] 2000 [] [] [0, 3] [] [] [.code b53] (entE 0 0 sig53 (x0, ())) (entL sig53 (x0, ())) = some (cutAt b53 2, E53_2 (0) (x0), L53_2 (0) (x0), []) := by kernel_rfl
theorem p53_1 (v3 : Int) (x0 : List TyB2) : runF tab ext53 false 61 [] 2000 [] oks53 kds53 tys53 Tryz.f53.results [true, true] (cutAt b53 2) (E53_2 v3 x0) (L53_2 v3 x0) = some ([Dyn.mk Ty.bool false], [], [decide (v3 < (↑(List.length x0) : Int)) = true, 0 ≤ v3, v3 < (↑(List.length x0) : Int), True, (!g86_0 (List.getD x0 (Int.toNat v3) (0, 0, ByteArray.empty, 0, ()))) = true]) := by kernel_rfl
theorem p53_2 (v3 : Int) (x0 : List TyB2) : runF tab ext53 false 61 [] 2000 [] oks53 kds53 tys53 Tryz.f53.results [true, false, true, true, true] (cutAt b53 2) (E53_2 v3 x0) (L53_2 v3 x0) = some ([Dyn.mk Ty.bool false], [], [decide (v3 < (↑(List.length x0) : Int)) = true, 0 ≤ v3, v3 < (↑(List.length x0) : Int), True, (!g86_0 (List.getD x0 (Int.toNat v3) (0, 0, ByteArray.empty, 0, ()))) = false, decide (v3 > 0) = true, InR .i64 (v3 - 1), 0 ≤ v3 - 1, v3 - 1 < (↑(List.length x0) : Int), decide ((List.getD x0 (Int.toNat (v3 - 1)) (0, 0, ByteArray.empty, 0, ())).1 > (List.getD x0 (Int.toNat v3) (0, 0, ByteArray.empty, 0, ())).1) = true, true = true]) := by kernel_rfl
theorem p53_3 (v3 : Int) (x0 : List TyB2) : runF tab ext53 false 61 [] 2000 [] oks53 kds53 tys53 Tryz.f53.results [true, false, true, false, true, true] (cutAt b53 2) (E53_2 v3 x0) (L53_2 v3 x0) = some ([Dyn.mk Ty.bool false], [], [decide (v3 < (↑(List.length x0) : Int)) = true, 0 ≤ v3, v3 < (↑(List.length x0) : Int), True, (!g86_0 (List.getD x0 (Int.toNat v3) (0, 0, ByteArray.empty, 0, ()))) = false, decide (v3 > 0) = true, InR .i64 (v3 - 1), 0 ≤ v3 - 1, v3 - 1 < (↑(List.length x0) : Int), decide ((List.getD x0 (Int.toNat (v3 - 1)) (0, 0, ByteArray.empty, 0, ())).1 > (List.getD x0 (Int.toNat v3) (0, 0, ByteArray.empty, 0, ())).1) = false, InR .i64 (v3 - 1), 0 ≤ v3 - 1, v3 - 1 < (↑(List.length x0) : Int), ((List.getD x0 (Int.toNat (v3 - 1)) (0, 0, ByteArray.empty, 0, ())).1 == (List.getD x0 (Int.toNat v3) (0, 0, ByteArray.empty, 0, ())).1) = true, InR .i64 (v3 - 1), 0 ≤ v3 - 1, v3 - 1 < (↑(List.length x0) : Int), decide ((List.getD x0 (Int.toNat (v3 - 1)) (0, 0, ByteArray.empty, 0, ())).2.1 > (List.getD x0 (Int.toNat v3) (0, 0, ByteArray.empty, 0, ())).2.1) = true]) := by kernel_rfl
theorem p53_4 (v3 : Int) (x0 : List TyB2) : Am.runN tab ext53 false 61 [] 2000 [] [] [0, 3] [] [true, false, true, false, true, false] (cutAt b53 2) (E53_2 v3 x0) (L53_2 v3 x0) = some (cutAt b53 2, E53_2 (v3 + 1) (x0), L53_2 (v3 + 1) (x0), [decide (v3 < (↑(List.length x0) : Int)) = true, 0 ≤ v3, v3 < (↑(List.length x0) : Int), True, (!g86_0 (List.getD x0 (Int.toNat v3) (0, 0, ByteArray.empty, 0, ()))) = false, decide (v3 > 0) = true, InR .i64 (v3 - 1), 0 ≤ v3 - 1, v3 - 1 < (↑(List.length x0) : Int), decide ((List.getD x0 (Int.toNat (v3 - 1)) (0, 0, ByteArray.empty, 0, ())).1 > (List.getD x0 (Int.toNat v3) (0, 0, ByteArray.empty, 0, ())).1) = false, InR .i64 (v3 - 1), 0 ≤ v3 - 1, v3 - 1 < (↑(List.length x0) : Int), ((List.getD x0 (Int.toNat (v3 - 1)) (0, 0, ByteArray.empty, 0, ())).1 == (List.getD x0 (Int.toNat v3) (0, 0, ByteArray.empty, 0, ())).1) = true, InR .i64 (v3 - 1), 0 ≤ v3 - 1, v3 - 1 < (↑(List.length x0) : Int), decide ((List.getD x0 (Int.toNat (v3 - 1)) (0, 0, ByteArray.empty, 0, ())).2.1 > (List.getD x0 (Int.toNat v3) (0, 0, ByteArray.empty, 0, ())).2.1) = false, InR .i64 (v3 + 1)]) := by kernel_rfl
theorem p53_5 (v3 : Int) (x0 : List TyB2) : Am.runN tab ext53 false 61 [] 2000 [] [] [0, 3] [] [true, false, true, false, false, false] (cutAt b53 2) (E53_2 v3 x0) (L53_2 v3 x0) = some (cutAt b53 2, E53_2 (v3 + 1) (x0), L53_2 (v3 + 1) (x0), [decide (v3 < (↑(List.length x0) : Int)) = true, 0 ≤ v3, v3 < (↑(List.length x0) : Int), True, (!g86_0 (List.getD x0 (Int.toNat v3) (0, 0, ByteArray.empty, 0, ()))) = false, decide (v3 > 0) = true, InR .i64 (v3 - 1), 0 ≤ v3 - 1, v3 - 1 < (↑(List.length x0) : Int), decide ((List.getD x0 (Int.toNat (v3 - 1)) (0, 0, ByteArray.empty, 0, ())).1 > (List.getD x0 (Int.toNat v3) (0, 0, ByteArray.empty, 0, ())).1) = false, InR .i64 (v3 - 1), 0 ≤ v3 - 1, v3 - 1 < (↑(List.length x0) : Int), ((List.getD x0 (Int.toNat (v3 - 1)) (0, 0, ByteArray.empty, 0, ())).1 == (List.getD x0 (Int.toNat v3) (0, 0, ByteArray.empty, 0, ())).1) = false, false = false, InR .i64 (v3 + 1)]) := by kernel_rfl
theorem p53_6 (v3 : Int) (x0 : List TyB2) : Am.runN tab ext53 false 61 [] 2000 [] [] [0, 3] [] [true, false, false, false] (cutAt b53 2) (E53_2 v3 x0) (L53_2 v3 x0) = some (cutAt b53 2, E53_2 (v3 + 1) (x0), L53_2 (v3 + 1) (x0), [decide (v3 < (↑(List.length x0) : Int)) = true, 0 ≤ v3, v3 < (↑(List.length x0) : Int), True, (!g86_0 (List.getD x0 (Int.toNat v3) (0, 0, ByteArray.empty, 0, ()))) = false, decide (v3 > 0) = false, false = false, InR .i64 (v3 + 1)]) := by kernel_rfl
theorem p53_7 (v3 : Int) (x0 : List TyB2) : runF tab ext53 false 61 [] 2000 [] oks53 kds53 tys53 Tryz.f53.results [false] (cutAt b53 2) (E53_2 v3 x0) (L53_2 v3 x0) = some ([Dyn.mk Ty.bool (decide ((↑(List.length x0) : Int) ≤ 40))], [], [decide (v3 < (↑(List.length x0) : Int)) = false]) := by kernel_rfl
theorem snd53 : ∀ n, (∀ (x0 : List TyB2) ds, R53 n x0 ds → ∀ K q, AtV Tryz.prog 53 (PostR kds53 oks53 ds [] [] q K) 61 K q [] [.code b53] (entE 0 0 sig53 (x0, ())) (entL sig53 (x0, ()))) ∧ (∀ (v3 : Int) (x0 : List TyB2) ds, R53_2 n v3 x0 ds → ∀ K q, AtV Tryz.prog 53 (PostR kds53 oks53 ds [] [] q K) 61 K q [] (cutAt b53 2) (E53_2 v3 x0) (L53_2 v3 x0)) := by
  intro n
  induction n with
  | zero => exact ⟨fun _ _ h => by simp only [R53] at h, fun _ _ _ h => by simp only [R53_2] at h⟩
  | succ n ih =>
  obtain ⟨ih, ih2⟩ := ih
  refine ⟨?_, ?_⟩
  · intro x0 ds h K q
    rw [R53] at h
    exact AtV.runN tabOk ext53Ok mixed (p53_0 x0) trivial (ih2 _ _ _ h K q)

  · intro v3 x0 ds h K q
    rw [R53_2] at h
    by_cases b0 : (decide (v3 < (↑(List.length x0) : Int))) = true
    · rw [if_pos b0] at h
      obtain ⟨s0, s1, h⟩ := h
      by_cases b1 : (!g86_0 (List.getD x0 (Int.toNat v3) (0, 0, ByteArray.empty, 0, ()))) = true
      · rw [if_pos b1] at h
        subst h
        exact AtV.fin Tryz.func53 tabOk ext53Ok mixed (p53_1 v3 x0) ⟨b0, s0, s1, trivial, b1, trivial⟩
      · rw [if_neg b1] at h
        replace b1 := Bool.eq_false_iff.2 b1
        by_cases b2 : (decide (v3 > 0)) = true
        · rw [if_pos b2] at h
          obtain ⟨s2, h⟩ := h
          obtain ⟨s3, s4, h⟩ := h
          by_cases b3 : (decide ((List.getD x0 (Int.toNat (v3 - 1)) (0, 0, ByteArray.empty, 0, ())).1 > (List.getD x0 (Int.toNat v3) (0, 0, ByteArray.empty, 0, ())).1)) = true
          · rw [if_pos b3] at h
            subst h
            exact AtV.fin Tryz.func53 tabOk ext53Ok mixed (p53_2 v3 x0) ⟨b0, s0, s1, trivial, b1, b2, s2, s3, s4, b3, rfl, trivial⟩
          · rw [if_neg b3] at h
            replace b3 := Bool.eq_false_iff.2 b3
            obtain ⟨s5, h⟩ := h
            obtain ⟨s6, s7, h⟩ := h
            by_cases b4 : ((List.getD x0 (Int.toNat (v3 - 1)) (0, 0, ByteArray.empty, 0, ())).1 == (List.getD x0 (Int.toNat v3) (0, 0, ByteArray.empty, 0, ())).1) = true
            · rw [if_pos b4] at h
              obtain ⟨s8, h⟩ := h
              obtain ⟨s9, s10, h⟩ := h
              by_cases b5 : (decide ((List.getD x0 (Int.toNat (v3 - 1)) (0, 0, ByteArray.empty, 0, ())).2.1 > (List.getD x0 (Int.toNat v3) (0, 0, ByteArray.empty, 0, ())).2.1)) = true
              · rw [if_pos b5] at h
                subst h
                exact AtV.fin Tryz.func53 tabOk ext53Ok mixed (p53_3 v3 x0) ⟨b0, s0, s1, trivial, b1, b2, s2, s3, s4, b3, s5, s6, s7, b4, s8, s9, s10, b5, trivial⟩
              · rw [if_neg b5] at h
                replace b5 := Bool.eq_false_iff.2 b5
                obtain ⟨s11, h⟩ := h
                exact AtV.runN tabOk ext53Ok mixed (p53_4 v3 x0) ⟨b0, s0, s1, trivial, b1, b2, s2, s3, s4, b3, s5, s6, s7, b4, s8, s9, s10, b5, s11, trivial⟩ (ih2 _ _ _ h K q)
            · rw [if_neg b4] at h
              replace b4 := Bool.eq_false_iff.2 b4
              obtain ⟨s8, h⟩ := h
              exact AtV.runN tabOk ext53Ok mixed (p53_5 v3 x0) ⟨b0, s0, s1, trivial, b1, b2, s2, s3, s4, b3, s5, s6, s7, b4, rfl, s8, trivial⟩ (ih2 _ _ _ h K q)
        · rw [if_neg b2] at h
          replace b2 := Bool.eq_false_iff.2 b2
          obtain ⟨s2, h⟩ := h
          exact AtV.runN tabOk ext53Ok mixed (p53_6 v3 x0) ⟨b0, s0, s1, trivial, b1, b2, rfl, s2, trivial⟩ (ih2 _ _ _ h K q)
    · rw [if_neg b0] at h
      replace b0 := Bool.eq_false_iff.2 b0
      subst h
      exact AtV.fin Tryz.func53 tabOk ext53Ok mixed (p53_7 v3 x0) ⟨b0, trivial⟩



def bad53 (y x : TyB2) : Bool := if decide (y.1 > x.1) = true then true else (if (y.1 == x.1) = true then decide (y.2.1 > x.2.1) else false)
def ok53 (x0 : List TyB2) (i : Nat) (x : TyB2) : Bool := g86_0 x && (i == 0 || !bad53 (x0.getD (i - 1) ((0 : Int), (0 : Int), ByteArray.empty, (0 : Int), ())) x)
def g53_0 (x0 : List TyB2) : Bool := allI (ok53 x0) 0 x0 && decide ((x0.length : Int) ≤ 40)
def P53 (x0 : List TyB2) : Prop := True

theorem step53 (n i : Nat) (x0 : List TyB2) (hm : x0.length ≤ maxLen) (hi : i < x0.length) (ds : List Dyn)
    (h : if ok53 x0 i (x0.getD i ((0 : Int), (0 : Int), ByteArray.empty, (0 : Int), ())) = true then R53_2 n ((i : Int) + 1) x0 ds else ds = [⟨.bool, false⟩]) : R53_2 (n + 1) (i : Int) x0 ds := by
  have hu := inR_up hm hi
  have hmx : maxLen ≤ 9223372036854775807 := by decide
  rw [R53_2, if_pos (by simp only [decide_eq_true_eq]; omega)]
  simp only [Int.toNat_natCast]
  refine ⟨by omega, by omega, ?_⟩
  unfold ok53 at h
  by_cases hv : g86_0 (x0.getD i ((0 : Int), (0 : Int), ByteArray.empty, (0 : Int), ())) = true
  case neg => rw [Bool.eq_false_iff.2 hv] at h; rw [if_pos (by rw [Bool.eq_false_iff.2 hv]; rfl)]; simpa using h
  rw [if_neg (by rw [hv]; simp)]
  rw [hv] at h
  by_cases h0 : (i : Int) > 0
  case neg =>
    rw [if_neg (by simpa using h0)]
    have hi0 : (i == 0) = true := by simp; omega
    rw [hi0] at h
    exact ⟨hu, by simpa using h⟩
  rw [if_pos (by simpa using h0)]
  have hi0 : (i == 0) = false := by simp; omega
  have e : ((i : Int) - 1).toNat = i - 1 := by omega
  have hd : InR .i64 ((i : Int) - 1) := by rw [i64_iff]; omega
  rw [hi0] at h
  simp only [e]
  refine ⟨hd, by omega, by omega, ?_⟩
  by_cases c0 : (x0.getD (i - 1) ((0 : Int), (0 : Int), ByteArray.empty, (0 : Int), ())).1 > (x0.getD i ((0 : Int), (0 : Int), ByteArray.empty, (0 : Int), ())).1
  · rw [if_pos (decide_eq_true c0)]
    have : bad53 (x0.getD (i - 1) ((0 : Int), (0 : Int), ByteArray.empty, (0 : Int), ())) (x0.getD i ((0 : Int), (0 : Int), ByteArray.empty, (0 : Int), ())) = true := by unfold bad53; rw [if_pos (decide_eq_true c0)]
    rw [this] at h
    simpa using h
  · rw [if_neg (by simpa using c0)]
    refine ⟨hd, by omega, by omega, ?_⟩
    by_cases c1 : ((x0.getD (i - 1) ((0 : Int), (0 : Int), ByteArray.empty, (0 : Int), ())).1 == (x0.getD i ((0 : Int), (0 : Int), ByteArray.empty, (0 : Int), ())).1) = true
    · rw [if_pos c1]
      refine ⟨hd, by omega, by omega, ?_⟩
      have eb : bad53 (x0.getD (i - 1) ((0 : Int), (0 : Int), ByteArray.empty, (0 : Int), ())) (x0.getD i ((0 : Int), (0 : Int), ByteArray.empty, (0 : Int), ())) = decide ((x0.getD (i - 1) ((0 : Int), (0 : Int), ByteArray.empty, (0 : Int), ())).2.1 > (x0.getD i ((0 : Int), (0 : Int), ByteArray.empty, (0 : Int), ())).2.1) := by unfold bad53; rw [if_neg (by simpa using c0), if_pos c1]
      rw [eb] at h
      by_cases c2 : (x0.getD (i - 1) ((0 : Int), (0 : Int), ByteArray.empty, (0 : Int), ())).2.1 > (x0.getD i ((0 : Int), (0 : Int), ByteArray.empty, (0 : Int), ())).2.1
      · rw [if_pos (decide_eq_true c2)]
        rw [decide_eq_true c2] at h
        simpa using h
      · rw [if_neg (by simpa using c2)]
        rw [decide_eq_false c2] at h
        exact ⟨hu, by simpa using h⟩
    · rw [if_neg c1]
      have eb : bad53 (x0.getD (i - 1) ((0 : Int), (0 : Int), ByteArray.empty, (0 : Int), ())) (x0.getD i ((0 : Int), (0 : Int), ByteArray.empty, (0 : Int), ())) = false := by unfold bad53; rw [if_neg (by simpa using c0), if_neg c1]
      rw [eb] at h
      exact ⟨hu, by simpa using h⟩

theorem top53 (x0 : List TyB2) (hw : x0.length ≤ maxLen) : R53 (x0.length + 1 + 1) x0 [⟨.bool, g53_0 x0⟩] := by
  rw [R53]
  have key := loop_testI x0 ((0 : Int), (0 : Int), ByteArray.empty, (0 : Int), ()) (ok53 x0) [(⟨.bool, false⟩ : Dyn)] [⟨.bool, decide ((x0.length : Int) ≤ 40)⟩] (fun n i ds => R53_2 n i x0 ds) (fun n => ?_) (fun n i hi hok ds hr => ?_) (fun n i hi hok => ?_)
  · unfold g53_0
    cases h : allI (ok53 x0) 0 x0 with
    | true => rw [if_pos h] at key; simpa using key
    | false => rw [if_neg (by rw [h]; simp)] at key; simpa using key
  · rw [R53_2, if_neg (by simp)]
  · exact step53 n i x0 hw hi ds (by rw [if_pos hok]; exact hr)
  · exact step53 n i x0 hw hi _ (by rw [if_neg (by rw [hok]; simp)])

def S53 : Am.Spec := { sig := sig53, pre := fun ⟨x0, _⟩ => P53 x0, res := fun ⟨x0, _⟩ => [⟨Ty.bool, g53_0 x0⟩] }
theorem con53 : Contract Tryz.prog 53 S53 := contract_of Tryz.func53 hb53 (Nat.le_of_ble_eq_true (by kernel_rfl)) (fun ⟨x0, _⟩ h hwf K q =>
  (snd53 _).1 x0 _ (top53 x0 hwf.1.1) K q)

end
end Go.Proofs.YthlhnglkechkaaaGreatDoor

/- Function 14 (spec.l31Ok): its runs between cut points. Written by a program of this repo (gen). -/
set_option linter.unusedVariables false
set_option linter.unusedSimpArgs false
set_option maxRecDepth 100000
namespace Go.Proofs.YthlhnglkechkaaaGreatDoor
open Go Go.Am Go.Proofs
noncomputable section
def ext14 : Ext := [(45, S45), (46, S46), (47, S47), (48, S48), (49, S49), (50, S50), (51, S51), (52, S52), (53, S53)]
theorem call14_45 : Callable Tryz.prog 45 := ⟨Tryz.f45, Tryz.func45, by kernel_rfl, by kernel_rfl⟩
theorem call14_46 : Callable Tryz.prog 46 := ⟨Tryz.f46, Tryz.func46, by kernel_rfl, by kernel_rfl⟩
theorem call14_47 : Callable Tryz.prog 47 := ⟨Tryz.f47, Tryz.func47, by kernel_rfl, by kernel_rfl⟩
theorem call14_48 : Callable Tryz.prog 48 := ⟨Tryz.f48, Tryz.func48, by kernel_rfl, by kernel_rfl⟩
theorem call14_49 : Callable Tryz.prog 49 := ⟨Tryz.f49, Tryz.func49, by kernel_rfl, by kernel_rfl⟩
theorem call14_50 : Callable Tryz.prog 50 := ⟨Tryz.f50, Tryz.func50, by kernel_rfl, by kernel_rfl⟩
theorem call14_51 : Callable Tryz.prog 51 := ⟨Tryz.f51, Tryz.func51, by kernel_rfl, by kernel_rfl⟩
theorem call14_52 : Callable Tryz.prog 52 := ⟨Tryz.f52, Tryz.func52, by kernel_rfl, by kernel_rfl⟩
theorem call14_53 : Callable Tryz.prog 53 := ⟨Tryz.f53, Tryz.func53, by kernel_rfl, by kernel_rfl⟩
theorem ext14Ok : ExtOk Tryz.prog ext14 := ⟨⟨call14_45, con45⟩, ⟨call14_46, con46⟩, ⟨call14_47, con47⟩, ⟨call14_48, con48⟩, ⟨call14_49, con49⟩, ⟨call14_50, con50⟩, ⟨call14_51, con51⟩, ⟨call14_52, con52⟩, ⟨call14_53, con53⟩, trivial⟩

noncomputable def b14 : Code := bodyOf Tryz.f14
theorem hb14 : Tryz.f14.body = some b14 := by kernel_rfl
def sig14 : List AT := [AT.p (Ty.cons (Ty.cons (Ty.sl (Ty.cons (Ty.int .i64) (Ty.cons (Ty.int .i64) Ty.unit))) (Ty.cons (Ty.int .i64) (Ty.cons (Ty.int .i64) Ty.unit))) (Ty.cons (Ty.int .i64) (Ty.cons (Ty.cons (Ty.int .i64) (Ty.cons (Ty.int .i64) Ty.unit)) (Ty.cons (Ty.cons (Ty.int .i64) (Ty.cons (Ty.int .i64) (Ty.cons (Ty.int .i64) (Ty.cons (Ty.int .i64) Ty.unit)))) (Ty.cons (Ty.sl (Ty.cons Ty.str (Ty.cons (Ty.int .i64) (Ty.cons (Ty.int .i64) (Ty.cons (Ty.int .i64) Ty.unit))))) (Ty.cons (Ty.cons (Ty.int .i64) (Ty.cons (Ty.int .i64) (Ty.cons (Ty.int .i64) Ty.unit))) (Ty.cons (Ty.sl (Ty.cons Ty.str (Ty.cons (Ty.int .i64) (Ty.cons (Ty.int .i64) (Ty.cons (Ty.int .i64) (Ty.cons (Ty.int .i64) Ty.unit)))))) (Ty.cons (Ty.int .i64) (Ty.cons (Ty.int .i64) (Ty.cons (Ty.sl (Ty.cons (Ty.int .i64) (Ty.cons (Ty.int .i64) Ty.unit))) (Ty.cons (Ty.int .i64) (Ty.cons (Ty.sl (Ty.cons (Ty.int .i64) (Ty.cons (Ty.int .i64) (Ty.cons Ty.str (Ty.cons (Ty.int .i64) Ty.unit))))) Ty.unit))))))))))))]
def tys14 : List Ty := [Ty.bool]
def kds14 : List RK := []
def oks14 : List AT := owns sig14
def P14 (x0 : TyA0) : Prop := True
def g14_0 (x0 : TyA0) : Bool := (if (!g45_0 x0.1) = true then false else (if (!g46_0 x0.2.1) = true then false else (if (!g47_0 x0.2.2.1) = true then false else (if (!g48_0 x0.2.2.2.1) = true then false else (if (!g49_0 x0.2.2.2.2.1) = true then false else (if (!g50_0 x0.2.2.2.2.2.1) = true then false else (if (g51_0 x0.2.2.2.2.2.2.1 x0.2.2.2.2.2.2.2.1 x0.2.2.2.2.2.2.2.2.1 != 0) = true then false else (if (g52_0 x0.2.2.2.2.2.2.2.2.2.1 x0.2.2.2.2.2.2.2.2.2.2.1 == 0) = true then g53_0 x0.2.2.2.2.2.2.2.2.2.2.2.1 else false))))))))
theorem p14_0 (x0 : TyA0) : runF tab ext14 false 76 [] 2000 [] oks14 kds14 tys14 Tryz.f14.results [true, true, true, true] [.code b14] (entE 0 0 sig14 (x0, ())) (entL sig14 (x0, ())) = some ([Dyn.mk Ty.bool false], [], [True, (!g45_0 x0.1) = true, true = true, true = true, true = true]) := by kernel_rfl
theorem p14_1 (x0 : TyA0) : runF tab ext14 false 76 [] 2000 [] oks14 kds14 tys14 Tryz.f14.results [false, true, true, true] [.code b14] (entE 0 0 sig14 (x0, ())) (entL sig14 (x0, ())) = some ([Dyn.mk Ty.bool false], [], [True, (!g45_0 x0.1) = false, True, (!g46_0 x0.2.1) = true, true = true, true = true]) := by kernel_rfl
theorem p14_2 (x0 : TyA0) : runF tab ext14 false 76 [] 2000 [] oks14 kds14 tys14 Tryz.f14.results [false, false, true, true] [.code b14] (entE 0 0 sig14 (x0, ())) (entL sig14 (x0, ())) = some ([Dyn.mk Ty.bool false], [], [True, (!g45_0 x0.1) = false, True, (!g46_0 x0.2.1) = false, True, (!g47_0 x0.2.2.1) = true, true = true]) := by kernel_rfl
theorem p14_3 (x0 : TyA0) : runF tab ext14 false 76 [] 2000 [] oks14 kds14 tys14 Tryz.f14.results [false, false, false, true] [.code b14] (entE 0 0 sig14 (x0, ())) (entL sig14 (x0, ())) = some ([Dyn.mk Ty.bool false], [], [True, (!g45_0 x0.1) = false, True, (!g46_0 x0.2.1) = false, True, (!g47_0 x0.2.2.1) = false, True, (!g48_0 x0.2.2.2.1) = true]) := by kernel_rfl
theorem p14_4 (x0 : TyA0) : runF tab ext14 false 76 [] 2000 [] oks14 kds14 tys14 Tryz.f14.results [false, false, false, false, true, true, true] [.code b14] (entE 0 0 sig14 (x0, ())) (entL sig14 (x0, ())) = some ([Dyn.mk Ty.bool false], [], [True, (!g45_0 x0.1) = false, True, (!g46_0 x0.2.1) = false, True, (!g47_0 x0.2.2.1) = false, True, (!g48_0 x0.2.2.2.1) = false, True, (!g49_0 x0.2.2.2.2.1) = true, true = true, true = true]) := by kernel_rfl
theorem p14_5 (x0 : TyA0) : runF tab ext14 false 76 [] 2000 [] oks14 kds14 tys14 Tryz.f14.results [false, false, false, false, false, true, true] [.code b14] (entE 0 0 sig14 (x0, ())) (entL sig14 (x0, ())) = some ([Dyn.mk Ty.bool false], [], [True, (!g45_0 x0.1) = false, True, (!g46_0 x0.2.1) = false, True, (!g47_0 x0.2.2.1) = false, True, (!g48_0 x0.2.2.2.1) = false, True, (!g49_0 x0.2.2.2.2.1) = false, True, (!g50_0 x0.2.2.2.2.2.1) = true, true = true]) := by kernel_rfl
theorem p14_6 (x0 : TyA0) : runF tab ext14 false 76 [] 2000 [] oks14 kds14 tys14 Tryz.f14.results [false, false, false, false, false, false, true] [.code b14] (entE 0 0 sig14 (x0, ())) (entL sig14 (x0, ())) = some ([Dyn.mk Ty.bool false], [], [True, (!g45_0 x0.1) = false, True, (!g46_0 x0.2.1) = false, True, (!g47_0 x0.2.2.1) = false, True, (!g48_0 x0.2.2.2.1) = false, True, (!g49_0 x0.2.2.2.2.1) = false, True, (!g50_0 x0.2.2.2.2.2.1) = false, True, (g51_0 x0.2.2.2.2.2.2.1 x0.2.2.2.2.2.2.2.1 x0.2.2.2.2.2.2.2.2.1 != 0) = true]) := by kernel_rfl
theorem p14_7 (x0 : TyA0) : runF tab ext14 false 76 [] 2000 [] oks14 kds14 tys14 Tryz.f14.results [false, false, false, false, false, false, false, true] [.code b14] (entE 0 0 sig14 (x0, ())) (entL sig14 (x0, ())) = some ([Dyn.mk Ty.bool (g53_0 x0.2.2.2.2.2.2.2.2.2.2.2.1)], [], [True, (!g45_0 x0.1) = false, True, (!g46_0 x0.2.1) = false, True, (!g47_0 x0.2.2.1) = false, True, (!g48_0 x0.2.2.2.1) = false, True, (!g49_0 x0.2.2.2.2.1) = false, True, (!g50_0 x0.2.2.2.2.2.1) = false, True, (g51_0 x0.2.2.2.2.2.2.1 x0.2.2.2.2.2.2.2.1 x0.2.2.2.2.2.2.2.2.1 != 0) = false, True, (g52_0 x0.2.2.2.2.2.2.2.2.2.1 x0.2.2.2.2.2.2.2.2.2.2.1 == 0) = true, True]) := by kernel_rfl
theorem p14_8 (x0 : TyA0) : runF tab ext14 false 76 [] 2000 [] oks14 kds14 tys14 Tryz.f14.results [false, false, false, false, false, false, false, false] [.code b14] (entE 0 0 sig14 (x0, ())) (entL sig14 (x0, ())) = some ([Dyn.mk Ty.bool false], [], [True, (!g45_0 x0.1) = false, True, (!g46_0 x0.2.1) = false, True, (!g47_0 x0.2.2.1) = false, True, (!g48_0 x0.2.2.2.1) = false, True, (!g49_0 x0.2.2.2.2.1) = false, True, (!g50_0 x0.2.2.2.2.2.1) = false, True, (g51_0 x0.2.2.2.2.2.2.1 x0.2.2.2.2.2.2.2.1 x0.2.2.2.2.2.2.2.2.1 != 0) = false, True, (g52_0 x0.2.2.2.2.2.2.2.2.2.1 x0.2.2.2.2.2.2.2.2.2.2.1 == 0) = false]) := by kernel_rfl
theorem at14 (x0 : TyA0) (h : P14 x0) (K : Ctx) (q : Nat → Value) : AtV Tryz.prog 14 (PostR kds14 oks14 [⟨Ty.bool, g14_0 x0⟩] [] [] q K) 76 K q [] [.code b14] (entE 0 0 sig14 (x0, ())) (entL sig14 (x0, ())) := by
  unfold P14 at h
  unfold g14_0
  by_cases b0 : (!g45_0 x0.1) = true
  · try simp only [if_pos b0] at h ⊢
    exact AtV.fin Tryz.func14 tabOk ext14Ok mixed (p14_0 x0) ⟨trivial, b0, rfl, rfl, rfl, trivial⟩
  · try simp only [if_neg b0] at h ⊢
    replace b0 := Bool.eq_false_iff.2 b0
    by_cases b1 : (!g46_0 x0.2.1) = true
    · try simp only [if_pos b1] at h ⊢
      exact AtV.fin Tryz.func14 tabOk ext14Ok mixed (p14_1 x0) ⟨trivial, b0, trivial, b1, rfl, rfl, trivial⟩
    · try simp only [if_neg b1] at h ⊢
      replace b1 := Bool.eq_false_iff.2 b1
      by_cases b2 : (!g47_0 x0.2.2.1) = true
      · try simp only [if_pos b2] at h ⊢
        exact AtV.fin Tryz.func14 tabOk ext14Ok mixed (p14_2 x0) ⟨trivial, b0, trivial, b1, trivial, b2, rfl, trivial⟩
      · try simp only [if_neg b2] at h ⊢
        replace b2 := Bool.eq_false_iff.2 b2
        by_cases b3 : (!g48_0 x0.2.2.2.1) = true
        · try simp only [if_pos b3] at h ⊢
          exact AtV.fin Tryz.func14 tabOk ext14Ok mixed (p14_3 x0) ⟨trivial, b0, trivial, b1, trivial, b2, trivial, b3, trivial⟩
        · try simp only [if_neg b3] at h ⊢
          replace b3 := Bool.eq_false_iff.2 b3
          by_cases b4 : (!g49_0 x0.2.2.2.2.1) = true
          · try simp only [if_pos b4] at h ⊢
            exact AtV.fin Tryz.func14 tabOk ext14Ok mixed (p14_4 x0) ⟨trivial, b0, trivial, b1, trivial, b2, trivial, b3, trivial, b4, rfl, rfl, trivial⟩
          · try simp only [if_neg b4] at h ⊢
            replace b4 := Bool.eq_false_iff.2 b4
            by_cases b5 : (!g50_0 x0.2.2.2.2.2.1) = true
            · try simp only [if_pos b5] at h ⊢
              exact AtV.fin Tryz.func14 tabOk ext14Ok mixed (p14_5 x0) ⟨trivial, b0, trivial, b1, trivial, b2, trivial, b3, trivial, b4, trivial, b5, rfl, trivial⟩
            · try simp only [if_neg b5] at h ⊢
              replace b5 := Bool.eq_false_iff.2 b5
              by_cases b6 : (g51_0 x0.2.2.2.2.2.2.1 x0.2.2.2.2.2.2.2.1 x0.2.2.2.2.2.2.2.2.1 != 0) = true
              · try simp only [if_pos b6] at h ⊢
                exact AtV.fin Tryz.func14 tabOk ext14Ok mixed (p14_6 x0) ⟨trivial, b0, trivial, b1, trivial, b2, trivial, b3, trivial, b4, trivial, b5, trivial, b6, trivial⟩
              · try simp only [if_neg b6] at h ⊢
                replace b6 := Bool.eq_false_iff.2 b6
                by_cases b7 : (g52_0 x0.2.2.2.2.2.2.2.2.2.1 x0.2.2.2.2.2.2.2.2.2.2.1 == 0) = true
                · try simp only [if_pos b7] at h ⊢
                  exact AtV.fin Tryz.func14 tabOk ext14Ok mixed (p14_7 x0) ⟨trivial, b0, trivial, b1, trivial, b2, trivial, b3, trivial, b4, trivial, b5, trivial, b6, trivial, b7, trivial, trivial⟩
                · try simp only [if_neg b7] at h ⊢
                  replace b7 := Bool.eq_false_iff.2 b7
                  exact AtV.fin Tryz.func14 tabOk ext14Ok mixed (p14_8 x0) ⟨trivial, b0, trivial, b1, trivial, b2, trivial, b3, trivial, b4, trivial, b5, trivial, b6, trivial, b7, trivial⟩

def S14 : Am.Spec := { sig := sig14, pre := fun ⟨x0, _⟩ => P14 x0, res := fun ⟨x0, _⟩ => [⟨Ty.bool, g14_0 x0⟩], kds := kds14 }
theorem con14 : Contract Tryz.prog 14 S14 := contract_of Tryz.func14 hb14 (Nat.le_of_ble_eq_true (by kernel_rfl)) (fun ⟨x0, _⟩ h _ K q => at14 x0 h K q)


end
end Go.Proofs.YthlhnglkechkaaaGreatDoor

/- Function 5 (spec.ValidWorks): its runs between cut points. Written by a program of this repo (gen). -/
set_option linter.unusedVariables false
set_option linter.unusedSimpArgs false
set_option maxRecDepth 100000
namespace Go.Proofs.YthlhnglkechkaaaGreatDoor
open Go Go.Am Go.Proofs
noncomputable section
def ext5 : Ext := [(14, S14)]
theorem call5_14 : Callable Tryz.prog 14 := ⟨Tryz.f14, Tryz.func14, by kernel_rfl, by kernel_rfl⟩
theorem ext5Ok : ExtOk Tryz.prog ext5 := ⟨⟨call5_14, con14⟩, trivial⟩

noncomputable def b5 : Code := bodyOf Tryz.f5
theorem hb5 : Tryz.f5.body = some b5 := by kernel_rfl
def sig5 : List AT := [AT.v (Ty.cons (Ty.cons (Ty.sl (Ty.cons (Ty.int .i64) (Ty.cons (Ty.int .i64) Ty.unit))) (Ty.cons (Ty.int .i64) (Ty.cons (Ty.int .i64) Ty.unit))) (Ty.cons (Ty.int .i64) (Ty.cons (Ty.cons (Ty.int .i64) (Ty.cons (Ty.int .i64) Ty.unit)) (Ty.cons (Ty.cons (Ty.int .i64) (Ty.cons (Ty.int .i64) (Ty.cons (Ty.int .i64) (Ty.cons (Ty.int .i64) Ty.unit)))) (Ty.cons (Ty.sl (Ty.cons Ty.str (Ty.cons (Ty.int .i64) (Ty.cons (Ty.int .i64) (Ty.cons (Ty.int .i64) Ty.unit))))) (Ty.cons (Ty.cons (Ty.int .i64) (Ty.cons (Ty.int .i64) (Ty.cons (Ty.int .i64) Ty.unit))) (Ty.cons (Ty.sl (Ty.cons Ty.str (Ty.cons (Ty.int .i64) (Ty.cons (Ty.int .i64) (Ty.cons (Ty.int .i64) (Ty.cons (Ty.int .i64) Ty.unit)))))) (Ty.cons (Ty.int .i64) (Ty.cons (Ty.int .i64) (Ty.cons (Ty.sl (Ty.cons (Ty.int .i64) (Ty.cons (Ty.int .i64) Ty.unit))) (Ty.cons (Ty.int .i64) (Ty.cons (Ty.sl (Ty.cons (Ty.int .i64) (Ty.cons (Ty.int .i64) (Ty.cons Ty.str (Ty.cons (Ty.int .i64) Ty.unit))))) Ty.unit))))))))))))]
def tys5 : List Ty := [Ty.bool]
def kds5 : List RK := []
def oks5 : List AT := owns sig5
def P5 (x0 : TyA0) : Prop := True
def g5_0 (x0 : TyA0) : Bool := g14_0 x0
theorem p5_0 (x0 : TyA0) : runF tab ext5 false 4 [] 2000 [] oks5 kds5 tys5 Tryz.f5.results [] [.code b5] (entE 0 0 sig5 (x0, ())) (entL sig5 (x0, ())) = some ([Dyn.mk Ty.bool (g14_0 x0)], [], [True]) := by kernel_rfl
theorem at5 (x0 : TyA0) (h : P5 x0) (K : Ctx) (q : Nat → Value) : AtV Tryz.prog 5 (PostR kds5 oks5 [⟨Ty.bool, g5_0 x0⟩] [] [] q K) 4 K q [] [.code b5] (entE 0 0 sig5 (x0, ())) (entL sig5 (x0, ())) := by
  unfold P5 at h
  unfold g5_0
  exact AtV.fin Tryz.func5 tabOk ext5Ok mixed (p5_0 x0) ⟨trivial, trivial⟩

def S5 : Am.Spec := { sig := sig5, pre := fun ⟨x0, _⟩ => P5 x0, res := fun ⟨x0, _⟩ => [⟨Ty.bool, g5_0 x0⟩], kds := kds5 }
theorem con5 : Contract Tryz.prog 5 S5 := contract_of Tryz.func5 hb5 (Nat.le_of_ble_eq_true (by kernel_rfl)) (fun ⟨x0, _⟩ h _ K q => at5 x0 h K q)


end
end Go.Proofs.YthlhnglkechkaaaGreatDoor

/- Function 59 (impl.within): its runs between cut points. Written by a program of this repo (gen). -/
set_option linter.unusedVariables false
set_option linter.unusedSimpArgs false
set_option maxRecDepth 100000
namespace Go.Proofs.YthlhnglkechkaaaGreatDoor
open Go Go.Am Go.Proofs
noncomputable section
def ext59 : Ext := []
theorem ext59Ok : ExtOk Tryz.prog ext59 := trivial

noncomputable def b59 : Code := bodyOf Tryz.f59
theorem hb59 : Tryz.f59.body = some b59 := by kernel_rfl
def sig59 : List AT := [AT.v (Ty.int .i64), AT.v (Ty.int .i64), AT.v (Ty.int .i64)]
def tys59 : List Ty := [Ty.bool]
def kds59 : List RK := []
def oks59 : List AT := owns sig59
def P59 (x0 : Int) (x1 : Int) (x2 : Int) : Prop := True
def g59_0 (x0 : Int) (x1 : Int) (x2 : Int) : Bool := (if (decide (x0 ≥ x1)) = true then decide (x0 ≤ x2) else false)
theorem p59_0 (x0 : Int) (x1 : Int) (x2 : Int) : runF tab ext59 false 15 [] 2000 [] oks59 kds59 tys59 Tryz.f59.results [true] [.code b59] (entE 0 0 sig59 (x0, x1, x2, ())) (entL sig59 (x0, x1, x2, ())) = some ([Dyn.mk Ty.bool (decide (x0 ≤ x2))], [], [decide (x0 ≥ x1) = true]) := by kernel_rfl
theorem p59_1 (x0 : Int) (x1 : Int) (x2 : Int) : runF tab ext59 false 15 [] 2000 [] oks59 kds59 tys59 Tryz.f59.results [false] [.code b59] (entE 0 0 sig59 (x0, x1, x2, ())) (entL sig59 (x0, x1, x2, ())) = some ([Dyn.mk Ty.bool false], [], [decide (x0 ≥ x1) = false]) := by kernel_rfl
theorem at59 (x0 : Int) (x1 : Int) (x2 : Int) (h : P59 x0 x1 x2) (K : Ctx) (q : Nat → Value) : AtV Tryz.prog 59 (PostR kds59 oks59 [⟨Ty.bool, g59_0 x0 x1 x2⟩] [] [] q K) 15 K q [] [.code b59] (entE 0 0 sig59 (x0, x1, x2, ())) (entL sig59 (x0, x1, x2, ())) := by
  unfold P59 at h
  unfold g59_0
  by_cases b0 : (decide (x0 ≥ x1)) = true
  · try simp only [if_pos b0] at h ⊢
    exact AtV.fin Tryz.func59 tabOk ext59Ok mixed (p59_0 x0 x1 x2) ⟨b0, trivial⟩
  · try simp only [if_neg b0] at h ⊢
    replace b0 := Bool.eq_false_iff.2 b0
    exact AtV.fin Tryz.func59 tabOk ext59Ok mixed (p59_1 x0 x1 x2) ⟨b0, trivial⟩

def S59 : Am.Spec := { sig := sig59, pre := fun ⟨x0, x1, x2, _⟩ => P59 x0 x1 x2, res := fun ⟨x0, x1, x2, _⟩ => [⟨Ty.bool, g59_0 x0 x1 x2⟩], kds := kds59 }
theorem con59 : Contract Tryz.prog 59 S59 := contract_of Tryz.func59 hb59 (Nat.le_of_ble_eq_true (by kernel_rfl)) (fun ⟨x0, x1, x2, _⟩ h _ K q => at59 x0 x1 x2 h K q)


end
end Go.Proofs.YthlhnglkechkaaaGreatDoor

/- Function 60 (impl.length): its runs between cut points. Written by a program of this repo (gen). -/
set_option linter.unusedVariables false
set_option linter.unusedSimpArgs false
set_option maxRecDepth 100000
namespace Go.Proofs.YthlhnglkechkaaaGreatDoor
open Go Go.Am Go.Proofs
noncomputable section
def ext60 : Ext := []
theorem ext60Ok : ExtOk Tryz.prog ext60 := trivial

noncomputable def b60 : Code := bodyOf Tryz.f60
theorem hb60 : Tryz.f60.body = some b60 := by kernel_rfl
def sig60 : List AT := [AT.v (Ty.cons (Ty.sl (Ty.cons (Ty.int .i64) (Ty.cons (Ty.int .i64) Ty.unit))) (Ty.cons (Ty.int .i64) (Ty.cons (Ty.int .i64) Ty.unit)))]
def tys60 : List Ty := [Ty.int .i64]
def kds60 : List RK := []
def oks60 : List AT := owns sig60
def E60_3 (v3 : Int) (v9 : Int) (x0 : List TyB3 × Int × Int × Unit) : Env := [(3, PV.a (Atom.val (Value.int .i64 v3))), (7, PV.a (Atom.sl (Ty.cons (Ty.int .i64) (Ty.cons (Ty.int .i64) Ty.unit)) x0.1)), (8, PV.a (Atom.val (Value.int .i64 (↑(List.length x0.1) : Int)))), (9, PV.a (Atom.val (Value.int .i64 v9)))]
def L60_3 (v3 : Int) (v9 : Int) (x0 : List TyB3 × Int × Int × Unit) : Heap := []
mutual
def R60 : Nat → List TyB3 × Int × Int × Unit → List Dyn → Prop
  | 0, _, _ => False
  | n + 1, x0, ds => (R60_3 n (0) (0) (x0) ds)
def R60_3 : Nat → Int → Int → List TyB3 × Int × Int × Unit → List Dyn → Prop
  | 0, _, _, _, _ => False
  | n + 1, v3, v9, x0, ds => (if (decide (v9 < (↑(List.length x0.1) : Int))) = true then ((0 ≤ v9) ∧ (v9 < (↑(List.length x0.1) : Int)) ∧ ((InR .i64 (v3 + (List.getD x0.1 (Int.toNat v9) (0, 0, ())).1)) ∧ ((InR .i64 (v9 + 1)) ∧ (R60_3 n (v3 + (List.getD x0.1 (Int.toNat v9) (0, 0, ())).1) (v9 + 1) (x0) ds)))) else (ds = [Dyn.mk (Ty.int .i64) v3]))
end
theorem p60_0 (x0 : List TyB3 × Int × Int × Unit) : Am.runN tab ext60 false 19 [] 2000 [] [] [3, 7, 8, 9] [] [] [.code b60] (entE 0 0 sig60 (x0, ())) (entL sig60 (x0, ())) = some (cutAt b60 3, E60_3 (0) (0) (x0), L60_3 (0) (0) (x0), []) := by kernel_rfl
theorem p60_1 (v3 : Int) (v9 : Int) (x0 : List TyB3 × Int × Int × Unit) : Am.runN tab ext60 false 19 [] 2000 [] [] [3, 7, 8, 9] [] [true] (cutAt b60 3) (E60_3 v3 v9 x0) (L60_3 v3 v9 x0) = some (cutAt b60 3, E60_3 (v3 + (List.getD x0.1 (Int.toNat v9) (0, 0, ())).1) (v9 + 1) (x0), L60_3 (v3 + (List.getD x0.1 (Int.toNat v9) (0, 0, ())).1) (v9 + 1) (x0), [decide (v9 < (↑(List.length x0.1) : Int)) = true, 0 ≤ v9, v9 < (↑(List.length x0.1) : Int), InR .i64 (v3 + (List.getD x0.1 (Int.toNat v9) (0, 0, ())).1), InR .i64 (v9 + 1)]) := by kernel_rfl
theorem p60_2 (v3 : Int) (v9 : Int) (x0 : List TyB3 × Int × Int × Unit) : runF tab ext60 false 19 [] 2000 [] oks60 kds60 tys60 Tryz.f60.results [false] (cutAt b60 3) (E60_3 v3 v9 x0) (L60_3 v3 v9 x0) = some ([Dyn.mk (Ty.int .i64) v3], [], [decide (v9 < (↑(List.length x0.1) : Int)) = false]) := by kernel_rfl
theorem snd60 : ∀ n, (∀ (x0 : List TyB3 × Int × Int × Unit) ds, R60 n x0 ds → ∀ K q, AtV Tryz.prog 60 (PostR kds60 oks60 ds [] [] q K) 19 K q [] [.code b60] (entE 0 0 sig60 (x0, ())) (entL sig60 (x0, ()))) ∧ (∀ (v3 : Int) (v9 : Int) (x0 : List TyB3 × Int × Int × Unit) ds, R60_3 n v3 v9 x0 ds → ∀ K q, AtV Tryz.prog 60 (PostR kds60 oks60 ds [] [] q K) 19 K q [] (cutAt b60 3) (E60_3 v3 v9 x0) (L60_3 v3 v9 x0)) := by
  intro n
  induction n with
  | zero => exact ⟨fun _ _ h => by simp only [R60] at h, fun _ _ _ _ h => by simp only [R60_3] at h⟩
  | succ n ih =>
  obtain ⟨ih, ih3⟩ := ih
  refine ⟨?_, ?_⟩
  · intro x0 ds h K q
    rw [R60] at h
    exact AtV.runN tabOk ext60Ok mixed (p60_0 x0) trivial (ih3 _ _ _ _ h K q)

  · intro v3 v9 x0 ds h K q
    rw [R60_3] at h
    by_cases b0 : (decide (v9 < (↑(List.length x0.1) : Int))) = true
    · rw [if_pos b0] at h
      obtain ⟨s0, s1, h⟩ := h
      obtain ⟨s2, h⟩ := h
      obtain ⟨s3, h⟩ := h
      exact AtV.runN tabOk ext60Ok mixed (p60_1 v3 v9 x0) ⟨b0, s0, s1, s2, s3, trivial⟩ (ih3 _ _ _ _ h K q)
    · rw [if_neg b0] at h
      replace b0 := Bool.eq_false_iff.2 b0
      subst h
      exact AtV.fin Tryz.func60 tabOk ext60Ok mixed (p60_2 v3 v9 x0) ⟨b0, trivial⟩



def sum60 (xs : List TyB3) : Int := xs.foldr (fun x n => x.1 + n) 0
def g60_0 (x0 : List TyB3 × Int × Int × Unit) : Int := sum60 x0.1
def P60 (x0 : List TyB3 × Int × Int × Unit) : Prop := x0.1.length ≤ 1000000 ∧ ∀ x ∈ x0.1, 0 ≤ x.1 ∧ x.1 ≤ 1000000000

theorem run60 (x0 : List TyB3 × Int × Int × Unit) (hl : x0.1.length ≤ 1000000) (hx : ∀ x ∈ x0.1, 0 ≤ x.1 ∧ x.1 ≤ 1000000000) : ∀ (k i : Nat) (v : Int), i + k = x0.1.length → 0 ≤ v → v ≤ 1000000000 * (i : Int) →
    R60_3 (k + 1) v (i : Int) x0 [⟨.int .i64, v + sum60 (x0.1.drop i)⟩] := by
  intro k
  induction k with
  | zero =>
    intro i v hi h0 h1
    rw [R60_3, if_neg (by simp only [decide_eq_true_eq]; omega), drop_end _ _ (by omega)]
    simp [sum60]
  | succ k ih =>
    intro i v hi h0 h1
    have hlt : i < x0.1.length := by omega
    have hm := hx _ (mem_getD x0.1 i ((0 : Int), (0 : Int), ()) hlt)
    have h := ih (i + 1) (v + (x0.1.getD i ((0 : Int), (0 : Int), ())).1) (by omega) (by omega) (by omega)
    rw [R60_3, if_pos (by simp only [decide_eq_true_eq]; omega)]
    simp only [Int.toNat_natCast]
    refine ⟨by omega, by omega, by rw [i64_iff]; omega, by rw [i64_iff]; omega, ?_⟩
    rw [drop_get x0.1 i ((0 : Int), (0 : Int), ()) hlt]
    have e : ∀ (y : Int × Int × Unit) l, v + sum60 (y :: l) = v + y.1 + sum60 l := fun y l => by
      show v + (y.1 + sum60 l) = _; omega
    rw [e]
    exact h

theorem top60 (x0 : List TyB3 × Int × Int × Unit) (h : P60 x0) : R60 (x0.1.length + 1 + 1) x0 [⟨.int .i64, g60_0 x0⟩] := by
  rw [R60]
  have := run60 x0 h.1 h.2 x0.1.length 0 0 (by omega) (by omega) (by omega)
  simpa [g60_0] using this

def S60 : Am.Spec := { sig := sig60, pre := fun ⟨x0, _⟩ => P60 x0, res := fun ⟨x0, _⟩ => [⟨.int .i64, g60_0 x0⟩] }
theorem con60 : Contract Tryz.prog 60 S60 := contract_of Tryz.func60 hb60 (Nat.le_of_ble_eq_true (by kernel_rfl)) (fun ⟨x0, _⟩ h hwf K q =>
  (snd60 _).1 x0 _ (top60 x0 h) K q)

theorem sum60_le (xs : List TyB3) (h : ∀ x ∈ xs, 0 ≤ x.1 ∧ x.1 ≤ 3000000) : 0 ≤ sum60 xs ∧ sum60 xs ≤ 3000000 * (xs.length : Int) := by
  induction xs with
  | nil => exact ⟨Int.le_refl _, Int.le_refl _⟩
  | cons x r ih =>
    obtain ⟨i1, i2⟩ := ih fun y hy => h y (List.mem_cons_of_mem _ hy)
    obtain ⟨x1, x2⟩ := h x (List.mem_cons_self ..)
    show 0 ≤ x.1 + sum60 r ∧ x.1 + sum60 r ≤ _
    simp only [List.length_cons]
    omega

end
end Go.Proofs.YthlhnglkechkaaaGreatDoor

/- Function 23 (impl.ValidTrack): its runs between cut points. Written by a program of this repo (gen). -/
set_option linter.unusedVariables false
set_option linter.unusedSimpArgs false
set_option maxRecDepth 100000
namespace Go.Proofs.YthlhnglkechkaaaGreatDoor
open Go Go.Am Go.Proofs
noncomputable section
def ext23 : Ext := [(59, S59), (60, S60)]
theorem call23_59 : Callable Tryz.prog 59 := ⟨Tryz.f59, Tryz.func59, by kernel_rfl, by kernel_rfl⟩
theorem call23_60 : Callable Tryz.prog 60 := ⟨Tryz.f60, Tryz.func60, by kernel_rfl, by kernel_rfl⟩
theorem ext23Ok : ExtOk Tryz.prog ext23 := ⟨⟨call23_59, con59⟩, ⟨call23_60, con60⟩, trivial⟩

noncomputable def b23 : Code := bodyOf Tryz.f23
theorem hb23 : Tryz.f23.body = some b23 := by kernel_rfl
def sig23 : List AT := [AT.v (Ty.cons (Ty.sl (Ty.cons (Ty.int .i64) (Ty.cons (Ty.int .i64) Ty.unit))) (Ty.cons (Ty.int .i64) (Ty.cons (Ty.int .i64) Ty.unit)))]
def tys23 : List Ty := [Ty.bool]
def kds23 : List RK := []
def oks23 : List AT := owns sig23
def E23_4 (v18 : Int) (x0 : List TyB3 × Int × Int × Unit) : Env := [(1, PV.a (Atom.optr 0 0 [])), (16, PV.a (Atom.sl (Ty.cons (Ty.int .i64) (Ty.cons (Ty.int .i64) Ty.unit)) x0.1)), (17, PV.a (Atom.val (Value.int .i64 (↑(List.length x0.1) : Int)))), (18, PV.a (Atom.val (Value.int .i64 v18)))]
def L23_4 (v18 : Int) (x0 : List TyB3 × Int × Int × Unit) : Heap := [Option.some (Arr.mk (Ty.cons (Ty.sl (Ty.cons (Ty.int .i64) (Ty.cons (Ty.int .i64) Ty.unit))) (Ty.cons (Ty.int .i64) (Ty.cons (Ty.int .i64) Ty.unit))) [x0] true Option.none (Option.some false))]
mutual
def R23 : Nat → List TyB3 × Int × Int × Unit → List Dyn → Prop
  | 0, _, _ => False
  | n + 1, x0, ds => (if (decide ((↑(List.length x0.1) : Int) < 1)) = true then (ds = [Dyn.mk Ty.bool false]) else (if (decide ((↑(List.length x0.1) : Int) > 12)) = true then (ds = [Dyn.mk Ty.bool false]) else (R23_4 n (0) (x0) ds)))
def R23_4 : Nat → Int → List TyB3 × Int × Int × Unit → List Dyn → Prop
  | 0, _, _, _ => False
  | n + 1, v18, x0, ds => (if (decide (v18 < (↑(List.length x0.1) : Int))) = true then ((0 ≤ v18) ∧ (v18 < (↑(List.length x0.1) : Int)) ∧ (if (!g59_0 (List.getD x0.1 (Int.toNat v18) (0, 0, ())).1 1 3000000) = true then (ds = [Dyn.mk Ty.bool false]) else (if (!g59_0 (List.getD x0.1 (Int.toNat v18) (0, 0, ())).2.1 0 900) = true then (ds = [Dyn.mk Ty.bool false]) else ((InR .i64 (v18 + 1)) ∧ (R23_4 n (v18 + 1) (x0) ds))))) else ((P60 x0) ∧ (if (decide (g60_0 x0 ≤ 3000000)) = true then ((P60 x0) ∧ (if (g59_0 x0.2.1 0 (g60_0 x0)) = true then ((P60 x0) ∧ (ds = [Dyn.mk Ty.bool (g59_0 x0.2.2.1 x0.2.1 (g60_0 x0))])) else (ds = [Dyn.mk Ty.bool false]))) else (ds = [Dyn.mk Ty.bool false]))))
end
theorem p23_0 (x0 : List TyB3 × Int × Int × Unit) : runF tab ext23 false 52 [] 2000 [] oks23 kds23 tys23 Tryz.f23.results [true, true] [.code b23] (entE 0 0 sig23 (x0, ())) (entL sig23 (x0, ())) = some ([Dyn.mk Ty.bool false], [], [decide ((↑(List.length x0.1) : Int) < 1) = true, true = true]) := by kernel_rfl
theorem p23_1 (x0 : List TyB3 × Int × Int × Unit) : runF tab ext23 false 52 [] 2000 [] oks23 kds23 tys23 Tryz.f23.results [false, true] [.code b23] (entE 0 0 sig23 (x0, ())) (entL sig23 (x0, ())) = some ([Dyn.mk Ty.bool false], [], [decide ((↑(List.length x0.1) : Int) < 1) = false, decide ((↑(List.length x0.1) : Int) > 12) = true]) := by kernel_rfl
theorem p23_2 (x0 : List TyB3 × Int × Int × Unit) : Am.runN tab ext23 false 52 [] 2000 [] [] [1, 16, 17, 18] [0] [false, false] [.code b23] (entE 0 0 sig23 (x0, ())) (entL sig23 (x0, ())) = some (cutAt b23 4, E23_4 (0) (x0), L23_4 (0) (x0), [decide ((↑(List.length x0.1) : Int) < 1) = false, decide ((↑(List.length x0.1) : Int) > 12) = false]) := by kernel_rfl
theorem p23_3 (v18 : Int) (x0 : List TyB3 × Int × Int × Unit) : runF tab ext23 false 52 [] 2000 [] oks23 kds23 tys23 Tryz.f23.results [true, true, true] (cutAt b23 4) (E23_4 v18 x0) (L23_4 v18 x0) = some ([Dyn.mk Ty.bool false], [], [decide (v18 < (↑(List.length x0.1) : Int)) = true, 0 ≤ v18, v18 < (↑(List.length x0.1) : Int), True, (!g59_0 (List.getD x0.1 (Int.toNat v18) (0, 0, ())).1 1 3000000) = true, true = true]) := by kernel_rfl
theorem p23_4 (v18 : Int) (x0 : List TyB3 × Int × Int × Unit) : runF tab ext23 false 52 [] 2000 [] oks23 kds23 tys23 Tryz.f23.results [true, false, true] (cutAt b23 4) (E23_4 v18 x0) (L23_4 v18 x0) = some ([Dyn.mk Ty.bool false], [], [decide (v18 < (↑(List.length x0.1) : Int)) = true, 0 ≤ v18, v18 < (↑(List.length x0.1) : Int), True, (!g59_0 (List.getD x0.1 (Int.toNat v18) (0, 0, ())).1 1 3000000) = false, True, (!g59_0 (List.getD x0.1 (Int.toNat v18) (0, 0, ())).2.1 0 900) = true]) := by kernel_rfl
theorem p23_5 (v18 : Int) (x0 : List TyB3 × Int × Int × Unit) : Am.runN tab ext23 false 52 [] 2000 [] [] [1, 16, 17, 18] [0] [true, false, false] (cutAt b23 4) (E23_4 v18 x0) (L23_4 v18 x0) = some (cutAt b23 4, E23_4 (v18 + 1) (x0), L23_4 (v18 + 1) (x0), [decide (v18 < (↑(List.length x0.1) : Int)) = true, 0 ≤ v18, v18 < (↑(List.length x0.1) : Int), True, (!g59_0 (List.getD x0.1 (Int.toNat v18) (0, 0, ())).1 1 3000000) = false, True, (!g59_0 (List.getD x0.1 (Int.toNat v18) (0, 0, ())).2.1 0 900) = false, InR .i64 (v18 + 1)]) := by kernel_rfl
theorem p23_6 (v18 : Int) (x0 : List TyB3 × Int × Int × Unit) : runF tab ext23 false 52 [] 2000 [] oks23 kds23 tys23 Tryz.f23.results [false, true, true] (cutAt b23 4) (E23_4 v18 x0) (L23_4 v18 x0) = some ([Dyn.mk Ty.bool (g59_0 x0.2.2.1 x0.2.1 (g60_0 x0))], [], [decide (v18 < (↑(List.length x0.1) : Int)) = false, P60 x0, decide (g60_0 x0 ≤ 3000000) = true, P60 x0, True, g59_0 x0.2.1 0 (g60_0 x0) = true, P60 x0, True]) := by kernel_rfl
theorem p23_7 (v18 : Int) (x0 : List TyB3 × Int × Int × Unit) : runF tab ext23 false 52 [] 2000 [] oks23 kds23 tys23 Tryz.f23.results [false, true, false] (cutAt b23 4) (E23_4 v18 x0) (L23_4 v18 x0) = some ([Dyn.mk Ty.bool false], [], [decide (v18 < (↑(List.length x0.1) : Int)) = false, P60 x0, decide (g60_0 x0 ≤ 3000000) = true, P60 x0, True, g59_0 x0.2.1 0 (g60_0 x0) = false]) := by kernel_rfl
theorem p23_8 (v18 : Int) (x0 : List TyB3 × Int × Int × Unit) : runF tab ext23 false 52 [] 2000 [] oks23 kds23 tys23 Tryz.f23.results [false, false, false] (cutAt b23 4) (E23_4 v18 x0) (L23_4 v18 x0) = some ([Dyn.mk Ty.bool false], [], [decide (v18 < (↑(List.length x0.1) : Int)) = false, P60 x0, decide (g60_0 x0 ≤ 3000000) = false, false = false]) := by kernel_rfl
theorem snd23 : ∀ n, (∀ (x0 : List TyB3 × Int × Int × Unit) ds, R23 n x0 ds → ∀ K q, AtV Tryz.prog 23 (PostR kds23 oks23 ds [] [] q K) 52 K q [] [.code b23] (entE 0 0 sig23 (x0, ())) (entL sig23 (x0, ()))) ∧ (∀ (v18 : Int) (x0 : List TyB3 × Int × Int × Unit) ds, R23_4 n v18 x0 ds → ∀ K q, AtV Tryz.prog 23 (PostR kds23 oks23 ds [] [] q K) 52 K q [] (cutAt b23 4) (E23_4 v18 x0) (L23_4 v18 x0)) := by
  intro n
  induction n with
  | zero => exact ⟨fun _ _ h => by simp only [R23] at h, fun _ _ _ h => by simp only [R23_4] at h⟩
  | succ n ih =>
  obtain ⟨ih, ih4⟩ := ih
  refine ⟨?_, ?_⟩
  · intro x0 ds h K q
    rw [R23] at h
    by_cases b0 : (decide ((↑(List.length x0.1) : Int) < 1)) = true
    · rw [if_pos b0] at h
      subst h
      exact AtV.fin Tryz.func23 tabOk ext23Ok mixed (p23_0 x0) ⟨b0, rfl, trivial⟩
    · rw [if_neg b0] at h
      replace b0 := Bool.eq_false_iff.2 b0
      by_cases b1 : (decide ((↑(List.length x0.1) : Int) > 12)) = true
      · rw [if_pos b1] at h
        subst h
        exact AtV.fin Tryz.func23 tabOk ext23Ok mixed (p23_1 x0) ⟨b0, b1, trivial⟩
      · rw [if_neg b1] at h
        replace b1 := Bool.eq_false_iff.2 b1
        exact AtV.runN tabOk ext23Ok mixed (p23_2 x0) ⟨b0, b1, trivial⟩ (ih4 _ _ _ h K q)

  · intro v18 x0 ds h K q
    rw [R23_4] at h
    by_cases b0 : (decide (v18 < (↑(List.length x0.1) : Int))) = true
    · rw [if_pos b0] at h
      obtain ⟨s0, s1, h⟩ := h
      by_cases b1 : (!g59_0 (List.getD x0.1 (Int.toNat v18) (0, 0, ())).1 1 3000000) = true
      · rw [if_pos b1] at h
        subst h
        exact AtV.fin Tryz.func23 tabOk ext23Ok mixed (p23_3 v18 x0) ⟨b0, s0, s1, trivial, b1, rfl, trivial⟩
      · rw [if_neg b1] at h
        replace b1 := Bool.eq_false_iff.2 b1
        by_cases b2 : (!g59_0 (List.getD x0.1 (Int.toNat v18) (0, 0, ())).2.1 0 900) = true
        · rw [if_pos b2] at h
          subst h
          exact AtV.fin Tryz.func23 tabOk ext23Ok mixed (p23_4 v18 x0) ⟨b0, s0, s1, trivial, b1, trivial, b2, trivial⟩
        · rw [if_neg b2] at h
          replace b2 := Bool.eq_false_iff.2 b2
          obtain ⟨s2, h⟩ := h
          exact AtV.runN tabOk ext23Ok mixed (p23_5 v18 x0) ⟨b0, s0, s1, trivial, b1, trivial, b2, s2, trivial⟩ (ih4 _ _ _ h K q)
    · rw [if_neg b0] at h
      replace b0 := Bool.eq_false_iff.2 b0
      obtain ⟨s0, h⟩ := h
      by_cases b1 : (decide (g60_0 x0 ≤ 3000000)) = true
      · rw [if_pos b1] at h
        obtain ⟨s1, h⟩ := h
        by_cases b2 : (g59_0 x0.2.1 0 (g60_0 x0)) = true
        · rw [if_pos b2] at h
          obtain ⟨s2, h⟩ := h
          subst h
          exact AtV.fin Tryz.func23 tabOk ext23Ok mixed (p23_6 v18 x0) ⟨b0, s0, b1, s1, trivial, b2, s2, trivial, trivial⟩
        · rw [if_neg b2] at h
          replace b2 := Bool.eq_false_iff.2 b2
          subst h
          exact AtV.fin Tryz.func23 tabOk ext23Ok mixed (p23_7 v18 x0) ⟨b0, s0, b1, s1, trivial, b2, trivial⟩
      · rw [if_neg b1] at h
        replace b1 := Bool.eq_false_iff.2 b1
        subst h
        exact AtV.fin Tryz.func23 tabOk ext23Ok mixed (p23_8 v18 x0) ⟨b0, s0, b1, rfl, trivial⟩



def ok23 (x : TyB3) : Bool := g59_0 x.1 1 3000000 && g59_0 x.2.1 0 900
def fine23 (x0 : (List TyB3 × Int × Int × Unit)) : Bool := if decide (g60_0 x0 ≤ 3000000) = true then (if g59_0 x0.2.1 0 (g60_0 x0) = true then g59_0 x0.2.2.1 x0.2.1 (g60_0 x0) else false) else false
def g23_0 (x0 : (List TyB3 × Int × Int × Unit)) : Bool := x0.1.all ok23 && (decide (1 ≤ x0.1.length) && decide (x0.1.length ≤ 12)) && fine23 x0
def P23 (x0 : (List TyB3 × Int × Int × Unit)) : Prop := True

theorem in23 {x a b : Int} : g59_0 x a b = true ↔ a ≤ x ∧ x ≤ b := by
  unfold g59_0
  by_cases c1 : x ≥ a
  · by_cases c2 : x ≤ b
    · simp [c1, c2]
    · simp [c1, c2]
  · have : ¬ a ≤ x := c1
    simp [c1, this]

theorem lenp23 {x0 : (List TyB3 × Int × Int × Unit)} (h : x0.1.all ok23 = true) (hl : x0.1.length ≤ 12) : P60 x0 ∧ 0 ≤ g60_0 x0 ∧ g60_0 x0 ≤ 36000000 := by
  have hx : ∀ x ∈ x0.1, 0 ≤ x.1 ∧ x.1 ≤ 3000000 := fun x hx => by
    have := List.all_eq_true.1 h x hx
    unfold ok23 at this
    rw [Bool.and_eq_true] at this
    have := in23.1 this.1
    omega
  obtain ⟨s1, s2⟩ := sum60_le x0.1 hx
  refine ⟨⟨by omega, fun x h => by have := hx x h; omega⟩, s1, ?_⟩
  show sum60 x0.1 ≤ _
  omega

theorem run23 (x0 : (List TyB3 × Int × Int × Unit)) (hm : x0.1.length ≤ maxLen) (yes : List Dyn) (hend : ∀ n, x0.1.all ok23 = true → R23_4 (n + 1) (x0.1.length : Int) x0 yes) : ∀ (k i : Nat) (B : Bool), i + k = x0.1.length → (x0.1.drop i).all ok23 = B → (∀ j, j < i → ok23 (x0.1.getD j ((0 : Int), (0 : Int), ())) = true) →
    R23_4 (k + 1) (i : Int) x0 (if B = true then yes else [⟨.bool, false⟩]) := by
  intro k
  induction k with
  | zero =>
    intro i B hi hB hp
    have : i = x0.1.length := by omega
    subst this
    rw [drop_end _ _ (by omega)] at hB
    subst hB
    refine hend 0 (List.all_eq_true.2 fun x hx => ?_)
    obtain ⟨j, hj, rfl⟩ := List.getElem_of_mem hx
    have := hp j (by omega)
    rwa [getD_lt _ _ _ hj] at this
  | succ k ih =>
    intro i B hi hB hp
    have hlt : i < x0.1.length := by omega
    have hu := inR_up hm hlt
    rw [R23_4, if_pos (by simp only [decide_eq_true_eq]; omega)]
    rw [drop_get x0.1 i ((0 : Int), (0 : Int), ()) hlt, List.all_cons] at hB
    simp only [Int.toNat_natCast]
    refine ⟨by omega, by omega, ?_⟩
    by_cases h1 : ok23 (x0.1.getD i ((0 : Int), (0 : Int), ())) = true
    case neg =>
      have h1 := Bool.eq_false_iff.2 h1
      rw [h1, Bool.false_and] at hB
      subst hB
      by_cases c1 : g59_0 (x0.1.getD i ((0 : Int), (0 : Int), ())).1 1 3000000 = true
      · rw [if_neg (by rw [c1]; simp)]
        have c2 : g59_0 (x0.1.getD i ((0 : Int), (0 : Int), ())).2.1 0 900 = false := by
          unfold ok23 at h1; rw [c1] at h1; simpa using h1
        rw [if_pos (by rw [c2]; rfl)] <;> rfl
      · rw [if_pos (by rw [Bool.eq_false_iff.2 c1]; rfl)] <;> rfl
    case pos =>
      have hb := h1
      rw [h1, Bool.true_and] at hB
      unfold ok23 at hb
      rw [Bool.and_eq_true] at hb
      rw [if_neg (by rw [hb.1]; simp)]
      have e1 : (((i + 1 : Nat)) : Int) = (i : Int) + 1 := by omega
      have hnext := ih (i + 1) B (by omega) hB (fun j hj => by
        rcases Nat.lt_or_ge j i with h | h
        · exact hp j h
        · have : j = i := by omega
          subst this; exact h1)
      rw [e1] at hnext
      rw [if_neg (by rw [hb.2]; simp)]
      exact ⟨hu, hnext⟩

theorem end23 (x0 : (List TyB3 × Int × Int × Unit)) (d1 : 1 ≤ x0.1.length) (d2 : x0.1.length ≤ 12) (n : Nat) (h : x0.1.all ok23 = true) : R23_4 (n + 1) (x0.1.length : Int) x0 [⟨.bool, (decide (1 ≤ x0.1.length) && decide (x0.1.length ≤ 12)) && fine23 x0⟩] := by
  have hp := (lenp23 h d2).1
  rw [R23_4, if_neg (by simp), decide_eq_true d1, decide_eq_true d2]
  refine ⟨hp, ?_⟩
  unfold fine23
  split
  · refine ⟨hp, ?_⟩
    split
    · exact ⟨hp, rfl⟩
    · rfl
  · rfl

theorem top23 (x0 : (List TyB3 × Int × Int × Unit)) (hm : x0.1.length ≤ maxLen) : ∃ n, R23 n x0 [⟨.bool, g23_0 x0⟩] := by
  refine ⟨x0.1.length + 1 + 1, ?_⟩
  rw [R23]
  unfold g23_0
  by_cases c1 : (x0.1.length : Int) < 1
  · rw [if_pos (decide_eq_true c1)]
    have : ¬ 1 ≤ x0.1.length := by omega
    rw [decide_eq_false this, Bool.false_and, Bool.and_false, Bool.false_and]
  rw [if_neg (by simpa using c1)]
  by_cases c2 : (x0.1.length : Int) > 12
  · rw [if_pos (decide_eq_true c2)]
    have : ¬ x0.1.length ≤ 12 := by omega
    rw [decide_eq_false this, Bool.and_false, Bool.and_false, Bool.false_and]
  rw [if_neg (by simpa using c2)]
  have key := run23 x0 hm _ (end23 x0 (by omega) (by omega)) x0.1.length 0 _ (by omega) rfl (fun j hj => by omega)
  rw [List.drop_zero] at key
  cases h : x0.1.all ok23 with
  | true => rw [if_pos h] at key; rw [Bool.true_and]; exact key
  | false => rw [if_neg (by rw [h]; simp)] at key; exact key

def S23 : Am.Spec := { sig := sig23, pre := fun ⟨x0, _⟩ => P23 x0, res := fun ⟨x0, _⟩ => [⟨Ty.bool, g23_0 x0⟩] }
theorem con23 : Contract Tryz.prog 23 S23 := contract_of Tryz.func23 hb23 (Nat.le_of_ble_eq_true (by kernel_rfl)) (fun ⟨x0, _⟩ h hwf K q =>
  let ⟨n, hn⟩ := top23 x0 hwf.1.1.1
  (snd23 n).1 x0 _ hn K q)

end
end Go.Proofs.YthlhnglkechkaaaGreatDoor

/- Function 24 (impl.isWay): its runs between cut points. Written by a program of this repo (gen). -/
set_option linter.unusedVariables false
set_option linter.unusedSimpArgs false
set_option maxRecDepth 100000
namespace Go.Proofs.YthlhnglkechkaaaGreatDoor
open Go Go.Am Go.Proofs
noncomputable section
def ext24 : Ext := [(59, S59)]
theorem call24_59 : Callable Tryz.prog 59 := ⟨Tryz.f59, Tryz.func59, by kernel_rfl, by kernel_rfl⟩
theorem ext24Ok : ExtOk Tryz.prog ext24 := ⟨⟨call24_59, con59⟩, trivial⟩

noncomputable def b24 : Code := bodyOf Tryz.f24
theorem hb24 : Tryz.f24.body = some b24 := by kernel_rfl
def sig24 : List AT := [AT.v (Ty.int .i64)]
def tys24 : List Ty := [Ty.bool]
def kds24 : List RK := []
def oks24 : List AT := owns sig24
def P24 (x0 : Int) : Prop := True
def g24_0 (x0 : Int) : Bool := g59_0 x0 0 3000000
theorem p24_0 (x0 : Int) : runF tab ext24 false 5 [] 2000 [] oks24 kds24 tys24 Tryz.f24.results [] [.code b24] (entE 0 0 sig24 (x0, ())) (entL sig24 (x0, ())) = some ([Dyn.mk Ty.bool (g59_0 x0 0 3000000)], [], [True]) := by kernel_rfl
theorem at24 (x0 : Int) (h : P24 x0) (K : Ctx) (q : Nat → Value) : AtV Tryz.prog 24 (PostR kds24 oks24 [⟨Ty.bool, g24_0 x0⟩] [] [] q K) 5 K q [] [.code b24] (entE 0 0 sig24 (x0, ())) (entL sig24 (x0, ())) := by
  unfold P24 at h
  unfold g24_0
  exact AtV.fin Tryz.func24 tabOk ext24Ok mixed (p24_0 x0) ⟨trivial, trivial⟩

def S24 : Am.Spec := { sig := sig24, pre := fun ⟨x0, _⟩ => P24 x0, res := fun ⟨x0, _⟩ => [⟨Ty.bool, g24_0 x0⟩], kds := kds24 }
theorem con24 : Contract Tryz.prog 24 S24 := contract_of Tryz.func24 hb24 (Nat.le_of_ble_eq_true (by kernel_rfl)) (fun ⟨x0, _⟩ h _ K q => at24 x0 h K q)


end
end Go.Proofs.YthlhnglkechkaaaGreatDoor

/- Function 25 (impl.ValidBrake): its runs between cut points. Written by a program of this repo (gen). -/
set_option linter.unusedVariables false
set_option linter.unusedSimpArgs false
set_option maxRecDepth 100000
namespace Go.Proofs.YthlhnglkechkaaaGreatDoor
open Go Go.Am Go.Proofs
noncomputable section
def ext25 : Ext := [(59, S59)]
theorem call25_59 : Callable Tryz.prog 59 := ⟨Tryz.f59, Tryz.func59, by kernel_rfl, by kernel_rfl⟩
theorem ext25Ok : ExtOk Tryz.prog ext25 := ⟨⟨call25_59, con59⟩, trivial⟩

noncomputable def b25 : Code := bodyOf Tryz.f25
theorem hb25 : Tryz.f25.body = some b25 := by kernel_rfl
def sig25 : List AT := [AT.v (Ty.cons (Ty.int .i64) (Ty.cons (Ty.int .i64) Ty.unit))]
def tys25 : List Ty := [Ty.bool]
def kds25 : List RK := []
def oks25 : List AT := owns sig25
def P25 (x0 : Int × Int × Unit) : Prop := True
def g25_0 (x0 : Int × Int × Unit) : Bool := (if (g59_0 x0.1 0 100) = true then g59_0 x0.2.1 1 10000 else false)
theorem p25_0 (x0 : Int × Int × Unit) : runF tab ext25 false 11 [] 2000 [] oks25 kds25 tys25 Tryz.f25.results [true] [.code b25] (entE 0 0 sig25 (x0, ())) (entL sig25 (x0, ())) = some ([Dyn.mk Ty.bool (g59_0 x0.2.1 1 10000)], [], [True, g59_0 x0.1 0 100 = true, True]) := by kernel_rfl
theorem p25_1 (x0 : Int × Int × Unit) : runF tab ext25 false 11 [] 2000 [] oks25 kds25 tys25 Tryz.f25.results [false] [.code b25] (entE 0 0 sig25 (x0, ())) (entL sig25 (x0, ())) = some ([Dyn.mk Ty.bool false], [], [True, g59_0 x0.1 0 100 = false]) := by kernel_rfl
theorem at25 (x0 : Int × Int × Unit) (h : P25 x0) (K : Ctx) (q : Nat → Value) : AtV Tryz.prog 25 (PostR kds25 oks25 [⟨Ty.bool, g25_0 x0⟩] [] [] q K) 11 K q [] [.code b25] (entE 0 0 sig25 (x0, ())) (entL sig25 (x0, ())) := by
  unfold P25 at h
  unfold g25_0
  by_cases b0 : (g59_0 x0.1 0 100) = true
  · try simp only [if_pos b0] at h ⊢
    exact AtV.fin Tryz.func25 tabOk ext25Ok mixed (p25_0 x0) ⟨trivial, b0, trivial, trivial⟩
  · try simp only [if_neg b0] at h ⊢
    replace b0 := Bool.eq_false_iff.2 b0
    exact AtV.fin Tryz.func25 tabOk ext25Ok mixed (p25_1 x0) ⟨trivial, b0, trivial⟩

def S25 : Am.Spec := { sig := sig25, pre := fun ⟨x0, _⟩ => P25 x0, res := fun ⟨x0, _⟩ => [⟨Ty.bool, g25_0 x0⟩], kds := kds25 }
theorem con25 : Contract Tryz.prog 25 S25 := contract_of Tryz.func25 hb25 (Nat.le_of_ble_eq_true (by kernel_rfl)) (fun ⟨x0, _⟩ h _ K q => at25 x0 h K q)


end
end Go.Proofs.YthlhnglkechkaaaGreatDoor
