/- Several texts in one: the functions that this law reaches, and their laws. -/
import Derived.Test.YtmbkjhbindikkaaGreatDoorZ3A
import Derived.Test.YtmbkjhbindikkaaGreatDoorZ3B
import Derived.Test.YtmbkjhbindikkaaGreatDoorZ3C
import Derived.Test.YtmbkjhbindikkaaGreatDoorZ3D
import Derived.Lib.SliceRun
import Derived.Laws.AppendOwn
import Derived.WalkKit
import Derived.Deep.LoopGhost
import Derived.Lib.Walk
import Derived.Shelf.RegionOpenPlain
import Derived.Shelf.Strings.BuilderK
import Derived.Shelf.Strings.Builder1
import Derived.Lib.ItoaNum
import Derived.Lib.TrimByte
import Derived.Lib.Join

/- Function 110 (impl.isShare): its runs between cut points. Written by a program of this repo (gen). -/
set_option linter.unusedVariables false
set_option linter.unusedSimpArgs false
set_option maxRecDepth 100000
namespace Go.Proofs.YtmbkjhbindikkaaGreatDoor
open Go Go.Am Go.Proofs
noncomputable section
def ext110 : Ext := [(40, S40)]
theorem call110_40 : Callable Tryz.prog 40 := ⟨Tryz.f40, Tryz.func40, by kernel_rfl, by kernel_rfl⟩
theorem ext110Ok : ExtOk Tryz.prog ext110 := ⟨⟨call110_40, con40⟩, trivial⟩

noncomputable def b110 : Code := bodyOf Tryz.f110
theorem hb110 : Tryz.f110.body = some b110 := by kernel_rfl
def sig110 : List AT := [AT.v (Ty.int IntKind.i64)]
def tys110 : List Ty := [Ty.bool]
def kds110 : List RK := []
def oks110 : List AT := owns sig110
def P110 (x0 : Int) : Prop := True
def g110_0 (x0 : Int) : Bool := g40_0 x0 0 1000
theorem at110 (x0 : Int) (h : P110 x0) (K : Ctx) (q : Nat → Value) : AtV Tryz.prog 110 (PostR kds110 oks110 [⟨Ty.bool, g110_0 x0⟩] [] [] q K) 5 K q [] [.code b110] (entE 0 0 sig110 (x0, ())) (entL sig110 (x0, ())) := by
  unfold P110 at h
  unfold g110_0
  exact AtV.ret Tryz.func110 tabOk ext110Ok mixed false [] tys110 [] (a1 trivial trivial) (by kernel_rfl)

def S110 : Am.Spec := { sig := sig110, pre := fun ⟨x0, _⟩ => P110 x0, res := fun ⟨x0, _⟩ => [⟨Ty.bool, g110_0 x0⟩], kds := kds110 }
theorem con110 : Contract Tryz.prog 110 S110 := contract_of Tryz.func110 hb110 (Nat.le_of_ble_eq_true (by kernel_rfl)) (fun ⟨x0, _⟩ h _ K q => at110 x0 h K q)


end
end Go.Proofs.YtmbkjhbindikkaaGreatDoor

/- Function 81 (impl.isTest): its runs between cut points. Written by a program of this repo (gen). -/
set_option linter.unusedVariables false
set_option linter.unusedSimpArgs false
set_option maxRecDepth 100000
namespace Go.Proofs.YtmbkjhbindikkaaGreatDoor
open Go Go.Am Go.Proofs
noncomputable section
def ext81 : Ext := [(54, S54), (40, S40), (110, S110)]
theorem call81_54 : Callable Tryz.prog 54 := ⟨Tryz.f54, Tryz.func54, by kernel_rfl, by kernel_rfl⟩
theorem call81_40 : Callable Tryz.prog 40 := ⟨Tryz.f40, Tryz.func40, by kernel_rfl, by kernel_rfl⟩
theorem call81_110 : Callable Tryz.prog 110 := ⟨Tryz.f110, Tryz.func110, by kernel_rfl, by kernel_rfl⟩
theorem ext81Ok : ExtOk Tryz.prog ext81 := ⟨⟨call81_54, con54⟩, ⟨call81_40, con40⟩, ⟨call81_110, con110⟩, trivial⟩

noncomputable def b81 : Code := bodyOf Tryz.f81
theorem hb81 : Tryz.f81.body = some b81 := by kernel_rfl
def sig81 : List AT := [AT.v (Ty.cons (Ty.int IntKind.i64) (Ty.cons (Ty.int IntKind.i64) (Ty.cons (Ty.int IntKind.i64) Ty.unit)))]
def tys81 : List Ty := [Ty.bool]
def kds81 : List RK := []
def oks81 : List AT := owns sig81
def P81 (x0 : Int × Int × Int × Unit) : Prop := True
def g81_0 (x0 : Int × Int × Int × Unit) : Bool := (if (g54_0 (Prod.fst x0)) = true then (if (g40_0 (Prod.fst (Prod.snd x0)) 0 24000) = true then g110_0 (Prod.fst (Prod.snd (Prod.snd x0))) else Bool.false) else Bool.false)
theorem at81 (x0 : Int × Int × Int × Unit) (h : P81 x0) (K : Ctx) (q : Nat → Value) : AtV Tryz.prog 81 (PostR kds81 oks81 [⟨Ty.bool, g81_0 x0⟩] [] [] q K) 16 K q [] [.code b81] (entE 0 0 sig81 (x0, ())) (entL sig81 (x0, ())) := by
  unfold P81 at h
  unfold g81_0
  by_cases b0 : (g54_0 (Prod.fst x0)) = true
  · try simp only [if_pos b0] at h ⊢
    by_cases b1 : (g40_0 (Prod.fst (Prod.snd x0)) 0 24000) = true
    · try simp only [if_pos b1] at h ⊢
      exact AtV.ret Tryz.func81 tabOk ext81Ok mixed false [] tys81 [true, true] (a1 trivial (a1 b0 (a1 trivial (a1 b1 (a1 trivial trivial))))) (by kernel_rfl)
    · try simp only [if_neg b1] at h ⊢
      replace b1 := Bool.eq_false_iff.2 b1
      exact AtV.ret Tryz.func81 tabOk ext81Ok mixed false [] tys81 [true, false] (a1 trivial (a1 b0 (a1 trivial (a1 b1 trivial)))) (by kernel_rfl)
  · try simp only [if_neg b0] at h ⊢
    replace b0 := Bool.eq_false_iff.2 b0
    exact AtV.ret Tryz.func81 tabOk ext81Ok mixed false [] tys81 [false, false] (a1 trivial (a1 b0 (a1 (rfl : Bool.false = Bool.false) trivial))) (by kernel_rfl)

def S81 : Am.Spec := { sig := sig81, pre := fun ⟨x0, _⟩ => P81 x0, res := fun ⟨x0, _⟩ => [⟨Ty.bool, g81_0 x0⟩], kds := kds81 }
theorem con81 : Contract Tryz.prog 81 S81 := contract_of Tryz.func81 hb81 (Nat.le_of_ble_eq_true (by kernel_rfl)) (fun ⟨x0, _⟩ h _ K q => at81 x0 h K q)


end
end Go.Proofs.YtmbkjhbindikkaaGreatDoor

/- Function 53 (impl.areTests): its runs between cut points. Written by a program of this repo (gen). -/
set_option linter.unusedVariables false
set_option linter.unusedSimpArgs false
set_option maxRecDepth 100000
namespace Go.Proofs.YtmbkjhbindikkaaGreatDoor
open Go Go.Am Go.Proofs
noncomputable section
def ext53 : Ext := [(81, S81)]
theorem call53_81 : Callable Tryz.prog 81 := ⟨Tryz.f81, Tryz.func81, by kernel_rfl, by kernel_rfl⟩
theorem ext53Ok : ExtOk Tryz.prog ext53 := ⟨⟨call53_81, con81⟩, trivial⟩

noncomputable def b53 : Code := bodyOf Tryz.f53
theorem hb53 : Tryz.f53.body = some b53 := by kernel_rfl
def sig53 : List AT := [AT.v (Ty.sl (Ty.cons (Ty.int IntKind.i64) (Ty.cons (Ty.int IntKind.i64) (Ty.cons (Ty.int IntKind.i64) Ty.unit))))]
def tys53 : List Ty := [Ty.bool]
def kds53 : List RK := []
def oks53 : List AT := owns sig53
def E53_2 (v7 : Int) (x0 : List (Int × Int × Int × Unit)) : Env := [(0, PV.a (Atom.sl (Ty.cons (Ty.int IntKind.i64) (Ty.cons (Ty.int IntKind.i64) (Ty.cons (Ty.int IntKind.i64) Ty.unit))) x0)), (5, PV.a (Atom.sl (Ty.cons (Ty.int IntKind.i64) (Ty.cons (Ty.int IntKind.i64) (Ty.cons (Ty.int IntKind.i64) Ty.unit))) x0)), (6, PV.a (Atom.val (Value.int IntKind.i64 (↑(List.length x0) : Int)))), (7, PV.a (Atom.val (Value.int IntKind.i64 v7)))]
def L53_2 (v7 : Int) (x0 : List (Int × Int × Int × Unit)) : Heap := []
mutual
def R53 : Nat → List (Int × Int × Int × Unit) → List Dyn → Prop
  | 0, _, _ => False
  | n + 1, x0, ds => (R53_2 n (0) (x0) ds)
def R53_2 : Nat → Int → List (Int × Int × Int × Unit) → List Dyn → Prop
  | 0, _, _, _ => False
  | n + 1, v7, x0, ds => (if (Decidable.decide (v7 < (↑(List.length x0) : Int))) = true then ((0 ≤ v7) ∧ (v7 < (↑(List.length x0) : Int)) ∧ (if (!g81_0 (List.getD x0 (Int.toNat v7) (0, 0, 0, ()))) = true then (ds = [Dyn.mk Ty.bool Bool.false]) else (if (Decidable.decide (v7 > 0)) = true then ((InR IntKind.i64 (v7 - 1)) ∧ ((0 ≤ v7 - 1) ∧ (v7 - 1 < (↑(List.length x0) : Int)) ∧ (if (Decidable.decide (Prod.fst (List.getD x0 (Int.toNat v7) (0, 0, 0, ())) ≤ Prod.fst (List.getD x0 (Int.toNat (v7 - 1)) (0, 0, 0, ())))) = true then (ds = [Dyn.mk Ty.bool Bool.false]) else ((InR IntKind.i64 (v7 - 1)) ∧ ((0 ≤ v7 - 1) ∧ (v7 - 1 < (↑(List.length x0) : Int)) ∧ (if (Decidable.decide (Prod.fst (Prod.snd (List.getD x0 (Int.toNat v7) (0, 0, 0, ()))) < Prod.fst (Prod.snd (List.getD x0 (Int.toNat (v7 - 1)) (0, 0, 0, ()))))) = true then (ds = [Dyn.mk Ty.bool Bool.false]) else ((InR IntKind.i64 (v7 - 1)) ∧ ((0 ≤ v7 - 1) ∧ (v7 - 1 < (↑(List.length x0) : Int)) ∧ (if (Decidable.decide (Prod.fst (Prod.snd (Prod.snd (List.getD x0 (Int.toNat v7) (0, 0, 0, ())))) < Prod.fst (Prod.snd (Prod.snd (List.getD x0 (Int.toNat (v7 - 1)) (0, 0, 0, ())))))) = true then (ds = [Dyn.mk Ty.bool Bool.false]) else ((InR IntKind.i64 (v7 + 1)) ∧ (R53_2 n (v7 + 1) (x0) ds))))))))))) else ((InR IntKind.i64 (v7 + 1)) ∧ (R53_2 n (v7 + 1) (x0) ds))))) else (ds = [Dyn.mk Ty.bool Bool.true]))
end
theorem snd53 : ∀ n, (∀ (x0 : List (Int × Int × Int × Unit)) ds, R53 n x0 ds → ∀ K q, AtV Tryz.prog 53 (PostR kds53 oks53 ds [] [] q K) 51 K q [] [.code b53] (entE 0 0 sig53 (x0, ())) (entL sig53 (x0, ()))) ∧ (∀ (v7 : Int) (x0 : List (Int × Int × Int × Unit)) ds, R53_2 n v7 x0 ds → ∀ K q, AtV Tryz.prog 53 (PostR kds53 oks53 ds [] [] q K) 51 K q [] (cutAt b53 2) (E53_2 v7 x0) (L53_2 v7 x0)) := by
  intro n
  induction n with
  | zero => exact ⟨fun _ _ h => by simp only [R53] at h, fun _ _ _ h => by simp only [R53_2] at h⟩
  | succ n ih =>
  obtain ⟨ih, ih2⟩ := ih
  refine ⟨?_, ?_⟩
  · intro x0 ds h K q
    rw [R53] at h
    exact AtV.go tabOk ext53Ok mixed false [] [] [0, 5, 6, 7] [] [] trivial (ih2 _ _ _ h K q) (by kernel_rfl)

  · intro v7 x0 ds h K q
    rw [R53_2] at h
    by_cases b0 : (Decidable.decide (v7 < (↑(List.length x0) : Int))) = true
    · rw [if_pos b0] at h
      obtain ⟨s0, s1, h⟩ := h
      by_cases b1 : (!g81_0 (List.getD x0 (Int.toNat v7) (0, 0, 0, ()))) = true
      · rw [if_pos b1] at h
        subst h
        exact AtV.ret Tryz.func53 tabOk ext53Ok mixed false [] tys53 [true, true] (a1 b0 (a1 s0 (a1 s1 (a1 trivial (a1 b1 trivial))))) (by kernel_rfl)
      · rw [if_neg b1] at h
        replace b1 := Bool.eq_false_iff.2 b1
        by_cases b2 : (Decidable.decide (v7 > 0)) = true
        · rw [if_pos b2] at h
          obtain ⟨s2, h⟩ := h
          obtain ⟨s3, s4, h⟩ := h
          by_cases b3 : (Decidable.decide (Prod.fst (List.getD x0 (Int.toNat v7) (0, 0, 0, ())) ≤ Prod.fst (List.getD x0 (Int.toNat (v7 - 1)) (0, 0, 0, ())))) = true
          · rw [if_pos b3] at h
            subst h
            exact AtV.ret Tryz.func53 tabOk ext53Ok mixed false [] tys53 [true, false, true, true, true, true] (a1 b0 (a1 s0 (a1 s1 (a1 trivial (a1 b1 (a1 b2 (a1 s2 (a1 s3 (a1 s4 (a1 b3 (a1 (rfl : Bool.true = Bool.true) (a1 (rfl : Bool.true = Bool.true) trivial)))))))))))) (by kernel_rfl)
          · rw [if_neg b3] at h
            replace b3 := Bool.eq_false_iff.2 b3
            obtain ⟨s5, h⟩ := h
            obtain ⟨s6, s7, h⟩ := h
            by_cases b4 : (Decidable.decide (Prod.fst (Prod.snd (List.getD x0 (Int.toNat v7) (0, 0, 0, ()))) < Prod.fst (Prod.snd (List.getD x0 (Int.toNat (v7 - 1)) (0, 0, 0, ()))))) = true
            · rw [if_pos b4] at h
              subst h
              exact AtV.ret Tryz.func53 tabOk ext53Ok mixed false [] tys53 [true, false, true, false, true, true] (a1 b0 (a1 s0 (a1 s1 (a1 trivial (a1 b1 (a1 b2 (a1 s2 (a1 s3 (a1 s4 (a1 b3 (a1 s5 (a1 s6 (a1 s7 (a1 b4 (a1 (rfl : Bool.true = Bool.true) trivial))))))))))))))) (by kernel_rfl)
            · rw [if_neg b4] at h
              replace b4 := Bool.eq_false_iff.2 b4
              obtain ⟨s8, h⟩ := h
              obtain ⟨s9, s10, h⟩ := h
              by_cases b5 : (Decidable.decide (Prod.fst (Prod.snd (Prod.snd (List.getD x0 (Int.toNat v7) (0, 0, 0, ())))) < Prod.fst (Prod.snd (Prod.snd (List.getD x0 (Int.toNat (v7 - 1)) (0, 0, 0, ())))))) = true
              · rw [if_pos b5] at h
                subst h
                exact AtV.ret Tryz.func53 tabOk ext53Ok mixed false [] tys53 [true, false, true, false, false, true] (a1 b0 (a1 s0 (a1 s1 (a1 trivial (a1 b1 (a1 b2 (a1 s2 (a1 s3 (a1 s4 (a1 b3 (a1 s5 (a1 s6 (a1 s7 (a1 b4 (a1 s8 (a1 s9 (a1 s10 (a1 b5 trivial)))))))))))))))))) (by kernel_rfl)
              · rw [if_neg b5] at h
                replace b5 := Bool.eq_false_iff.2 b5
                obtain ⟨s11, h⟩ := h
                exact AtV.go tabOk ext53Ok mixed false [] [] [0, 5, 6, 7] [] [true, false, true, false, false, false] (a1 b0 (a1 s0 (a1 s1 (a1 trivial (a1 b1 (a1 b2 (a1 s2 (a1 s3 (a1 s4 (a1 b3 (a1 s5 (a1 s6 (a1 s7 (a1 b4 (a1 s8 (a1 s9 (a1 s10 (a1 b5 (a1 s11 trivial))))))))))))))))))) (ih2 _ _ _ h K q) (by kernel_rfl)
        · rw [if_neg b2] at h
          replace b2 := Bool.eq_false_iff.2 b2
          obtain ⟨s2, h⟩ := h
          exact AtV.go tabOk ext53Ok mixed false [] [] [0, 5, 6, 7] [] [true, false, false, false] (a1 b0 (a1 s0 (a1 s1 (a1 trivial (a1 b1 (a1 b2 (a1 (rfl : Bool.false = Bool.false) (a1 s2 trivial)))))))) (ih2 _ _ _ h K q) (by kernel_rfl)
    · rw [if_neg b0] at h
      replace b0 := Bool.eq_false_iff.2 b0
      subst h
      exact AtV.ret Tryz.func53 tabOk ext53Ok mixed false [] tys53 [false] (a1 b0 trivial) (by kernel_rfl)



def ord53 (y x : (Int × Int × Int × Unit)) : Bool := decide (y.1 < x.1) && decide (y.2.1 ≤ x.2.1) && decide (y.2.2.1 ≤ x.2.2.1)
def ok53 (x0 : List (Int × Int × Int × Unit)) (i : Nat) (x : (Int × Int × Int × Unit)) : Bool := g81_0 x && (i == 0 || ord53 (x0.getD (i - 1) ((0 : Int), (0 : Int), (0 : Int), ())) x)
def g53_0 (x0 : List (Int × Int × Int × Unit)) : Bool := allI (ok53 x0) 0 x0
def P53 (x0 : List (Int × Int × Int × Unit)) : Prop := True

theorem step53 (n i : Nat) (x0 : List (Int × Int × Int × Unit)) (hm : x0.length ≤ maxLen) (hi : i < x0.length) (ds : List Dyn)
    (h : if ok53 x0 i (x0.getD i ((0 : Int), (0 : Int), (0 : Int), ())) = true then R53_2 n ((i : Int) + 1) x0 ds else ds = [⟨.bool, false⟩]) : R53_2 (n + 1) (i : Int) x0 ds := by
  have hu := inR_up hm hi
  have hmx : maxLen ≤ 9223372036854775807 := by decide
  rw [R53_2, if_pos (by simp; omega)]
  refine ⟨by omega, by omega, ?_⟩
  simp only [Int.toNat_natCast]
  unfold ok53 ord53 at h
  by_cases hv : g81_0 (x0.getD i ((0 : Int), (0 : Int), (0 : Int), ())) = true
  case neg => rw [Bool.eq_false_iff.2 hv] at h; rw [if_pos (by rw [Bool.eq_false_iff.2 hv]; rfl)]; simpa using h
  rw [if_neg (by rw [hv]; simp)]
  rw [hv] at h
  by_cases h0 : (i : Int) > 0
  case neg =>
    rw [if_neg (by simpa using h0)]
    have hi0 : (i == 0) = true := by simp; omega
    rw [hi0] at h
    exact ⟨hu, by simpa using h⟩
  rw [if_pos (by simpa using h0)]
  have hi0 : (i == 0) = false := by simp; omega
  have e : ((i : Int) - 1).toNat = i - 1 := by omega
  have hd : InR .i64 ((i : Int) - 1) := by rw [i64_iff]; omega
  rw [hi0] at h
  simp only [e]
  refine ⟨hd, by omega, by omega, ?_⟩
  by_cases c0 : (x0.getD i ((0 : Int), (0 : Int), (0 : Int), ())).1 ≤ (x0.getD (i - 1) ((0 : Int), (0 : Int), (0 : Int), ())).1
  case pos =>
    rw [if_pos (decide_eq_true c0)]
    have : decide ((x0.getD (i - 1) ((0 : Int), (0 : Int), (0 : Int), ())).1 < (x0.getD i ((0 : Int), (0 : Int), (0 : Int), ())).1) = false := decide_eq_false (by omega)
    rw [this] at h
    simpa using h
  rw [if_neg (by simpa using c0)]
  refine ⟨hd, by omega, by omega, ?_⟩
  by_cases c1 : (x0.getD i ((0 : Int), (0 : Int), (0 : Int), ())).2.1 < (x0.getD (i - 1) ((0 : Int), (0 : Int), (0 : Int), ())).2.1
  case pos =>
    rw [if_pos (decide_eq_true c1)]
    have : decide ((x0.getD (i - 1) ((0 : Int), (0 : Int), (0 : Int), ())).2.1 ≤ (x0.getD i ((0 : Int), (0 : Int), (0 : Int), ())).2.1) = false := decide_eq_false (by omega)
    rw [this] at h
    simpa using h
  rw [if_neg (by simpa using c1)]
  refine ⟨hd, by omega, by omega, ?_⟩
  by_cases c2 : (x0.getD i ((0 : Int), (0 : Int), (0 : Int), ())).2.2.1 < (x0.getD (i - 1) ((0 : Int), (0 : Int), (0 : Int), ())).2.2.1
  case pos =>
    rw [if_pos (decide_eq_true c2)]
    have : decide ((x0.getD (i - 1) ((0 : Int), (0 : Int), (0 : Int), ())).2.2.1 ≤ (x0.getD i ((0 : Int), (0 : Int), (0 : Int), ())).2.2.1) = false := decide_eq_false (by omega)
    rw [this] at h
    simpa using h
  rw [if_neg (by simpa using c2)]
  have d0 : decide ((x0.getD (i - 1) ((0 : Int), (0 : Int), (0 : Int), ())).1 < (x0.getD i ((0 : Int), (0 : Int), (0 : Int), ())).1) = true := decide_eq_true (by omega)
  have d1 : decide ((x0.getD (i - 1) ((0 : Int), (0 : Int), (0 : Int), ())).2.1 ≤ (x0.getD i ((0 : Int), (0 : Int), (0 : Int), ())).2.1) = true := decide_eq_true (by omega)
  have d2 : decide ((x0.getD (i - 1) ((0 : Int), (0 : Int), (0 : Int), ())).2.2.1 ≤ (x0.getD i ((0 : Int), (0 : Int), (0 : Int), ())).2.2.1) = true := decide_eq_true (by omega)
  rw [d0, d1, d2] at h
  exact ⟨hu, by simpa using h⟩

theorem top53 (x0 : List (Int × Int × Int × Unit)) (hw : x0.length ≤ maxLen) : R53 (x0.length + 1 + 1) x0 [⟨.bool, g53_0 x0⟩] := by
  rw [R53]
  have key := loop_testI x0 ((0 : Int), (0 : Int), (0 : Int), ()) (ok53 x0) [(⟨.bool, false⟩ : Dyn)] [⟨.bool, true⟩] (fun n i ds => R53_2 n i x0 ds) (fun n => ?_) (fun n i hi hok ds hr => ?_) (fun n i hi hok => ?_)
  · unfold g53_0
    cases h : allI (ok53 x0) 0 x0 with
    | true => rw [if_pos h] at key; simpa using key
    | false => rw [if_neg (by rw [h]; simp)] at key; simpa using key
  · rw [R53_2, if_neg (by simp)]
  · exact step53 n i x0 hw hi ds (by rw [if_pos hok]; exact hr)
  · exact step53 n i x0 hw hi _ (by rw [if_neg (by rw [hok]; simp)])

def S53 : Am.Spec := { sig := sig53, pre := fun ⟨x0, _⟩ => P53 x0, res := fun ⟨x0, _⟩ => [⟨Ty.bool, g53_0 x0⟩] }
theorem con53 : Contract Tryz.prog 53 S53 := contract_of Tryz.func53 hb53 (Nat.le_of_ble_eq_true (by kernel_rfl)) (fun ⟨x0, _⟩ h hwf K q =>
  (snd53 _).1 x0 _ (top53 x0 hwf.1.1) K q)

end
end Go.Proofs.YtmbkjhbindikkaaGreatDoor

/- Function 24 (impl.ValidTests): its runs between cut points. Written by a program of this repo (gen). -/
set_option linter.unusedVariables false
set_option linter.unusedSimpArgs false
set_option maxRecDepth 100000
namespace Go.Proofs.YtmbkjhbindikkaaGreatDoor
open Go Go.Am Go.Proofs
noncomputable section
def ext24 : Ext := [(53, S53)]
theorem call24_53 : Callable Tryz.prog 53 := ⟨Tryz.f53, Tryz.func53, by kernel_rfl, by kernel_rfl⟩
theorem ext24Ok : ExtOk Tryz.prog ext24 := ⟨⟨call24_53, con53⟩, trivial⟩

noncomputable def b24 : Code := bodyOf Tryz.f24
theorem hb24 : Tryz.f24.body = some b24 := by kernel_rfl
def sig24 : List AT := [AT.v (Ty.sl (Ty.cons (Ty.int IntKind.i64) (Ty.cons (Ty.int IntKind.i64) (Ty.cons (Ty.int IntKind.i64) Ty.unit))))]
def tys24 : List Ty := [Ty.bool]
def kds24 : List RK := []
def oks24 : List AT := owns sig24
def P24 (x0 : List (Int × Int × Int × Unit)) : Prop := True
def g24_0 (x0 : List (Int × Int × Int × Unit)) : Bool := (if (g53_0 x0) = true then Decidable.decide ((↑(List.length x0) : Int) ≤ 24) else Bool.false)
theorem at24 (x0 : List (Int × Int × Int × Unit)) (h : P24 x0) (K : Ctx) (q : Nat → Value) : AtV Tryz.prog 24 (PostR kds24 oks24 [⟨Ty.bool, g24_0 x0⟩] [] [] q K) 10 K q [] [.code b24] (entE 0 0 sig24 (x0, ())) (entL sig24 (x0, ())) := by
  unfold P24 at h
  unfold g24_0
  by_cases b0 : (g53_0 x0) = true
  · try simp only [if_pos b0] at h ⊢
    exact AtV.ret Tryz.func24 tabOk ext24Ok mixed false [] tys24 [true] (a1 trivial (a1 b0 trivial)) (by kernel_rfl)
  · try simp only [if_neg b0] at h ⊢
    replace b0 := Bool.eq_false_iff.2 b0
    exact AtV.ret Tryz.func24 tabOk ext24Ok mixed false [] tys24 [false] (a1 trivial (a1 b0 trivial)) (by kernel_rfl)

def S24 : Am.Spec := { sig := sig24, pre := fun ⟨x0, _⟩ => P24 x0, res := fun ⟨x0, _⟩ => [⟨Ty.bool, g24_0 x0⟩], kds := kds24 }
theorem con24 : Contract Tryz.prog 24 S24 := contract_of Tryz.func24 hb24 (Nat.le_of_ble_eq_true (by kernel_rfl)) (fun ⟨x0, _⟩ h _ K q => at24 x0 h K q)


end
end Go.Proofs.YtmbkjhbindikkaaGreatDoor

/- Function 111 (impl.monthLength): its runs between cut points. Written by a program of this repo (gen). -/
set_option linter.unusedVariables false
set_option linter.unusedSimpArgs false
set_option maxRecDepth 100000
namespace Go.Proofs.YtmbkjhbindikkaaGreatDoor
open Go Go.Am Go.Proofs
noncomputable section
def ext111 : Ext := []
theorem ext111Ok : ExtOk Tryz.prog ext111 := trivial

noncomputable def b111 : Code := bodyOf Tryz.f111
theorem hb111 : Tryz.f111.body = some b111 := by kernel_rfl
def sig111 : List AT := [AT.v (Ty.int IntKind.i64), AT.v (Ty.int IntKind.i64)]
def tys111 : List Ty := [Ty.int IntKind.i64]
def kds111 : List RK := []
def oks111 : List AT := owns sig111
def P111 (x0 : Int) (x1 : Int) : Prop := (if (x1 == 2) = true then ((InR IntKind.i64 (Int.tmod x0 4)) ∧ True) else True)
def g111_0 (x0 : Int) (x1 : Int) : Int := (if (x1 == 2) = true then (if (Int.tmod x0 4 == 0) = true then 29 else 28) else (if (x1 == 4) = true then 30 else (if (x1 == 6) = true then 30 else (if (x1 == 9) = true then 30 else (if (x1 == 11) = true then 30 else 31)))))
theorem at111 (x0 : Int) (x1 : Int) (h : P111 x0 x1) (K : Ctx) (q : Nat → Value) : AtV Tryz.prog 111 (PostR kds111 oks111 [⟨Ty.int IntKind.i64, g111_0 x0 x1⟩] [] [] q K) 16 K q [] [.code b111] (entE 0 0 sig111 (x0, x1, ())) (entL sig111 (x0, x1, ())) := by
  unfold P111 at h
  unfold g111_0
  by_cases b0 : (x1 == 2) = true
  · try simp only [if_pos b0] at h ⊢
    obtain ⟨s0, h⟩ := h
    by_cases b1 : (Int.tmod x0 4 == 0) = true
    · try simp only [if_pos b1] at h ⊢
      exact AtV.ret Tryz.func111 tabOk ext111Ok mixed false [] tys111 [true, true] (a1 b0 (a1 ((by decide) : (4 : Int) ≠ (0 : Int)) (a1 s0 (a1 b1 trivial)))) (by kernel_rfl)
    · try simp only [if_neg b1] at h ⊢
      replace b1 := Bool.eq_false_iff.2 b1
      exact AtV.ret Tryz.func111 tabOk ext111Ok mixed false [] tys111 [true, false] (a1 b0 (a1 ((by decide) : (4 : Int) ≠ (0 : Int)) (a1 s0 (a1 b1 trivial)))) (by kernel_rfl)
  · try simp only [if_neg b0] at h ⊢
    replace b0 := Bool.eq_false_iff.2 b0
    by_cases b1 : (x1 == 4) = true
    · try simp only [if_pos b1] at h ⊢
      exact AtV.ret Tryz.func111 tabOk ext111Ok mixed false [] tys111 [false, true] (a1 b0 (a1 b1 trivial)) (by kernel_rfl)
    · try simp only [if_neg b1] at h ⊢
      replace b1 := Bool.eq_false_iff.2 b1
      by_cases b2 : (x1 == 6) = true
      · try simp only [if_pos b2] at h ⊢
        exact AtV.ret Tryz.func111 tabOk ext111Ok mixed false [] tys111 [false, false, true] (a1 b0 (a1 b1 (a1 b2 trivial))) (by kernel_rfl)
      · try simp only [if_neg b2] at h ⊢
        replace b2 := Bool.eq_false_iff.2 b2
        by_cases b3 : (x1 == 9) = true
        · try simp only [if_pos b3] at h ⊢
          exact AtV.ret Tryz.func111 tabOk ext111Ok mixed false [] tys111 [false, false, false, true] (a1 b0 (a1 b1 (a1 b2 (a1 b3 trivial)))) (by kernel_rfl)
        · try simp only [if_neg b3] at h ⊢
          replace b3 := Bool.eq_false_iff.2 b3
          by_cases b4 : (x1 == 11) = true
          · try simp only [if_pos b4] at h ⊢
            exact AtV.ret Tryz.func111 tabOk ext111Ok mixed false [] tys111 [false, false, false, false, true] (a1 b0 (a1 b1 (a1 b2 (a1 b3 (a1 b4 trivial))))) (by kernel_rfl)
          · try simp only [if_neg b4] at h ⊢
            replace b4 := Bool.eq_false_iff.2 b4
            exact AtV.ret Tryz.func111 tabOk ext111Ok mixed false [] tys111 [false, false, false, false, false] (a1 b0 (a1 b1 (a1 b2 (a1 b3 (a1 b4 trivial))))) (by kernel_rfl)

def S111 : Am.Spec := { sig := sig111, pre := fun ⟨x0, x1, _⟩ => P111 x0 x1, res := fun ⟨x0, x1, _⟩ => [⟨Ty.int IntKind.i64, g111_0 x0 x1⟩], kds := kds111 }
theorem con111 : Contract Tryz.prog 111 S111 := contract_of Tryz.func111 hb111 (Nat.le_of_ble_eq_true (by kernel_rfl)) (fun ⟨x0, x1, _⟩ h _ K q => at111 x0 x1 h K q)


end
end Go.Proofs.YtmbkjhbindikkaaGreatDoor

/- Function 82 (impl.dayOf): its runs between cut points. Written by a program of this repo (gen). -/
set_option linter.unusedVariables false
set_option linter.unusedSimpArgs false
set_option maxRecDepth 100000
namespace Go.Proofs.YtmbkjhbindikkaaGreatDoor
open Go Go.Am Go.Proofs
noncomputable section
def ext82 : Ext := [(111, S111)]
theorem call82_111 : Callable Tryz.prog 111 := ⟨Tryz.f111, Tryz.func111, by kernel_rfl, by kernel_rfl⟩
theorem ext82Ok : ExtOk Tryz.prog ext82 := ⟨⟨call82_111, con111⟩, trivial⟩

noncomputable def b82 : Code := bodyOf Tryz.f82
theorem hb82 : Tryz.f82.body = some b82 := by kernel_rfl
def sig82 : List AT := [AT.v (Ty.int IntKind.i64), AT.v (Ty.int IntKind.i64), AT.v (Ty.int IntKind.i64)]
def tys82 : List Ty := [Ty.int IntKind.i64]
def kds82 : List RK := []
def oks82 : List AT := owns sig82
def E82_3 (v7 : Int) (v8 : Int) (x0 : Int) (x1 : Int) : Env := [(0, PV.a (Atom.val (Value.int IntKind.i64 x0))), (1, PV.a (Atom.val (Value.int IntKind.i64 x1))), (7, PV.a (Atom.val (Value.int IntKind.i64 v7))), (8, PV.a (Atom.val (Value.int IntKind.i64 v8)))]
def L82_3 (v7 : Int) (v8 : Int) (x0 : Int) (x1 : Int) : Heap := []
mutual
def R82 : Nat → Int → Int → Int → List Dyn → Prop
  | 0, _, _, _, _ => False
  | n + 1, x0, x1, x2, ds => ((InR IntKind.i64 (x0 - 2000)) ∧ ((InR IntKind.i64 ((x0 - 2000) * 365)) ∧ ((InR IntKind.i64 (x0 - 1997)) ∧ ((InR IntKind.i64 (Int.tdiv (x0 - 1997) 4)) ∧ ((InR IntKind.i64 ((x0 - 2000) * 365 + Int.tdiv (x0 - 1997) 4)) ∧ ((InR IntKind.i64 ((x0 - 2000) * 365 + Int.tdiv (x0 - 1997) 4 + x2)) ∧ ((InR IntKind.i64 ((x0 - 2000) * 365 + Int.tdiv (x0 - 1997) 4 + x2 - 1)) ∧ (R82_3 n ((x0 - 2000) * 365 + Int.tdiv (x0 - 1997) 4 + x2 - 1) (1) (x0) (x1) ds))))))))
def R82_3 : Nat → Int → Int → Int → Int → List Dyn → Prop
  | 0, _, _, _, _, _ => False
  | n + 1, v7, v8, x0, x1, ds => (if (Decidable.decide (v8 < x1)) = true then ((P111 x0 v8) ∧ ((InR IntKind.i64 (v7 + g111_0 x0 v8)) ∧ ((InR IntKind.i64 (v8 + 1)) ∧ (R82_3 n (v7 + g111_0 x0 v8) (v8 + 1) (x0) (x1) ds)))) else (ds = [Dyn.mk (Ty.int IntKind.i64) v7]))
end
theorem snd82 : ∀ n, (∀ (x0 : Int) (x1 : Int) (x2 : Int) ds, R82 n x0 x1 x2 ds → ∀ K q, AtV Tryz.prog 82 (PostR kds82 oks82 ds [] [] q K) 30 K q [] [.code b82] (entE 0 0 sig82 (x0, x1, x2, ())) (entL sig82 (x0, x1, x2, ()))) ∧ (∀ (v7 : Int) (v8 : Int) (x0 : Int) (x1 : Int) ds, R82_3 n v7 v8 x0 x1 ds → ∀ K q, AtV Tryz.prog 82 (PostR kds82 oks82 ds [] [] q K) 30 K q [] (cutAt b82 3) (E82_3 v7 v8 x0 x1) (L82_3 v7 v8 x0 x1)) := by
  intro n
  induction n with
  | zero => exact ⟨fun _ _ _ _ h => by simp only [R82] at h, fun _ _ _ _ _ h => by simp only [R82_3] at h⟩
  | succ n ih =>
  obtain ⟨ih, ih3⟩ := ih
  refine ⟨?_, ?_⟩
  · intro x0 x1 x2 ds h K q
    rw [R82] at h
    obtain ⟨s0, h⟩ := h
    obtain ⟨s1, h⟩ := h
    obtain ⟨s2, h⟩ := h
    obtain ⟨s3, h⟩ := h
    obtain ⟨s4, h⟩ := h
    obtain ⟨s5, h⟩ := h
    obtain ⟨s6, h⟩ := h
    exact AtV.go tabOk ext82Ok mixed false [] [] [0, 1, 7, 8] [] [] (a1 s0 (a1 s1 (a1 s2 (a1 ((by decide) : (4 : Int) ≠ (0 : Int)) (a1 s3 (a1 s4 (a1 s5 (a1 s6 trivial)))))))) (ih3 _ _ _ _ _ h K q) (by kernel_rfl)

  · intro v7 v8 x0 x1 ds h K q
    rw [R82_3] at h
    by_cases b0 : (Decidable.decide (v8 < x1)) = true
    · rw [if_pos b0] at h
      obtain ⟨s0, h⟩ := h
      obtain ⟨s1, h⟩ := h
      obtain ⟨s2, h⟩ := h
      exact AtV.go tabOk ext82Ok mixed false [] [] [0, 1, 7, 8] [] [true] (a1 b0 (a1 s0 (a1 s1 (a1 s2 trivial)))) (ih3 _ _ _ _ _ h K q) (by kernel_rfl)
    · rw [if_neg b0] at h
      replace b0 := Bool.eq_false_iff.2 b0
      subst h
      exact AtV.ret Tryz.func82 tabOk ext82Ok mixed false [] tys82 [false] (a1 b0 trivial) (by kernel_rfl)



def ms82 (y : Int) : Nat → Int
  | 0 => 0
  | k + 1 => ms82 y k + g111_0 y ((k : Int) + 1)
def bs82 (y d : Int) : Int := (y - 2000) * 365 + Int.tdiv (y - 1997) 4 + d - 1
def g82_0 (x0 x1 x2 : Int) : Int := bs82 x0 x2 + ms82 x0 (x1 - 1).toNat
def P82 (x0 x1 x2 : Int) : Prop := (2000 ≤ x0 ∧ x0 ≤ 2099) ∧ (1 ≤ x1 ∧ x1 ≤ 12) ∧ (1 ≤ x2 ∧ x2 ≤ 31)

theorem len82 {y m : Int} (hy : 2000 ≤ y ∧ y ≤ 2099) : P111 y m ∧ 28 ≤ g111_0 y m ∧ g111_0 y m ≤ 31 := by
  have e : Int.tmod y 4 = y % 4 := Int.tmod_eq_emod_of_nonneg (by omega)
  unfold P111 g111_0
  rw [e]
  have hi : InR .i64 (y % 4) := by rw [i64_iff]; omega
  refine ⟨?_, ?_, ?_⟩
  · split
    · exact ⟨hi, trivial⟩
    · trivial
  · repeat' split
    all_goals omega
  · repeat' split
    all_goals omega

theorem msb82 {y : Int} (hy : 2000 ≤ y ∧ y ≤ 2099) : ∀ k, 0 ≤ ms82 y k ∧ ms82 y k ≤ 31 * k
  | 0 => by simp [ms82]
  | k + 1 => by
    have := msb82 hy k
    have := len82 hy (m := (k : Int) + 1)
    simp only [ms82]
    omega

theorem runM82 {y m : Int} (hy : 2000 ≤ y ∧ y ≤ 2099) (hm : 1 ≤ m ∧ m ≤ 12) (v : Int) (hv : 0 ≤ v ∧ v ≤ 1000000) : ∀ (k i : Nat), (i : Int) + k = m - 1 →
    R82_3 (k + 1) (v + ms82 y i) ((i : Int) + 1) y m [⟨.int .i64, v + ms82 y (m - 1).toNat⟩] := by
  intro k
  induction k with
  | zero =>
    intro i hi
    rw [R82_3, if_neg (by simp; omega), show (m - 1).toNat = i by omega]
  | succ k ih =>
    intro i hi
    obtain ⟨p, l1, l2⟩ := len82 hy (m := (i : Int) + 1)
    obtain ⟨b1, b2⟩ := msb82 hy i
    rw [R82_3, if_pos (by simp; omega)]
    have e1 : v + ms82 y i + g111_0 y ((i : Int) + 1) = v + ms82 y (i + 1) := by simp only [ms82]; omega
    have e2 : (i : Int) + 1 + 1 = ((i + 1 : Nat) : Int) + 1 := by omega
    refine ⟨p, by rw [i64_iff]; omega, by rw [i64_iff]; omega, ?_⟩
    rw [e1, e2]
    exact ih (i + 1) (by omega)

theorem top82 (x0 x1 x2 : Int) (h : P82 x0 x1 x2) : R82 ((x1 - 1).toNat + 1 + 1) x0 x1 x2 [⟨.int .i64, g82_0 x0 x1 x2⟩] := by
  obtain ⟨h0, h1, h2⟩ := h
  have e : Int.tdiv (x0 - 1997) 4 = (x0 - 1997) / 4 := Int.tdiv_eq_ediv_of_nonneg (by omega)
  rw [R82]
  have := runM82 h0 h1 (bs82 x0 x2) (by unfold bs82; rw [e]; omega) (x1 - 1).toNat 0 (by omega)
  refine ⟨by rw [i64_iff]; omega, by rw [i64_iff]; omega, by rw [i64_iff]; omega, by rw [i64_iff, e]; omega, by rw [i64_iff, e]; omega, by rw [i64_iff, e]; omega, by rw [i64_iff, e]; omega, ?_⟩
  simpa [ms82, g82_0, bs82] using this

def S82 : Am.Spec := { sig := sig82, pre := fun ⟨x0, x1, x2, _⟩ => P82 x0 x1 x2, res := fun ⟨x0, x1, x2, _⟩ => [⟨.int .i64, g82_0 x0 x1 x2⟩] }
theorem con82 : Contract Tryz.prog 82 S82 := contract_of Tryz.func82 hb82 (Nat.le_of_ble_eq_true (by kernel_rfl)) (fun ⟨x0, x1, x2, _⟩ h hwf K q =>
  (snd82 _).1 x0 x1 x2 _ (top82 x0 x1 x2 h) K q)

end
end Go.Proofs.YtmbkjhbindikkaaGreatDoor

/- Function 55 (impl.dateOf): its runs between cut points. Written by a program of this repo (gen). -/
set_option linter.unusedVariables false
set_option linter.unusedSimpArgs false
set_option maxRecDepth 100000
namespace Go.Proofs.YtmbkjhbindikkaaGreatDoor
open Go Go.Am Go.Proofs
noncomputable section
def ext55 : Ext := [(82, S82)]
theorem call55_82 : Callable Tryz.prog 82 := ⟨Tryz.f82, Tryz.func82, by kernel_rfl, by kernel_rfl⟩
theorem ext55Ok : ExtOk Tryz.prog ext55 := ⟨⟨call55_82, con82⟩, trivial⟩

noncomputable def b55 : Code := bodyOf Tryz.f55
theorem hb55 : Tryz.f55.body = some b55 := by kernel_rfl
def sig55 : List AT := [AT.v (Ty.int IntKind.i64)]
def tys55 : List Ty := [Ty.int IntKind.i64, Ty.int IntKind.i64, Ty.int IntKind.i64]
def kds55 : List RK := []
def oks55 : List AT := owns sig55
def E55_2 (v5 : Int) (x0 : Int) : Env := [(0, PV.a (Atom.val (Value.int IntKind.i64 x0))), (5, PV.a (Atom.val (Value.int IntKind.i64 v5))), (6, PV.a (Atom.val (Value.int IntKind.i64 1)))]
def L55_2 (v5 : Int) (x0 : Int) : Heap := []
def E55_4 (v6 : Int) (x0 : Int) (v5 : Int) : Env := [(0, PV.a (Atom.val (Value.int IntKind.i64 x0))), (5, PV.a (Atom.val (Value.int IntKind.i64 v5))), (6, PV.a (Atom.val (Value.int IntKind.i64 v6)))]
def L55_4 (v6 : Int) (x0 : Int) (v5 : Int) : Heap := []
mutual
def R55 : Nat → Int → List Dyn → Prop
  | 0, _, _ => False
  | n + 1, x0, ds => (R55_2 n (2000) (x0) ds)
def R55_2 : Nat → Int → Int → List Dyn → Prop
  | 0, _, _, _ => False
  | n + 1, v5, x0, ds => (if (Decidable.decide (v5 < 2099)) = true then ((InR IntKind.i64 (v5 + 1)) ∧ ((P82 (v5 + 1) 1 1) ∧ (if (Decidable.decide (g82_0 (v5 + 1) 1 1 ≤ x0)) = true then ((InR IntKind.i64 (v5 + 1)) ∧ (R55_2 n (v5 + 1) (x0) ds)) else (R55_4 n (1) (x0) (v5) ds)))) else (R55_4 n (1) (x0) (v5) ds))
def R55_4 : Nat → Int → Int → Int → List Dyn → Prop
  | 0, _, _, _, _ => False
  | n + 1, v6, x0, v5, ds => (if (Decidable.decide (v6 < 12)) = true then ((InR IntKind.i64 (v6 + 1)) ∧ ((P82 v5 (v6 + 1) 1) ∧ (if (Decidable.decide (g82_0 v5 (v6 + 1) 1 ≤ x0)) = true then ((InR IntKind.i64 (v6 + 1)) ∧ (R55_4 n (v6 + 1) (x0) (v5) ds)) else ((P82 v5 v6 1) ∧ ((InR IntKind.i64 (x0 - g82_0 v5 v6 1)) ∧ ((InR IntKind.i64 (x0 - g82_0 v5 v6 1 + 1)) ∧ (ds = [Dyn.mk (Ty.int IntKind.i64) v5, Dyn.mk (Ty.int IntKind.i64) v6, Dyn.mk (Ty.int IntKind.i64) (x0 - g82_0 v5 v6 1 + 1)]))))))) else ((P82 v5 v6 1) ∧ ((InR IntKind.i64 (x0 - g82_0 v5 v6 1)) ∧ ((InR IntKind.i64 (x0 - g82_0 v5 v6 1 + 1)) ∧ (ds = [Dyn.mk (Ty.int IntKind.i64) v5, Dyn.mk (Ty.int IntKind.i64) v6, Dyn.mk (Ty.int IntKind.i64) (x0 - g82_0 v5 v6 1 + 1)])))))
end
theorem snd55 : ∀ n, (∀ (x0 : Int) ds, R55 n x0 ds → ∀ K q, AtV Tryz.prog 55 (PostR kds55 oks55 ds [] [] q K) 38 K q [] [.code b55] (entE 0 0 sig55 (x0, ())) (entL sig55 (x0, ()))) ∧ (∀ (v5 : Int) (x0 : Int) ds, R55_2 n v5 x0 ds → ∀ K q, AtV Tryz.prog 55 (PostR kds55 oks55 ds [] [] q K) 38 K q [] (cutAt b55 2) (E55_2 v5 x0) (L55_2 v5 x0)) ∧ (∀ (v6 : Int) (x0 : Int) (v5 : Int) ds, R55_4 n v6 x0 v5 ds → ∀ K q, AtV Tryz.prog 55 (PostR kds55 oks55 ds [] [] q K) 38 K q [] (cutAt b55 4) (E55_4 v6 x0 v5) (L55_4 v6 x0 v5)) := by
  intro n
  induction n with
  | zero => exact ⟨fun _ _ h => by simp only [R55] at h, fun _ _ _ h => by simp only [R55_2] at h, fun _ _ _ _ h => by simp only [R55_4] at h⟩
  | succ n ih =>
  obtain ⟨ih, ih2, ih4⟩ := ih
  refine ⟨?_, ?_, ?_⟩
  · intro x0 ds h K q
    rw [R55] at h
    exact AtV.go tabOk ext55Ok mixed false [] [] [0, 5, 6] [] [] trivial (ih2 _ _ _ h K q) (by kernel_rfl)

  · intro v5 x0 ds h K q
    rw [R55_2] at h
    by_cases b0 : (Decidable.decide (v5 < 2099)) = true
    · rw [if_pos b0] at h
      obtain ⟨s0, h⟩ := h
      obtain ⟨s1, h⟩ := h
      by_cases b1 : (Decidable.decide (g82_0 (v5 + 1) 1 1 ≤ x0)) = true
      · rw [if_pos b1] at h
        obtain ⟨s2, h⟩ := h
        exact AtV.go tabOk ext55Ok mixed false [] [] [0, 5, 6] [] [true, true] (a1 b0 (a1 s0 (a1 s1 (a1 b1 (a1 s2 trivial))))) (ih2 _ _ _ h K q) (by kernel_rfl)
      · rw [if_neg b1] at h
        replace b1 := Bool.eq_false_iff.2 b1
        exact AtV.go tabOk ext55Ok mixed false [] [] [0, 5, 6] [] [true, false] (a1 b0 (a1 s0 (a1 s1 (a1 b1 trivial)))) (ih4 _ _ _ _ h K q) (by kernel_rfl)
    · rw [if_neg b0] at h
      replace b0 := Bool.eq_false_iff.2 b0
      exact AtV.go tabOk ext55Ok mixed false [] [] [0, 5, 6] [] [false, false] (a1 b0 (a1 (rfl : Bool.false = Bool.false) trivial)) (ih4 _ _ _ _ h K q) (by kernel_rfl)

  · intro v6 x0 v5 ds h K q
    rw [R55_4] at h
    by_cases b0 : (Decidable.decide (v6 < 12)) = true
    · rw [if_pos b0] at h
      obtain ⟨s0, h⟩ := h
      obtain ⟨s1, h⟩ := h
      by_cases b1 : (Decidable.decide (g82_0 v5 (v6 + 1) 1 ≤ x0)) = true
      · rw [if_pos b1] at h
        obtain ⟨s2, h⟩ := h
        exact AtV.go tabOk ext55Ok mixed false [] [] [0, 5, 6] [] [true, true] (a1 b0 (a1 s0 (a1 s1 (a1 b1 (a1 s2 trivial))))) (ih4 _ _ _ _ h K q) (by kernel_rfl)
      · rw [if_neg b1] at h
        replace b1 := Bool.eq_false_iff.2 b1
        obtain ⟨s2, h⟩ := h
        obtain ⟨s3, h⟩ := h
        obtain ⟨s4, h⟩ := h
        subst h
        exact AtV.ret Tryz.func55 tabOk ext55Ok mixed false [] tys55 [true, false] (a1 b0 (a1 s0 (a1 s1 (a1 b1 (a1 s2 (a1 s3 (a1 s4 trivial))))))) (by kernel_rfl)
    · rw [if_neg b0] at h
      replace b0 := Bool.eq_false_iff.2 b0
      obtain ⟨s0, h⟩ := h
      obtain ⟨s1, h⟩ := h
      obtain ⟨s2, h⟩ := h
      subst h
      exact AtV.ret Tryz.func55 tabOk ext55Ok mixed false [] tys55 [false, false] (a1 b0 (a1 (rfl : Bool.false = Bool.false) (a1 s0 (a1 s1 (a1 s2 trivial))))) (by kernel_rfl)



def yr55 (day : Int) : Nat → Int → Int
  | 0, y => y
  | k + 1, y => if g82_0 (y + 1) 1 1 ≤ day then yr55 day k (y + 1) else y
def mo55 (day y : Int) : Nat → Int → Int
  | 0, m => m
  | k + 1, m => if g82_0 y (m + 1) 1 ≤ day then mo55 day y k (m + 1) else m
def g55_0 (x0 : Int) : Int := yr55 x0 99 2000
def g55_1 (x0 : Int) : Int := mo55 x0 (g55_0 x0) 11 1
def g55_2 (x0 : Int) : Int := x0 - g82_0 (g55_0 x0) (g55_1 x0) 1 + 1
def P55 (x0 : Int) : Prop := 0 ≤ x0 ∧ x0 ≤ 1000000

theorem day55 {y m : Int} (hy : 2000 ≤ y ∧ y ≤ 2099) (hm : 1 ≤ m ∧ m ≤ 12) : P82 y m 1 ∧ 0 ≤ g82_0 y m 1 ∧ g82_0 y m 1 ≤ 1000000 := by
  have e : Int.tdiv (y - 1997) 4 = (y - 1997) / 4 := Int.tdiv_eq_ediv_of_nonneg (by omega)
  have := msb82 hy (m - 1).toNat
  refine ⟨⟨hy, hm, by omega⟩, ?_, ?_⟩ <;> unfold g82_0 bs82 <;> rw [e] <;> omega

theorem runM55 {y day : Int} (hy : 2000 ≤ y ∧ y ≤ 2099) (hd : 0 ≤ day ∧ day ≤ 1000000) (e : Nat) : ∀ (k : Nat) (m : Int), m + k = 12 → 1 ≤ m →
    R55_4 (k + 1 + e) m day y [⟨.int .i64, y⟩, ⟨.int .i64, mo55 day y k m⟩, ⟨.int .i64, day - g82_0 y (mo55 day y k m) 1 + 1⟩] := by
  intro k
  induction k with
  | zero =>
    intro m hm h1
    obtain ⟨p, b1, b2⟩ := day55 hy (m := m) (by omega)
    rw [show 0 + 1 + e = e + 1 by omega, R55_4, if_neg (by simp; omega)]
    exact ⟨p, by rw [i64_iff]; omega, by rw [i64_iff]; omega, rfl⟩
  | succ k ih =>
    intro m hm h1
    obtain ⟨p, b1, b2⟩ := day55 hy (m := m) (by omega)
    obtain ⟨q, c1, c2⟩ := day55 hy (m := m + 1) (by omega)
    rw [show k + 1 + 1 + e = (k + 1 + e) + 1 by omega, R55_4, if_pos (by simp; omega)]
    refine ⟨by rw [i64_iff]; omega, q, ?_⟩
    unfold mo55
    by_cases hc : g82_0 y (m + 1) 1 ≤ day
    · rw [if_pos (by simpa using hc), if_pos hc]
      exact ⟨by rw [i64_iff]; omega, ih (m + 1) (by omega) (by omega)⟩
    · rw [if_neg (by simpa using hc), if_neg hc]
      exact ⟨p, by rw [i64_iff]; omega, by rw [i64_iff]; omega, rfl⟩

theorem runY55 {day : Int} (hd : 0 ≤ day ∧ day ≤ 1000000) : ∀ (k : Nat) (y : Int), y + k = 2099 → 2000 ≤ y →
    R55_2 (k + 1 + 12) y day [⟨.int .i64, yr55 day k y⟩, ⟨.int .i64, mo55 day (yr55 day k y) 11 1⟩, ⟨.int .i64, day - g82_0 (yr55 day k y) (mo55 day (yr55 day k y) 11 1) 1 + 1⟩] := by
  intro k
  induction k with
  | zero =>
    intro y hy h1
    rw [show 0 + 1 + 12 = (11 + 1 + 0) + 1 by omega, R55_2, if_neg (by simp; omega)]
    exact runM55 (by omega) hd 0 11 1 (by omega) (by omega)
  | succ k ih =>
    intro y hy h1
    obtain ⟨q, c1, c2⟩ := day55 (y := y + 1) (m := 1) (by omega) (by omega)
    rw [show k + 1 + 1 + 12 = (k + 1 + 12) + 1 by omega, R55_2, if_pos (by simp; omega)]
    refine ⟨by rw [i64_iff]; omega, q, ?_⟩
    unfold yr55
    by_cases hc : g82_0 (y + 1) 1 1 ≤ day
    · rw [if_pos (by simpa using hc), if_pos hc]
      exact ⟨by rw [i64_iff]; omega, ih (y + 1) (by omega) (by omega)⟩
    · rw [if_neg (by simpa using hc), if_neg hc, show k + 1 + 12 = 11 + 1 + (k + 1) by omega]
      exact runM55 (by omega) hd (k + 1) 11 1 (by omega) (by omega)

theorem top55 (x0 : Int) (h : P55 x0) : R55 (99 + 1 + 12 + 1) x0 [⟨.int .i64, g55_0 x0⟩, ⟨.int .i64, g55_1 x0⟩, ⟨.int .i64, g55_2 x0⟩] := by
  rw [R55]
  exact runY55 h 99 2000 (by omega) (by omega)

def S55 : Am.Spec := { sig := sig55, pre := fun ⟨x0, _⟩ => P55 x0, res := fun ⟨x0, _⟩ => [⟨.int .i64, g55_0 x0⟩, ⟨.int .i64, g55_1 x0⟩, ⟨.int .i64, g55_2 x0⟩] }
theorem con55 : Contract Tryz.prog 55 S55 := contract_of Tryz.func55 hb55 (Nat.le_of_ble_eq_true (by kernel_rfl)) (fun ⟨x0, _⟩ h hwf K q =>
  (snd55 _).1 x0 _ (top55 x0 h) K q)

end
end Go.Proofs.YtmbkjhbindikkaaGreatDoor

/- Function 25 (impl.DateText): its runs between cut points. Written by a program of this repo (gen). -/
set_option linter.unusedVariables false
set_option linter.unusedSimpArgs false
set_option maxRecDepth 100000
namespace Go.Proofs.YtmbkjhbindikkaaGreatDoor
open Go Go.Am Go.Proofs
noncomputable section
def ext25 : Ext := [(54, S54), (55, S55), (20, S20), (42, S42)]
theorem call25_54 : Callable Tryz.prog 54 := ⟨Tryz.f54, Tryz.func54, by kernel_rfl, by kernel_rfl⟩
theorem call25_55 : Callable Tryz.prog 55 := ⟨Tryz.f55, Tryz.func55, by kernel_rfl, by kernel_rfl⟩
theorem call25_20 : Callable Tryz.prog 20 := ⟨Tryz.f20, Tryz.func20, by kernel_rfl, by kernel_rfl⟩
theorem call25_42 : Callable Tryz.prog 42 := ⟨Tryz.f42, Tryz.func42, by kernel_rfl, by kernel_rfl⟩
theorem ext25Ok : ExtOk Tryz.prog ext25 := ⟨⟨call25_54, con54⟩, ⟨call25_55, con55⟩, ⟨call25_20, con20⟩, ⟨call25_42, con42⟩, trivial⟩

noncomputable def b25 : Code := bodyOf Tryz.f25
theorem hb25 : Tryz.f25.body = some b25 := by kernel_rfl
def sig25 : List AT := [AT.v (Ty.int IntKind.i64)]
def tys25 : List Ty := [Ty.str]
def kds25 : List RK := []
def oks25 : List AT := owns sig25
def P25 (x0 : Int) : Prop := (if (!g54_0 x0) = true then True else ((P55 x0) ∧ ((P20 (g55_0 x0)) ∧ ((ByteArray.size (g20_0 (g55_0 x0)) + 1 ≤ 9223372036854775807) ∧ ((P42 (g55_1 x0) 2) ∧ ((ByteArray.size (g20_0 (g55_0 x0) ++ ByteArray.mk #[45]) + ByteArray.size (g42_0 (g55_1 x0) 2) ≤ 9223372036854775807) ∧ ((ByteArray.size (g20_0 (g55_0 x0) ++ ByteArray.mk #[45] ++ g42_0 (g55_1 x0) 2) + 1 ≤ 9223372036854775807) ∧ ((P42 (g55_2 x0) 2) ∧ ((ByteArray.size (g20_0 (g55_0 x0) ++ ByteArray.mk #[45] ++ g42_0 (g55_1 x0) 2 ++ ByteArray.mk #[45]) + ByteArray.size (g42_0 (g55_2 x0) 2) ≤ 9223372036854775807) ∧ True)))))))))
def g25_0 (x0 : Int) : ByteArray := (if (!g54_0 x0) = true then ByteArray.mk #[] else g20_0 (g55_0 x0) ++ ByteArray.mk #[45] ++ g42_0 (g55_1 x0) 2 ++ ByteArray.mk #[45] ++ g42_0 (g55_2 x0) 2)
theorem at25 (x0 : Int) (h : P25 x0) (K : Ctx) (q : Nat → Value) : AtV Tryz.prog 25 (PostR kds25 oks25 [⟨Ty.str, g25_0 x0⟩] [] [] q K) 25 K q [] [.code b25] (entE 0 0 sig25 (x0, ())) (entL sig25 (x0, ())) := by
  unfold P25 at h
  unfold g25_0
  by_cases b0 : (!g54_0 x0) = true
  · try simp only [if_pos b0] at h ⊢
    exact AtV.ret Tryz.func25 tabOk ext25Ok mixed false [] tys25 [true] (a1 trivial (a1 b0 trivial)) (by kernel_rfl)
  · try simp only [if_neg b0] at h ⊢
    replace b0 := Bool.eq_false_iff.2 b0
    obtain ⟨s0, h⟩ := h
    obtain ⟨s1, h⟩ := h
    obtain ⟨s2, h⟩ := h
    obtain ⟨s3, h⟩ := h
    obtain ⟨s4, h⟩ := h
    obtain ⟨s5, h⟩ := h
    obtain ⟨s6, h⟩ := h
    obtain ⟨s7, h⟩ := h
    exact AtV.ret Tryz.func25 tabOk ext25Ok mixed false [] tys25 [false] (a1 trivial (a1 b0 (a1 s0 (a1 s1 (a1 s2 (a1 s3 (a1 s4 (a1 s5 (a1 s6 (a1 s7 trivial)))))))))) (by kernel_rfl)

def S25 : Am.Spec := { sig := sig25, pre := fun ⟨x0, _⟩ => P25 x0, res := fun ⟨x0, _⟩ => [⟨Ty.str, g25_0 x0⟩], kds := kds25 }
theorem con25 : Contract Tryz.prog 25 S25 := contract_of Tryz.func25 hb25 (Nat.le_of_ble_eq_true (by kernel_rfl)) (fun ⟨x0, _⟩ h _ K q => at25 x0 h K q)


end
end Go.Proofs.YtmbkjhbindikkaaGreatDoor

/- Function 9 (impl.WearReport): its runs between cut points. Written by a program of this repo (gen). -/
set_option linter.unusedVariables false
set_option linter.unusedSimpArgs false
set_option maxRecDepth 100000
namespace Go.Proofs.YtmbkjhbindikkaaGreatDoor
open Go Go.Am Go.Proofs
noncomputable section
def ext9 : Ext := [(24, S24), (25, S25), (20, S20), (21, S21)]
theorem call9_24 : Callable Tryz.prog 24 := ⟨Tryz.f24, Tryz.func24, by kernel_rfl, by kernel_rfl⟩
theorem call9_25 : Callable Tryz.prog 25 := ⟨Tryz.f25, Tryz.func25, by kernel_rfl, by kernel_rfl⟩
theorem call9_20 : Callable Tryz.prog 20 := ⟨Tryz.f20, Tryz.func20, by kernel_rfl, by kernel_rfl⟩
theorem call9_21 : Callable Tryz.prog 21 := ⟨Tryz.f21, Tryz.func21, by kernel_rfl, by kernel_rfl⟩
theorem ext9Ok : ExtOk Tryz.prog ext9 := ⟨⟨call9_24, con24⟩, ⟨call9_25, con25⟩, ⟨call9_20, con20⟩, ⟨call9_21, con21⟩, trivial⟩

noncomputable def b9 : Code := bodyOf Tryz.f9
theorem hb9 : Tryz.f9.body = some b9 := by kernel_rfl
def sig9 : List AT := [AT.v (Ty.sl (Ty.cons (Ty.int IntKind.i64) (Ty.cons (Ty.int IntKind.i64) (Ty.cons (Ty.int IntKind.i64) Ty.unit))))]
def tys9 : List Ty := [Ty.sl Ty.str, Ty.int IntKind.i64]
def kds9 : List RK := []
def oks9 : List AT := owns sig9
def E9_5 (v14 : Int) (h0 : List (List ByteArray)) (x0 : List (Int × Int × Int × Unit)) : Env := [(4, PV.a (Atom.osl 0 Option.none)), (12, PV.a (Atom.sl (Ty.cons (Ty.int IntKind.i64) (Ty.cons (Ty.int IntKind.i64) (Ty.cons (Ty.int IntKind.i64) Ty.unit))) x0)), (13, PV.a (Atom.val (Value.int IntKind.i64 (↑(List.length x0) : Int)))), (14, PV.a (Atom.val (Value.int IntKind.i64 v14)))]
def L9_5 (v14 : Int) (h0 : List (List ByteArray)) (x0 : List (Int × Int × Int × Unit)) : Heap := [Option.some (Arr.mk (Ty.sl Ty.str) h0 Bool.true Option.none Option.none)]
mutual
def R9 : Nat → List (Int × Int × Int × Unit) → List Dyn → Prop
  | 0, _, _ => False
  | n + 1, x0, ds => (if (!g24_0 x0) = true then (ds = [Dyn.mk (Ty.sl Ty.str) [], Dyn.mk (Ty.int IntKind.i64) 1]) else (R9_5 n (0) ([[ByteArray.mk #[100, 97, 121], ByteArray.mk #[98, 114, 111, 107, 101, 110], ByteArray.mk #[119, 111, 114, 110]]]) (x0) ds))
def R9_5 : Nat → Int → List (List ByteArray) → List (Int × Int × Int × Unit) → List Dyn → Prop
  | 0, _, _, _, _ => False
  | n + 1, v14, h0, x0, ds => (if (Decidable.decide (v14 < (↑(List.length x0) : Int))) = true then ((0 ≤ v14) ∧ (v14 < (↑(List.length x0) : Int)) ∧ ((P25 (Prod.fst (List.getD x0 (Int.toNat v14) (0, 0, 0, ())))) ∧ ((P20 (Prod.fst (Prod.snd (List.getD x0 (Int.toNat v14) (0, 0, 0, ()))))) ∧ ((P20 (Prod.fst (Prod.snd (Prod.snd (List.getD x0 (Int.toNat v14) (0, 0, 0, ())))))) ∧ (((List.length h0 + 1) * 24 ≤ 140737488355328) ∧ ((InR IntKind.i64 (v14 + 1)) ∧ (R9_5 n (v14 + 1) (h0 ++ [[g25_0 (Prod.fst (List.getD x0 (Int.toNat v14) (0, 0, 0, ()))), g20_0 (Prod.fst (Prod.snd (List.getD x0 (Int.toNat v14) (0, 0, 0, ())))), g20_0 (Prod.fst (Prod.snd (Prod.snd (List.getD x0 (Int.toNat v14) (0, 0, 0, ())))))]]) (x0) ds))))))) else ((P21 h0) ∧ (ds = [Dyn.mk (Ty.sl Ty.str) (g21_0 h0), Dyn.mk (Ty.int IntKind.i64) (g21_1 h0)])))
end
theorem snd9 : ∀ n, (∀ (x0 : List (Int × Int × Int × Unit)) ds, R9 n x0 ds → ∀ K q, AtV Tryz.prog 9 (PostR kds9 oks9 ds [] [] q K) 36 K q [] [.code b9] (entE 0 0 sig9 (x0, ())) (entL sig9 (x0, ()))) ∧ (∀ (v14 : Int) (h0 : List (List ByteArray)) (x0 : List (Int × Int × Int × Unit)) ds, R9_5 n v14 h0 x0 ds → ∀ K q, AtV Tryz.prog 9 (PostR kds9 oks9 ds [] [] q K) 36 K q [] (cutAt b9 5) (E9_5 v14 h0 x0) (L9_5 v14 h0 x0)) := by
  intro n
  induction n with
  | zero => exact ⟨fun _ _ h => by simp only [R9] at h, fun _ _ _ _ h => by simp only [R9_5] at h⟩
  | succ n ih =>
  obtain ⟨ih, ih5⟩ := ih
  refine ⟨?_, ?_⟩
  · intro x0 ds h K q
    rw [R9] at h
    by_cases b0 : (!g24_0 x0) = true
    · rw [if_pos b0] at h
      subst h
      exact AtV.ret Tryz.func9 tabOk ext9Ok mixed false [] tys9 [true] (a1 trivial (a1 b0 trivial)) (by kernel_rfl)
    · rw [if_neg b0] at h
      replace b0 := Bool.eq_false_iff.2 b0
      exact AtV.go tabOk ext9Ok mixed false [] [] [4, 12, 13, 14] [1] [false] (a1 trivial (a1 b0 trivial)) (ih5 _ _ _ _ h K q) (by kernel_rfl)

  · intro v14 h0 x0 ds h K q
    rw [R9_5] at h
    by_cases b0 : (Decidable.decide (v14 < (↑(List.length x0) : Int))) = true
    · rw [if_pos b0] at h
      obtain ⟨s0, s1, h⟩ := h
      obtain ⟨s2, h⟩ := h
      obtain ⟨s3, h⟩ := h
      obtain ⟨s4, h⟩ := h
      obtain ⟨s5, h⟩ := h
      obtain ⟨s6, h⟩ := h
      exact AtV.go tabOk ext9Ok mixed false [] [] [4, 12, 13, 14] [0] [true] (a1 b0 (a1 s0 (a1 s1 (a1 s2 (a1 s3 (a1 s4 (a1 s5 (a1 s6 trivial)))))))) (ih5 _ _ _ _ h K q) (by kernel_rfl)
    · rw [if_neg b0] at h
      replace b0 := Bool.eq_false_iff.2 b0
      obtain ⟨s0, h⟩ := h
      subst h
      exact AtV.ret Tryz.func9 tabOk ext9Ok mixed false [] tys9 [false] (a1 b0 (a1 s0 trivial)) (by kernel_rfl)



def hd9 : List ByteArray := [ByteArray.mk #[100, 97, 121], ByteArray.mk #[98, 114, 111, 107, 101, 110], ByteArray.mk #[119, 111, 114, 110]]
def rw9 (f : Int × Int × Int × Unit) : List ByteArray := [g25_0 f.1, g20_0 f.2.1, g20_0 f.2.2.1]
def P9 (x0 : List (Int × Int × Int × Unit)) : Prop := g24_0 x0 = true → x0.length ≤ 1000 ∧ ∀ f ∈ x0, P25 f.1 ∧ P20 f.2.1 ∧ P20 f.2.2.1 ∧ ∀ c ∈ rw9 f, c.size ≤ 4000000
def g9_0 (x0 : List (Int × Int × Int × Unit)) : List ByteArray := if g24_0 x0 = true then g21_0 (hd9 :: x0.map rw9) else []
def g9_1 (x0 : List (Int × Int × Int × Unit)) : Int := if g24_0 x0 = true then g21_1 (hd9 :: x0.map rw9) else 1

theorem pre9 {x0 : List (Int × Int × Int × Unit)} (hl : x0.length ≤ 1000) (hc : ∀ f ∈ x0, ∀ c ∈ rw9 f, c.size ≤ 4000000) : P21 (hd9 :: x0.map rw9) := by
  refine ⟨by simp only [List.length_cons, List.length_map]; omega, fun r hr => ?_⟩
  rcases List.mem_cons.1 hr with rfl | hr
  · exact ⟨by decide, by decide⟩
  · obtain ⟨f, hf, rfl⟩ := List.mem_map.1 hr
    exact ⟨by show 3 ≤ 12; decide, hc f hf⟩

theorem run9 (x0 : List (Int × Int × Int × Unit)) (hl : x0.length ≤ 1000) (hc : ∀ f ∈ x0, P25 f.1 ∧ P20 f.2.1 ∧ P20 f.2.2.1 ∧ ∀ c ∈ rw9 f, c.size ≤ 4000000) : ∀ (k i : Nat), i + k = x0.length →
    R9_5 (k + 1) (i : Int) (hd9 :: (x0.take i).map rw9) x0 [⟨.sl .str, g21_0 (hd9 :: x0.map rw9)⟩, ⟨.int .i64, g21_1 (hd9 :: x0.map rw9)⟩] := by
  intro k
  induction k with
  | zero =>
    intro i hi
    rw [R9_5, if_neg (by simp only [decide_eq_true_eq]; omega), List.take_of_length_le (by omega)]
    exact ⟨pre9 hl (fun f hf => (hc f hf).2.2.2), rfl⟩
  | succ k ih =>
    intro i hi
    have hlt : i < x0.length := by omega
    have h := ih (i + 1) (by omega)
    have e1 : (((i + 1 : Nat)) : Int) = (i : Int) + 1 := by omega
    rw [e1] at h
    have hm := mem_getD x0 i ((0 : Int), (0 : Int), (0 : Int), ()) hlt
    rw [R9_5, if_pos (by simp only [decide_eq_true_eq]; omega)]
    simp only [Int.toNat_natCast]
    refine ⟨by omega, by omega, (hc _ hm).1, (hc _ hm).2.1, (hc _ hm).2.2.1, ?_, by rw [i64_iff]; omega, ?_⟩
    · simp only [List.length_cons, List.length_map, List.length_take]; omega
    · have e : x0.take (i + 1) = x0.take i ++ [x0.getD i ((0 : Int), (0 : Int), (0 : Int), ())] := by
        rw [getD_lt x0 i _ hlt, List.take_append_getElem hlt]
      rw [e, List.map_append] at h
      exact h

theorem top9 (x0 : List (Int × Int × Int × Unit)) (h : P9 x0) : ∃ n, R9 n x0 [⟨.sl .str, g9_0 x0⟩, ⟨.int .i64, g9_1 x0⟩] := by
  unfold g9_0 g9_1
  cases hv : g24_0 x0 with
  | false =>
    refine ⟨1, ?_⟩
    rw [R9, if_pos (by rw [hv]; rfl)]
    rfl
  | true =>
    obtain ⟨hl, hc⟩ := h hv
    refine ⟨x0.length + 1 + 1, ?_⟩
    rw [R9, if_neg (by rw [hv]; simp)]
    simp only [if_true]
    exact run9 x0 hl hc x0.length 0 (by omega)

def S9 : Am.Spec := { sig := sig9, pre := fun ⟨x0, _⟩ => P9 x0, res := fun ⟨x0, _⟩ => [⟨.sl .str, g9_0 x0⟩, ⟨.int .i64, g9_1 x0⟩] }
theorem con9 : Contract Tryz.prog 9 S9 := contract_of Tryz.func9 hb9 (Nat.le_of_ble_eq_true (by kernel_rfl)) (fun ⟨x0, _⟩ h hwf K q =>
  let ⟨n, hn⟩ := top9 x0 h
  (snd9 n).1 x0 _ hn K q)

end
end Go.Proofs.YtmbkjhbindikkaaGreatDoor

/- Function 56 (spec.l30DrawWord): its runs between cut points. Written by a program of this repo (gen). -/
set_option linter.unusedVariables false
set_option linter.unusedSimpArgs false
set_option maxRecDepth 100000
namespace Go.Proofs.YtmbkjhbindikkaaGreatDoor
open Go Go.Am Go.Proofs
noncomputable section
def ext56 : Ext := [(57, S57)]
theorem call56_57 : Callable Tryz.prog 57 := ⟨Tryz.f57, Tryz.func57, by kernel_rfl, by kernel_rfl⟩
theorem ext56Ok : ExtOk Tryz.prog ext56 := ⟨⟨call56_57, con57⟩, trivial⟩

noncomputable def b56 : Code := bodyOf Tryz.f56
theorem hb56 : Tryz.f56.body = some b56 := by kernel_rfl
def sig56 : List AT := [AT.pb (Ty.cons (Ty.sl (Ty.int IntKind.u8)) (Ty.cons (Ty.int IntKind.i64) (Ty.cons (Ty.int IntKind.u64) Ty.unit)))]
def tys56 : List Ty := [Ty.str]
def kds56 : List RK := []
def oks56 : List AT := owns sig56
def P56 (x0 : List Int × Int × Int × Unit) : Prop := ((P57 x0 [ByteArray.mk #[97], ByteArray.mk #[99, 99, 99], ByteArray.mk #[49, 50], ByteArray.mk #[45, 53], ByteArray.mk #[114, 111, 112, 101], ByteArray.mk #[], ByteArray.mk #[120, 44, 121], ByteArray.mk #[126]]) ∧ True)
def g56_0 (x0 : List Int × Int × Int × Unit) : ByteArray := g57_0 x0 [ByteArray.mk #[97], ByteArray.mk #[99, 99, 99], ByteArray.mk #[49, 50], ByteArray.mk #[45, 53], ByteArray.mk #[114, 111, 112, 101], ByteArray.mk #[], ByteArray.mk #[120, 44, 121], ByteArray.mk #[126]]
def u56_0 (x0 : List Int × Int × Int × Unit) : List Int × Int × Int × Unit := u57_0 x0 [ByteArray.mk #[97], ByteArray.mk #[99, 99, 99], ByteArray.mk #[49, 50], ByteArray.mk #[45, 53], ByteArray.mk #[114, 111, 112, 101], ByteArray.mk #[], ByteArray.mk #[120, 44, 121], ByteArray.mk #[126]]
theorem at56 (x0 : List Int × Int × Int × Unit) (h : P56 x0) (K : Ctx) (q : Nat → Value) : AtV Tryz.prog 56 (PostR kds56 oks56 [⟨Ty.str, g56_0 x0⟩] [some ⟨Ty.cons (Ty.sl (Ty.int IntKind.u8)) (Ty.cons (Ty.int IntKind.i64) (Ty.cons (Ty.int IntKind.u64) Ty.unit)), [u56_0 x0]⟩] [0] q K) 6 K q [0] [.code b56] (entE 0 0 sig56 (x0, ())) (entL sig56 (x0, ())) := by
  unfold P56 at h
  unfold g56_0 u56_0
  obtain ⟨s0, h⟩ := h
  exact AtV.weak (AtV.ret (us := [Option.some (Lst.mk (Ty.cons (Ty.sl (Ty.int IntKind.u8)) (Ty.cons (Ty.int IntKind.i64) (Ty.cons (Ty.int IntKind.u64) Ty.unit))) [u57_0 x0 [ByteArray.mk #[97], ByteArray.mk #[99, 99, 99], ByteArray.mk #[49, 50], ByteArray.mk #[45, 53], ByteArray.mk #[114, 111, 112, 101], ByteArray.mk #[], ByteArray.mk #[120, 44, 121], ByteArray.mk #[126]]])]) Tryz.func56 tabOk ext56Ok mixed false [] tys56 [] (a1 s0 trivial) (by kernel_rfl)) ⟨.inl rfl, trivial⟩

def S56 : Am.Spec := { sig := sig56, pre := fun ⟨x0, _⟩ => P56 x0, upd := fun ⟨x0, _⟩ => [some ⟨Ty.cons (Ty.sl (Ty.int IntKind.u8)) (Ty.cons (Ty.int IntKind.i64) (Ty.cons (Ty.int IntKind.u64) Ty.unit)), [u56_0 x0]⟩], res := fun ⟨x0, _⟩ => [⟨Ty.str, g56_0 x0⟩], kds := kds56 }
theorem con56 : Contract Tryz.prog 56 S56 := contract_of Tryz.func56 hb56 (Nat.le_of_ble_eq_true (by kernel_rfl)) (fun ⟨x0, _⟩ h _ K q => at56 x0 h K q)


end
end Go.Proofs.YtmbkjhbindikkaaGreatDoor

/- Function 26 (spec.l30Draw): its runs between cut points. Written by a program of this repo (gen). -/
set_option linter.unusedVariables false
set_option linter.unusedSimpArgs false
set_option maxRecDepth 100000
namespace Go.Proofs.YtmbkjhbindikkaaGreatDoor
open Go Go.Am Go.Proofs
noncomputable section
def ext26 : Ext := [(35, S35), (56, S56), (57, S57), (37, S37)]
theorem call26_35 : Callable Tryz.prog 35 := ⟨Tryz.f35, Tryz.func35, by kernel_rfl, by kernel_rfl⟩
theorem call26_56 : Callable Tryz.prog 56 := ⟨Tryz.f56, Tryz.func56, by kernel_rfl, by kernel_rfl⟩
theorem call26_57 : Callable Tryz.prog 57 := ⟨Tryz.f57, Tryz.func57, by kernel_rfl, by kernel_rfl⟩
theorem call26_37 : Callable Tryz.prog 37 := ⟨Tryz.f37, Tryz.func37, by kernel_rfl, by kernel_rfl⟩
theorem ext26Ok : ExtOk Tryz.prog ext26 := ⟨⟨call26_35, con35⟩, ⟨call26_56, con56⟩, ⟨call26_57, con57⟩, ⟨call26_37, con37⟩, trivial⟩

noncomputable def b26 : Code := bodyOf Tryz.f26
theorem hb26 : Tryz.f26.body = some b26 := by kernel_rfl
def sig26 : List AT := [AT.pb (Ty.cons (Ty.sl (Ty.int IntKind.u8)) (Ty.cons (Ty.int IntKind.i64) (Ty.cons (Ty.int IntKind.u64) Ty.unit)))]
def tys26 : List Ty := [Ty.sl Ty.str]
def kds26 : List RK := []
def oks26 : List AT := owns sig26
def E26_3 (v4 : Int) (h0 : List Int × Int × Int × Unit) (h1 : List ByteArray) : Env := [(0, PV.a (Atom.optr 0 0 [])), (3, PV.a (Atom.osl 1 Option.none)), (4, PV.a (Atom.val (Value.int IntKind.i64 v4)))]
def L26_3 (v4 : Int) (h0 : List Int × Int × Int × Unit) (h1 : List ByteArray) : Heap := [Option.some (Arr.mk (Ty.cons (Ty.sl (Ty.int IntKind.u8)) (Ty.cons (Ty.int IntKind.i64) (Ty.cons (Ty.int IntKind.u64) Ty.unit))) [h0] Bool.true Option.none (Option.some Bool.true)), Option.some (Arr.mk Ty.str h1 Bool.false Option.none Option.none)]
def E26_16 (v7 : ByteArray) (h0 : List Int × Int × Int × Unit) (h1 : List ByteArray) : Env := [(0, PV.a (Atom.optr 0 0 [])), (3, PV.a (Atom.osl 1 Option.none)), (6, PV.a (Atom.val (Value.int IntKind.i64 (g37_0 (u35_0 h0 20) [100, 101])))), (7, PV.a (Atom.val (Value.string v7)))]
def L26_16 (v7 : ByteArray) (h0 : List Int × Int × Int × Unit) (h1 : List ByteArray) : Heap := [Option.some (Arr.mk (Ty.cons (Ty.sl (Ty.int IntKind.u8)) (Ty.cons (Ty.int IntKind.i64) (Ty.cons (Ty.int IntKind.u64) Ty.unit))) [u37_0 (u35_0 h0 20) [100, 101]] Bool.true Option.none (Option.some Bool.true)), Option.some (Arr.mk Ty.str h1 Bool.false Option.none Option.none)]
mutual
def R26 : Nat → List Int × Int × Int × Unit → List Dyn → List (Option Lst) → Prop
  | 0, _, _, _ => False
  | n + 1, x0, ds, us => ((P35 x0 8) ∧ (R26_3 n (g35_0 x0 8) (u35_0 x0 8) ([]) ds us))
def R26_3 : Nat → Int → List Int × Int × Int × Unit → List ByteArray → List Dyn → List (Option Lst) → Prop
  | 0, _, _, _, _, _ => False
  | n + 1, v4, h0, h1, ds, us => (if (Decidable.decide (v4 > 0)) = true then ((P56 h0) ∧ ((P57 (u56_0 h0) [ByteArray.mk #[], ByteArray.mk #[32], ByteArray.mk #[32, 32]]) ∧ ((ByteArray.size (g56_0 h0) + ByteArray.size (g57_0 (u56_0 h0) [ByteArray.mk #[], ByteArray.mk #[32], ByteArray.mk #[32, 32]]) ≤ 9223372036854775807) ∧ ((P56 (u57_0 (u56_0 h0) [ByteArray.mk #[], ByteArray.mk #[32], ByteArray.mk #[32, 32]])) ∧ ((ByteArray.size (g56_0 h0 ++ g57_0 (u56_0 h0) [ByteArray.mk #[], ByteArray.mk #[32], ByteArray.mk #[32, 32]]) + ByteArray.size (g56_0 (u57_0 (u56_0 h0) [ByteArray.mk #[], ByteArray.mk #[32], ByteArray.mk #[32, 32]])) ≤ 9223372036854775807) ∧ (((List.length h1 + 1) * 16 ≤ 140737488355328) ∧ ((InR IntKind.i64 (v4 - 1)) ∧ (R26_3 n (v4 - 1) (u56_0 (u57_0 (u56_0 h0) [ByteArray.mk #[], ByteArray.mk #[32], ByteArray.mk #[32, 32]])) (h1 ++ [g56_0 h0 ++ g57_0 (u56_0 h0) [ByteArray.mk #[], ByteArray.mk #[32], ByteArray.mk #[32, 32]] ++ g56_0 (u57_0 (u56_0 h0) [ByteArray.mk #[], ByteArray.mk #[32], ByteArray.mk #[32, 32]])]) ds us)))))))) else ((P35 h0 20) ∧ (if (g35_0 h0 20 == 0) = true then ((P57 (u35_0 h0 20) [ByteArray.mk #[10], ByteArray.mk #[97, 127], ByteArray.mk #[9]]) ∧ (((List.length h1 + 1) * 16 ≤ 140737488355328) ∧ (ds = [Dyn.mk (Ty.sl Ty.str) (h1 ++ [g57_0 (u35_0 h0 20) [ByteArray.mk #[10], ByteArray.mk #[97, 127], ByteArray.mk #[9]]])] ∧ us = [Option.some (Lst.mk (Ty.cons (Ty.sl (Ty.int IntKind.u8)) (Ty.cons (Ty.int IntKind.i64) (Ty.cons (Ty.int IntKind.u64) Ty.unit))) [u57_0 (u35_0 h0 20) [ByteArray.mk #[10], ByteArray.mk #[97, 127], ByteArray.mk #[9]]])]))) else (if (g35_0 h0 20 == 1) = true then ((P37 (u35_0 h0 20) [200, 201]) ∧ ((0 ≤ g37_0 (u35_0 h0 20) [200, 201]) ∧ (g37_0 (u35_0 h0 20) [200, 201] ≤ g37_0 (u35_0 h0 20) [200, 201]) ∧ (16 * g37_0 (u35_0 h0 20) [200, 201] ≤ 281474976710656) ∧ (ds = [Dyn.mk (Ty.sl Ty.str) (List.replicate (Int.toNat (g37_0 (u35_0 h0 20) [200, 201])) ByteArray.empty)] ∧ us = [Option.some (Lst.mk (Ty.cons (Ty.sl (Ty.int IntKind.u8)) (Ty.cons (Ty.int IntKind.i64) (Ty.cons (Ty.int IntKind.u64) Ty.unit))) [u37_0 (u35_0 h0 20) [200, 201]])]))) else (if (g35_0 h0 20 == 2) = true then ((P37 (u35_0 h0 20) [100, 101]) ∧ (R26_16 n (ByteArray.mk #[]) (h0) (h1) ds us)) else (ds = [Dyn.mk (Ty.sl Ty.str) h1] ∧ us = [Option.some (Lst.mk (Ty.cons (Ty.sl (Ty.int IntKind.u8)) (Ty.cons (Ty.int IntKind.i64) (Ty.cons (Ty.int IntKind.u64) Ty.unit))) [u35_0 h0 20])]))))))
def R26_16 : Nat → ByteArray → List Int × Int × Int × Unit → List ByteArray → List Dyn → List (Option Lst) → Prop
  | 0, _, _, _, _, _ => False
  | n + 1, v7, h0, h1, ds, us => (if (Decidable.decide ((↑(ByteArray.size v7) : Int) < g37_0 (u35_0 h0 20) [100, 101])) = true then ((ByteArray.size v7 + 1 ≤ 9223372036854775807) ∧ (R26_16 n (v7 ++ ByteArray.mk #[121]) (h0) (h1) ds us)) else (((List.length h1 + 1) * 16 ≤ 140737488355328) ∧ (ds = [Dyn.mk (Ty.sl Ty.str) (h1 ++ [v7])] ∧ us = [Option.some (Lst.mk (Ty.cons (Ty.sl (Ty.int IntKind.u8)) (Ty.cons (Ty.int IntKind.i64) (Ty.cons (Ty.int IntKind.u64) Ty.unit))) [u37_0 (u35_0 h0 20) [100, 101]])])))
end
theorem snd26 : ∀ n, (∀ (x0 : List Int × Int × Int × Unit) ds us, R26 n x0 ds us → ∀ K q, AtV Tryz.prog 26 (PostR kds26 oks26 ds us [0] q K) 61 K q [0] [.code b26] (entE 0 0 sig26 (x0, ())) (entL sig26 (x0, ()))) ∧ (∀ (v4 : Int) (h0 : List Int × Int × Int × Unit) (h1 : List ByteArray) ds us, R26_3 n v4 h0 h1 ds us → ∀ K q, AtV Tryz.prog 26 (PostR kds26 oks26 ds us [0] q K) 61 K q [0] (cutAt b26 3) (E26_3 v4 h0 h1) (L26_3 v4 h0 h1)) ∧ (∀ (v7 : ByteArray) (h0 : List Int × Int × Int × Unit) (h1 : List ByteArray) ds us, R26_16 n v7 h0 h1 ds us → ∀ K q, AtV Tryz.prog 26 (PostR kds26 oks26 ds us [0] q K) 61 K q [0] (cutAt b26 16) (E26_16 v7 h0 h1) (L26_16 v7 h0 h1)) := by
  intro n
  induction n with
  | zero => exact ⟨fun _ _ _ h => by simp only [R26] at h, fun _ _ _ _ _ h => by simp only [R26_3] at h, fun _ _ _ _ _ h => by simp only [R26_16] at h⟩
  | succ n ih =>
  obtain ⟨ih, ih3, ih16⟩ := ih
  refine ⟨?_, ?_, ?_⟩
  · intro x0 ds us h K q
    rw [R26] at h
    obtain ⟨s0, h⟩ := h
    exact AtV.go tabOk ext26Ok mixed false [] [] [0, 3, 4] [0, 1] [] (a1 s0 trivial) (ih3 _ _ _ _ _ h K q) (by kernel_rfl)

  · intro v4 h0 h1 ds us h K q
    rw [R26_3] at h
    by_cases b0 : (Decidable.decide (v4 > 0)) = true
    · rw [if_pos b0] at h
      obtain ⟨s0, h⟩ := h
      obtain ⟨s1, h⟩ := h
      obtain ⟨s2, h⟩ := h
      obtain ⟨s3, h⟩ := h
      obtain ⟨s4, h⟩ := h
      obtain ⟨s5, h⟩ := h
      obtain ⟨s6, h⟩ := h
      exact AtV.go tabOk ext26Ok mixed false [] [] [0, 3, 4] [0, 1] [true] (a1 b0 (a1 s0 (a1 s1 (a1 s2 (a1 s3 (a1 s4 (a1 s5 (a1 s6 trivial)))))))) (ih3 _ _ _ _ _ h K q) (by kernel_rfl)
    · rw [if_neg b0] at h
      replace b0 := Bool.eq_false_iff.2 b0
      obtain ⟨s0, h⟩ := h
      by_cases b1 : (g35_0 h0 20 == 0) = true
      · rw [if_pos b1] at h
        obtain ⟨s1, h⟩ := h
        obtain ⟨s2, h⟩ := h
        obtain ⟨h, h'⟩ := h; subst h; subst h'
        exact AtV.ret Tryz.func26 tabOk ext26Ok mixed false [] tys26 [false, true] (a1 b0 (a1 s0 (a1 b1 (a1 s1 (a1 s2 trivial))))) (by kernel_rfl)
      · rw [if_neg b1] at h
        replace b1 := Bool.eq_false_iff.2 b1
        by_cases b2 : (g35_0 h0 20 == 1) = true
        · rw [if_pos b2] at h
          obtain ⟨s1, h⟩ := h
          obtain ⟨s2, s3, s4, h⟩ := h
          obtain ⟨h, h'⟩ := h; subst h; subst h'
          exact AtV.ret Tryz.func26 tabOk ext26Ok mixed false [] tys26 [false, false, true] (a1 b0 (a1 s0 (a1 b1 (a1 b2 (a1 s1 (a1 s2 (a1 s3 (a1 s4 trivial)))))))) (by kernel_rfl)
        · rw [if_neg b2] at h
          replace b2 := Bool.eq_false_iff.2 b2
          by_cases b3 : (g35_0 h0 20 == 2) = true
          · rw [if_pos b3] at h
            obtain ⟨s1, h⟩ := h
            exact AtV.go tabOk ext26Ok mixed false [] [] [0, 3, 6, 7] [0, 1] [false, false, false, true] (a1 b0 (a1 s0 (a1 b1 (a1 b2 (a1 b3 (a1 s1 trivial)))))) (ih16 _ _ _ _ _ h K q) (by kernel_rfl)
          · rw [if_neg b3] at h
            replace b3 := Bool.eq_false_iff.2 b3
            obtain ⟨h, h'⟩ := h; subst h; subst h'
            exact AtV.ret Tryz.func26 tabOk ext26Ok mixed false [] tys26 [false, false, false, false] (a1 b0 (a1 s0 (a1 b1 (a1 b2 (a1 b3 trivial))))) (by kernel_rfl)

  · intro v7 h0 h1 ds us h K q
    rw [R26_16] at h
    by_cases b0 : (Decidable.decide ((↑(ByteArray.size v7) : Int) < g37_0 (u35_0 h0 20) [100, 101])) = true
    · rw [if_pos b0] at h
      obtain ⟨s0, h⟩ := h
      exact AtV.go tabOk ext26Ok mixed false [] [] [0, 3, 6, 7] [0, 1] [true] (a1 b0 (a1 s0 trivial)) (ih16 _ _ _ _ _ h K q) (by kernel_rfl)
    · rw [if_neg b0] at h
      replace b0 := Bool.eq_false_iff.2 b0
      obtain ⟨s0, h⟩ := h
      obtain ⟨h, h'⟩ := h; subst h; subst h'
      exact AtV.ret Tryz.func26 tabOk ext26Ok mixed false [] tys26 [false] (a1 b0 (a1 s0 trivial)) (by kernel_rfl)



def P26 (x0 : (List Int × Int × Int × Unit)) : Prop := SrcOk 800000000 x0
def Q26 (x0 : (List Int × Int × Int × Unit)) (y : List ByteArray) (s : (List Int × Int × Int × Unit)) : Prop := SrcOk (x0.2.1 + 1000) s ∧ (y.length ≤ 250 ∧ ∀ w ∈ y, w.size ≤ 200) ∧ ∃ n, R26 n x0 [⟨.sl .str, y⟩] [some ⟨(.cons (.sl (.int .u8)) (.cons (.int .i64) (.cons (.int .u64) .unit))), [s]⟩]

theorem add26 {h : List ByteArray} {t : ByteArray} (hb : ∀ x ∈ h, x.size ≤ 200) (ht : t.size ≤ 200) : ∀ x ∈ h ++ [t], x.size ≤ 200 := fun x hx => by
  rcases List.mem_append.1 hx with hx | hx
  · exact hb x hx
  · rw [List.mem_singleton.1 hx]; exact ht

theorem small26 {l : List ByteArray} {w : ByteArray} (hw : w ∈ l) (hl : (l.all fun x => decide (x.size ≤ 20)) = true) : w.size ≤ 20 :=
  of_decide_eq_true (List.all_eq_true.1 hl w hw)

theorem word26 {n : Int} {s : (List Int × Int × Int × Unit)} (h : SrcOk n s) (hn : n ≤ 4000000000000000000) : P56 s ∧ SrcOk (n + 2) (u56_0 s) ∧ (g56_0 s).size ≤ 20 := by
  obtain ⟨p1, s1, m1⟩ := text_ok h [ByteArray.mk #[97], ByteArray.mk #[99, 99, 99], ByteArray.mk #[49, 50], ByteArray.mk #[45, 53], ByteArray.mk #[114, 111, 112, 101], ByteArray.mk #[], ByteArray.mk #[120, 44, 121], ByteArray.mk #[126]] (by decide) (by omega)
  exact ⟨⟨p1, trivial⟩, s1, small26 m1 (by decide)⟩

theorem many26 (x0 : (List Int × Int × Int × Unit)) (M : Nat) (h : List ByteArray) (hl : h.length ≤ 20) (hb : ∀ x ∈ h, x.size ≤ 200) (hM : g37_0 (u35_0 x0 20) [100, 101] = (M : Int)) (hM2 : M ≤ 101) : ∀ (k : Nat) (w : ByteArray), w.size + k = M →
    ∃ (n : Nat) (y : List ByteArray), (y.length ≤ 250 ∧ ∀ x ∈ y, x.size ≤ 200) ∧ R26_16 n w x0 h [⟨.sl .str, y⟩] [some ⟨(.cons (.sl (.int .u8)) (.cons (.int .i64) (.cons (.int .u64) .unit))), [u37_0 (u35_0 x0 20) [100, 101]]⟩] := by
  have i1 : (ByteArray.mk #[121]).size = 1 := rfl
  intro k
  induction k with
  | zero =>
    intro w hw
    refine ⟨1, h ++ [w], ⟨by simp; omega, add26 hb (by omega)⟩, ?_⟩
    rw [R26_16, hM, if_neg (by simp only [decide_eq_true_eq]; omega)]
    exact ⟨by omega, rfl, rfl⟩
  | succ k ih =>
    intro w hw
    obtain ⟨n, y, a1, a2⟩ := ih (w ++ ByteArray.mk #[121]) (by rw [ByteArray.size_append, i1]; omega)
    refine ⟨n + 1, y, a1, ?_⟩
    rw [R26_16, hM, if_pos (by simp only [decide_eq_true_eq]; omega)]
    exact ⟨by omega, a2⟩

theorem run26 : ∀ (k : Nat) (v : Int) (s : (List Int × Int × Int × Unit)) (h : List ByteArray) (m : Int), v = (k : Int) → SrcOk m s → m + 8 * (k : Int) ≤ 900000000 → h.length + k ≤ 20 → (∀ x ∈ h, x.size ≤ 200) →
    ∃ (n : Nat) (y : List ByteArray) (z : (List Int × Int × Int × Unit)), SrcOk (m + 8 * (k : Int) + 100) z ∧ (y.length ≤ 250 ∧ ∀ x ∈ y, x.size ≤ 200) ∧ R26_3 n v s h [⟨.sl .str, y⟩] [some ⟨(.cons (.sl (.int .u8)) (.cons (.int .i64) (.cons (.int .u64) .unit))), [z]⟩] := by
  intro k
  induction k with
  | zero =>
    intro v s h m hv hs hm hl hb
    obtain ⟨p1, s1, _⟩ := pick_ok hs 20 (by omega)
    by_cases c0 : (g35_0 s 20 == 0) = true
    · obtain ⟨p2, s2, m2⟩ := text_ok s1 [ByteArray.mk #[10], ByteArray.mk #[97, 127], ByteArray.mk #[9]] (by decide) (by omega)
      have z2 := small26 m2 (by decide)
      refine ⟨1, h ++ [g57_0 (u35_0 s 20) [ByteArray.mk #[10], ByteArray.mk #[97, 127], ByteArray.mk #[9]]], _, s2.up (by omega), ⟨by simp; omega, add26 hb (by omega)⟩, ?_⟩
      rw [R26_3, if_neg (by simp only [decide_eq_true_eq]; omega), if_pos c0]
      exact ⟨p1, p2, by omega, rfl, rfl⟩
    · by_cases c1 : (g35_0 s 20 == 1) = true
      · obtain ⟨p2, s2, hm2⟩ := among_ok s1 [200, 201] (by decide) (by omega)
        have hM : ∃ j : Nat, g37_0 (u35_0 s 20) [200, 201] = (j : Int) ∧ j ≤ 201 := by
          simp only [List.mem_cons, List.mem_nil_iff, or_false] at hm2
          rcases hm2 with e | e
          · exact ⟨200, e, by decide⟩
          · exact ⟨201, e, by decide⟩
        obtain ⟨j, hj, hj2⟩ := hM
        refine ⟨1, List.replicate (Int.toNat (g37_0 (u35_0 s 20) [200, 201])) ByteArray.empty, _, s2.up (by omega), ⟨by rw [List.length_replicate, hj]; omega, fun x hx => by rw [(List.mem_replicate.1 hx).2]; decide⟩, ?_⟩
        rw [R26_3, if_neg (by simp only [decide_eq_true_eq]; omega), if_neg c0, if_pos c1]
        exact ⟨p1, p2, by omega, by omega, by omega, rfl, rfl⟩
      · by_cases c2 : (g35_0 s 20 == 2) = true
        · obtain ⟨p2, s2, hm2⟩ := among_ok s1 [100, 101] (by decide) (by omega)
          have hM : ∃ j : Nat, g37_0 (u35_0 s 20) [100, 101] = (j : Int) ∧ j ≤ 101 := by
            simp only [List.mem_cons, List.mem_nil_iff, or_false] at hm2
            rcases hm2 with e | e
            · exact ⟨100, e, by decide⟩
            · exact ⟨101, e, by decide⟩
          obtain ⟨j, hj, hj2⟩ := hM
          obtain ⟨n, y, a1, a2⟩ := many26 s j h (by omega) hb hj hj2 j (ByteArray.mk #[]) (by show 0 + j = j; omega)
          refine ⟨n + 1, y, _, s2.up (by omega), a1, ?_⟩
          rw [R26_3, if_neg (by simp only [decide_eq_true_eq]; omega), if_neg c0, if_neg c1, if_pos c2]
          exact ⟨p1, p2, a2⟩
        · refine ⟨1, h, _, s1.up (by omega), ⟨by omega, hb⟩, ?_⟩
          rw [R26_3, if_neg (by simp only [decide_eq_true_eq]; omega), if_neg c0, if_neg c1, if_neg c2]
          exact ⟨p1, rfl, rfl⟩
  | succ k ih =>
    intro v s h m hv hs hm hl hb
    obtain ⟨p1, s1, z1⟩ := word26 hs (by omega)
    obtain ⟨p2, s2, m2⟩ := text_ok s1 [ByteArray.mk #[], ByteArray.mk #[32], ByteArray.mk #[32, 32]] (by decide) (by omega)
    have z2 := small26 m2 (by decide)
    obtain ⟨p3, s3, z3⟩ := word26 s2 (by omega)
    obtain ⟨n, y, z, e1, e2, e3⟩ := ih (v - 1) _ (h ++ [g56_0 s ++ g57_0 (u56_0 s) [ByteArray.mk #[], ByteArray.mk #[32], ByteArray.mk #[32, 32]] ++ g56_0 (u57_0 (u56_0 s) [ByteArray.mk #[], ByteArray.mk #[32], ByteArray.mk #[32, 32]])]) (m + 8) (by omega) (s3.up (by omega)) (by omega) (by rw [List.length_append, List.length_singleton]; omega) (add26 hb (by rw [ByteArray.size_append, ByteArray.size_append]; omega))
    refine ⟨n + 1, y, z, e1.up (by omega), e2, ?_⟩
    rw [R26_3, if_pos (by simp only [decide_eq_true_eq]; omega)]
    exact ⟨p1, p2, by omega, p3, by rw [ByteArray.size_append]; omega, by omega, by rw [i64_iff]; omega, e3⟩

theorem ex26 (x0 : (List Int × Int × Int × Unit)) (h : P26 x0) : ∃ y s, Q26 x0 y s := by
  have h0 : x0.2.1 ≤ 800000000 := h.2.2
  obtain ⟨p1, s1, a, b, _⟩ := pick_ok (SrcOk.self h) 8 (by omega)
  have b := b (by decide)
  obtain ⟨n, y, t, a1, a2, a3⟩ := run26 (g35_0 x0 8).toNat (g35_0 x0 8) (u35_0 x0 8) [] _ (by omega) s1 (by omega) (by simp; omega) (fun x hx => by cases hx)
  exact ⟨y, t, a1.up (by omega), a2, n + 1, by rw [R26]; exact ⟨p1, a3⟩⟩

def g26_0 (x0 : (List Int × Int × Int × Unit)) : List ByteArray := (sel2 [] x0 (Q26 x0)).1
def u26_0 (x0 : (List Int × Int × Int × Unit)) : (List Int × Int × Int × Unit) := (sel2 [] x0 (Q26 x0)).2
theorem q26 (x0 : (List Int × Int × Int × Unit)) (h : P26 x0) : Q26 x0 (g26_0 x0) (u26_0 x0) := by
  obtain ⟨y, s, hq⟩ := ex26 x0 h
  exact sel2_spec hq

def S26 : Am.Spec := { sig := sig26, pre := fun ⟨x0, _⟩ => P26 x0, upd := fun ⟨x0, _⟩ => [some ⟨(.cons (.sl (.int .u8)) (.cons (.int .i64) (.cons (.int .u64) .unit))), [u26_0 x0]⟩], res := fun ⟨x0, _⟩ => [⟨.sl .str, g26_0 x0⟩], kds := kds26 }
theorem con26 : Contract Tryz.prog 26 S26 := contract_of Tryz.func26 hb26 (Nat.le_of_ble_eq_true (by kernel_rfl)) (fun ⟨x0, _⟩ h hwf K q =>
  let ⟨n, hn⟩ := (q26 x0 h).2.2
  (snd26 n).1 x0 _ _ hn K q)

end
end Go.Proofs.YtmbkjhbindikkaaGreatDoor

/- Function 10 (spec.DrawSortLines): its runs between cut points. Written by a program of this repo (gen). -/
set_option linter.unusedVariables false
set_option linter.unusedSimpArgs false
set_option maxRecDepth 100000
namespace Go.Proofs.YtmbkjhbindikkaaGreatDoor
open Go Go.Am Go.Proofs
noncomputable section
def ext10 : Ext := [(16, S16), (26, S26)]
theorem call10_16 : Callable Tryz.prog 16 := ⟨Tryz.f16, Tryz.func16, by kernel_rfl, by kernel_rfl⟩
theorem call10_26 : Callable Tryz.prog 26 := ⟨Tryz.f26, Tryz.func26, by kernel_rfl, by kernel_rfl⟩
theorem ext10Ok : ExtOk Tryz.prog ext10 := ⟨⟨call10_16, con16⟩, ⟨call10_26, con26⟩, trivial⟩

noncomputable def b10 : Code := bodyOf Tryz.f10
theorem hb10 : Tryz.f10.body = some b10 := by kernel_rfl
def sig10 : List AT := [AT.v (Ty.sl (Ty.int IntKind.u8))]
def tys10 : List Ty := [Ty.sl Ty.str]
def kds10 : List RK := []
def oks10 : List AT := owns sig10
def P10 (x0 : List Int) : Prop := ((P26 (g16_0 x0)) ∧ True)
def g10_0 (x0 : List Int) : List ByteArray := g26_0 (g16_0 x0)
theorem at10 (x0 : List Int) (h : P10 x0) (K : Ctx) (q : Nat → Value) : AtV Tryz.prog 10 (PostR kds10 oks10 [⟨Ty.sl Ty.str, g10_0 x0⟩] [] [] q K) 8 K q [] [.code b10] (entE 0 0 sig10 (x0, ())) (entL sig10 (x0, ())) := by
  unfold P10 at h
  unfold g10_0
  obtain ⟨s0, h⟩ := h
  exact AtV.ret Tryz.func10 tabOk ext10Ok mixed false [] tys10 [] (a1 trivial (a1 s0 trivial)) (by kernel_rfl)

def S10 : Am.Spec := { sig := sig10, pre := fun ⟨x0, _⟩ => P10 x0, res := fun ⟨x0, _⟩ => [⟨Ty.sl Ty.str, g10_0 x0⟩], kds := kds10 }
theorem con10 : Contract Tryz.prog 10 S10 := contract_of Tryz.func10 hb10 (Nat.le_of_ble_eq_true (by kernel_rfl)) (fun ⟨x0, _⟩ h _ K q => at10 x0 h K q)


end
end Go.Proofs.YtmbkjhbindikkaaGreatDoor

/- Function 28 (slices.Clone[[]string,string]): its contract, off what is known of the library. -/
set_option linter.unusedVariables false
set_option linter.unusedSimpArgs false
set_option maxRecDepth 100000
namespace Go.Proofs.YtmbkjhbindikkaaGreatDoor
open Go Go.Am Go.Proofs

set_option maxHeartbeats 2000000 in
theorem nil28 (w : World) : Calls Tryz.prog 28 #[.slice none 0 0] w fun e w' => e = .returned (.slice none 0 0) ∧ w' = w := by
  have mixed := mixed
  have q22 : ∀ (w : World) (a : Option Addr) (n c n' c' : Nat), (binOp .eql 26 (.slice a n c) (.slice none n' c')).run Tryz.prog w = .ok (.bool a.isNone) w := fun w a n c n' c' => Lib.run_eql_slice_nil w _ _ a n c n' c' Tryz.underlying26
  go_enter Tryz.func28, Tryz.ntmps28
  go_wp2
  go_ret
  exact ⟨rfl, rfl⟩

set_option maxHeartbeats 4000000 in
theorem some28 (w : World) (a : Addr) (n c : Nat) (news : List Value) (hl : news.length = n * (Ty.size Ty.str)) (hn : n ≤ 1048576) (hc : ∀ (j : Nat) (u : Value), news[j]? = some u → w.cell? (a.add j) = some u) (h1 : ∀ u ∈ news, u.oneCell' = true) :
    Calls Tryz.prog 28 #[.slice (some a) n c] w fun r w' => ∃ v', r = .returned v' ∧ w'.ownsRow w.heap.size 9 (Ty.size Ty.str) v' n news ∧ Go.RowKit.Below w.heap.size w w' := by
  have mixed := mixed
  have q22 : ∀ (w : World) (a : Option Addr) (n c n' c' : Nat), (binOp .eql 26 (.slice a n c) (.slice none n' c')).run Tryz.prog w = .ok (.bool a.isNone) w := fun w a n c n' c' => Lib.run_eql_slice_nil w _ _ a n c n' c' Tryz.underlying26
  have hinfo : TIOk Tryz.prog 26 (tabGet tab 26) := tabOk 26
  obtain ⟨_, _, ⟨_, ⟨i0, hi0, hz1, z, hz0, hzs, _⟩⟩, hby⟩ := hinfo
  rw [hi0] at hby
  simp only [Option.map_some, Option.some.injEq] at hby
  have hzs' : z.cells.size = Ty.size Ty.str := by rw [← Array.length_toList, hzs]; rfl
  have A : Aside (∀ (j : Nat) (u : Value), news[j]? = some u → w.cell? (a.add j) = some u) := hc
  clear hc
  go_enter Tryz.func28, Tryz.ntmps28
  go_wp2_with (at_builtin; refine wpList_append_own _ rfl _ _ 26 rfl w.heap.size 9 i0 z (Ty.size Ty.str) i0.bytes Tryz.underlying26 hi0 hz0 hz1 rfl hzs' (by decide) _ _ _ rfl (World.ownsRow_made w #[] 0 (Nat.le_refl _) (Nat.zero_le _) (by simp)) a n c news rfl ?qc1 ?qc2 ?qc3 ?qc4 ?qc5 ?qc6 ?_)
  case qc1 => exact hl
  case qc2 => intro j u hj; exact Lib.cell?_alloc_some _ (A.out j u hj)
  case qc3 => exact h1
  case qc4 => unfold maxLen; omega
  case qc5 => rw [hby]; omega
  case qc6 => simp
  intro v' w1 hown hgrow hnil
  go_wp2
  go_ret
  exact ⟨v', rfl, by simpa using hown, ((Go.RowKit.Below.refl _ w).alloc (Nat.le_refl _) _).grown hgrow (by simp) (by intro k hk; simp [Value.ownBlock] at hk; omega)⟩

def sig28 : List AT := [AT.v (Ty.sl Ty.str)]
def g28_0 (x0 : List (ByteArray)) : List (ByteArray) := x0
def P28 (x0 : List (ByteArray)) : Prop := x0.length ≤ 1048576
def S28 : Am.Spec := { sig := sig28, pre := fun ⟨x0, _⟩ => P28 x0, res := fun ⟨x0, _⟩ => [⟨Ty.sl Ty.str, g28_0 x0⟩] }
theorem con28 : Contract Tryz.prog 28 S28 := clone_contract (t := Ty.str) (e := 9) rfl nil28 some28

end Go.Proofs.YtmbkjhbindikkaaGreatDoor

/- Function 29 (slices.Sort[[]string,string]): its contract, off what is known of the library. -/
set_option linter.unusedVariables false
set_option linter.unusedSimpArgs false
set_option maxRecDepth 100000
namespace Go.Proofs.YtmbkjhbindikkaaGreatDoor
open Go Go.Am Go.Proofs

def sig29 : List AT := [AT.own Ty.str]
def u29_0 (x0 : List ByteArray) : List ByteArray := sortB x0
def P29 (x0 : List ByteArray) : Prop := x0.length ≤ 1048576
def S29 : Am.Spec := { sig := sig29, pre := fun ⟨x0, _⟩ => P29 x0, upd := fun ⟨x0, _⟩ => [some ⟨Ty.str, u29_0 x0⟩], res := fun _ => [] }

theorem u29_perm (x0 : List ByteArray) : (u29_0 x0).Perm x0 := sortB_perm x0

theorem u29_bls (x0 : List ByteArray) : bls (u29_0 x0) = (bls x0).mergeSort fun x y => decide (x ≤ y) := by
  unfold u29_0 sortB bls sbl
  rw [List.map_map]
  conv => rhs; rw [← List.map_id (List.mergeSort _ _)]
  rfl

theorem con29 : Contract Tryz.prog 29 S29 := by
  refine Contract0.up rfl rfl ?_
  rintro w ⟨x0, u⟩ vs bss hgo hp ⟨v, s, b, bs, rfl, rfl, ho, rfl, rfl⟩ hn
  have hp : x0.length ≤ 1048576 := hp
  simp only [List.flatten_cons, List.flatten_nil, List.append_nil] at hn ⊢
  obtain ⟨hs, hcase⟩ := strs_own ho
  have hlen : (u29_0 x0).length = x0.length := (u29_perm x0).length_eq
  have hs' : ∀ y ∈ u29_0 x0, y.size ≤ maxLen := fun y hy => hs y ((u29_perm x0).mem_iff.1 hy)
  have hm : x0.length ≤ maxLen := by unfold maxLen; omega
  rcases hcase with ⟨ad, rfl, rfl, rfl⟩ | ⟨b', off, cap, cur, ty, fz, rfl, h2, h3, h4, h5, h6, rfl, h8⟩
  · refine (Tryz.slices_Sort_string_none ad 0 w).mono ?_
    rintro e w' ⟨rfl, rfl⟩
    refine ⟨[], [[]], [], rfl, Kept.refl _ _, ⟨rfl, rfl⟩, ⟨_, _, _, _, rfl, rfl, ?_, rfl, rfl⟩, by simp, by simp⟩
    exact ⟨_, rfl, by simp [u29_0, sortB, bls, sbl], .inl ⟨_, rfl, by simp [u29_0, sortB, bls, sbl], rfl⟩⟩
  · have hb : b' < w.heap.size := by
      rcases Nat.lt_or_ge b' w.heap.size with h | h
      · exact h
      · rw [Array.getElem?_eq_none h] at h5; cases h5
    have hbl : (bls x0).length = x0.length := by simp [bls]
    have := Tryz.slices_Sort_string b' off cap (bls x0) w (strs_holds h5 h6 h8) hb (by rw [hbl]; omega)
    rw [hbl] at this
    refine this.mono ?_
    rintro e w' ⟨rfl, n, os, hw⟩
    rw [← u29_bls] at hw
    obtain ⟨g1, g2⟩ := strs_turned hlen hm hs' h2 h3 h4 h5 h6 hw
    refine ⟨[], [[b']], [], rfl, g2, ⟨rfl, rfl⟩, ⟨_, _, _, _, rfl, rfl, g1, rfl, rfl⟩, by simp, fun b hb hg => ?_⟩
    simp at hb
    exact hg.2 (by simp [hb])

end Go.Proofs.YtmbkjhbindikkaaGreatDoor

/- Function 11 (impl.SortLines): its runs between cut points. Written by a program of this repo (gen). -/
set_option linter.unusedVariables false
set_option linter.unusedSimpArgs false
set_option maxRecDepth 100000
namespace Go.Proofs.YtmbkjhbindikkaaGreatDoor
open Go Go.Am Go.Proofs
noncomputable section
def ext11 : Ext := [(27, S27), (28, S28), (29, S29)]
theorem call11_27 : Callable Tryz.prog 27 := ⟨Tryz.f27, Tryz.func27, by kernel_rfl, by kernel_rfl⟩
theorem call11_28 : Callable Tryz.prog 28 := ⟨Tryz.f28, Tryz.func28, by kernel_rfl, by kernel_rfl⟩
theorem call11_29 : Callable Tryz.prog 29 := ⟨Tryz.f29, Tryz.func29, by kernel_rfl, by kernel_rfl⟩
theorem ext11Ok : ExtOk Tryz.prog ext11 := ⟨⟨call11_27, con27⟩, ⟨call11_28, con28⟩, ⟨call11_29, con29⟩, trivial⟩

noncomputable def b11 : Code := bodyOf Tryz.f11
theorem hb11 : Tryz.f11.body = some b11 := by kernel_rfl
def sig11 : List AT := [AT.v (Ty.sl Ty.str)]
def tys11 : List Ty := [Ty.sl Ty.str, Ty.int IntKind.i64]
def kds11 : List RK := []
def oks11 : List AT := owns sig11
def P11 (x0 : List ByteArray) : Prop := (if (!g27_0 x0) = true then True else ((P28 x0) ∧ ((P29 (g28_0 x0)) ∧ (List.length (u29_0 (g28_0 x0)) = List.length (g28_0 x0)) ∧ True)))
def g11_0 (x0 : List ByteArray) : List ByteArray := (if (!g27_0 x0) = true then [] else u29_0 (g28_0 x0))
def g11_1 (x0 : List ByteArray) : Int := (if (!g27_0 x0) = true then 1 else 0)
theorem at11 (x0 : List ByteArray) (h : P11 x0) (K : Ctx) (q : Nat → Value) : AtV Tryz.prog 11 (PostR kds11 oks11 [⟨Ty.sl Ty.str, g11_0 x0⟩, ⟨Ty.int IntKind.i64, g11_1 x0⟩] [] [] q K) 13 K q [] [.code b11] (entE 0 0 sig11 (x0, ())) (entL sig11 (x0, ())) := by
  unfold P11 at h
  unfold g11_0 g11_1
  by_cases b0 : (!g27_0 x0) = true
  · try simp only [if_pos b0] at h ⊢
    exact AtV.ret Tryz.func11 tabOk ext11Ok mixed false [] tys11 [true] (a1 trivial (a1 b0 trivial)) (by kernel_rfl)
  · try simp only [if_neg b0] at h ⊢
    replace b0 := Bool.eq_false_iff.2 b0
    obtain ⟨s0, h⟩ := h
    obtain ⟨s1, s2, h⟩ := h
    exact AtV.ret Tryz.func11 tabOk ext11Ok mixed false [] tys11 [false] (a1 trivial (a1 b0 (a1 s0 (a1 s1 (a1 s2 trivial))))) (by kernel_rfl)

def S11 : Am.Spec := { sig := sig11, pre := fun ⟨x0, _⟩ => P11 x0, res := fun ⟨x0, _⟩ => [⟨Ty.sl Ty.str, g11_0 x0⟩, ⟨Ty.int IntKind.i64, g11_1 x0⟩], kds := kds11 }
theorem con11 : Contract Tryz.prog 11 S11 := contract_of Tryz.func11 hb11 (Nat.le_of_ble_eq_true (by kernel_rfl)) (fun ⟨x0, _⟩ h _ K q => at11 x0 h K q)


end
end Go.Proofs.YtmbkjhbindikkaaGreatDoor

/- Function 12 (impl.CountLines): its runs between cut points. Written by a program of this repo (gen). -/
set_option linter.unusedVariables false
set_option linter.unusedSimpArgs false
set_option maxRecDepth 100000
namespace Go.Proofs.YtmbkjhbindikkaaGreatDoor
open Go Go.Am Go.Proofs
noncomputable section
def ext12 : Ext := [(11, S11)]
theorem call12_11 : Callable Tryz.prog 11 := ⟨Tryz.f11, Tryz.func11, by kernel_rfl, by kernel_rfl⟩
theorem ext12Ok : ExtOk Tryz.prog ext12 := ⟨⟨call12_11, con11⟩, trivial⟩

noncomputable def b12 : Code := bodyOf Tryz.f12
theorem hb12 : Tryz.f12.body = some b12 := by kernel_rfl
def sig12 : List AT := [AT.v (Ty.sl Ty.str)]
def tys12 : List Ty := [Ty.sl Ty.str, Ty.sl (Ty.int IntKind.i64), Ty.int IntKind.i64]
def kds12 : List RK := []
def oks12 : List AT := owns sig12
def E12_7 (v21 : Int) (h1 : List ByteArray) (h2 : List Int) (x0 : List ByteArray) : Env := [(5, PV.a (Atom.osl 0 Option.none)), (7, PV.a (Atom.osl 1 Option.none)), (8, PV.a (Atom.osl 2 Option.none)), (19, PV.a (Atom.osl 0 Option.none)), (20, PV.a (Atom.val (Value.int IntKind.i64 (↑(List.length (g11_0 x0)) : Int)))), (21, PV.a (Atom.val (Value.int IntKind.i64 v21)))]
def L12_7 (v21 : Int) (h1 : List ByteArray) (h2 : List Int) (x0 : List ByteArray) : Heap := [Option.some (Arr.mk Ty.str (g11_0 x0) Bool.false Option.none Option.none), Option.some (Arr.mk Ty.str h1 Bool.false Option.none Option.none), Option.some (Arr.mk (Ty.int IntKind.i64) h2 Bool.false Option.none Option.none)]
mutual
def R12 : Nat → List ByteArray → List Dyn → Prop
  | 0, _, _ => False
  | n + 1, x0, ds => ((P11 x0) ∧ (if (g11_1 x0 != 0) = true then (ds = [Dyn.mk (Ty.sl Ty.str) [], Dyn.mk (Ty.sl (Ty.int IntKind.i64)) [], Dyn.mk (Ty.int IntKind.i64) (g11_1 x0)]) else (R12_7 n (0) ([]) ([]) (x0) ds)))
def R12_7 : Nat → Int → List ByteArray → List Int → List ByteArray → List Dyn → Prop
  | 0, _, _, _, _, _ => False
  | n + 1, v21, h1, h2, x0, ds => (if (Decidable.decide (v21 < (↑(List.length (g11_0 x0)) : Int))) = true then ((0 ≤ v21) ∧ (v21 < (↑(List.length (g11_0 x0)) : Int)) ∧ (if (v21 == 0) = true then (((List.length h1 + 1) * 16 ≤ 140737488355328) ∧ (((List.length h2 + 1) * 8 ≤ 140737488355328) ∧ ((InR IntKind.i64 ((↑(List.length (h2 ++ [0])) : Int) - 1)) ∧ ((0 ≤ (↑(List.length (h2 ++ [0])) : Int) - 1) ∧ ((↑(List.length (h2 ++ [0])) : Int) - 1 < (↑(List.length (h2 ++ [0])) : Int)) ∧ ((InR IntKind.i64 (List.getD (h2 ++ [0]) (Int.toNat ((↑(List.length (h2 ++ [0])) : Int) - 1)) 0 + 1)) ∧ ((0 ≤ (↑(List.length (h2 ++ [0])) : Int) - 1) ∧ ((↑(List.length (h2 ++ [0])) : Int) - 1 < (↑(List.length (h2 ++ [0])) : Int)) ∧ ((InR IntKind.i64 (v21 + 1)) ∧ (R12_7 n (v21 + 1) (h1 ++ [List.getD (g11_0 x0) (Int.toNat v21) ByteArray.empty]) (List.set (h2 ++ [0]) (Int.toNat ((↑(List.length (h2 ++ [0])) : Int) - 1)) (List.getD (h2 ++ [0]) (Int.toNat ((↑(List.length (h2 ++ [0])) : Int) - 1)) 0 + 1)) (x0) ds)))))))) else ((InR IntKind.i64 (v21 - 1)) ∧ ((0 ≤ v21 - 1) ∧ (v21 - 1 < (↑(List.length (g11_0 x0)) : Int)) ∧ (if (!ByteArray.toList (List.getD (g11_0 x0) (Int.toNat v21) ByteArray.empty) == ByteArray.toList (List.getD (g11_0 x0) (Int.toNat (v21 - 1)) ByteArray.empty)) = true then (((List.length h1 + 1) * 16 ≤ 140737488355328) ∧ (((List.length h2 + 1) * 8 ≤ 140737488355328) ∧ ((InR IntKind.i64 ((↑(List.length (h2 ++ [0])) : Int) - 1)) ∧ ((0 ≤ (↑(List.length (h2 ++ [0])) : Int) - 1) ∧ ((↑(List.length (h2 ++ [0])) : Int) - 1 < (↑(List.length (h2 ++ [0])) : Int)) ∧ ((InR IntKind.i64 (List.getD (h2 ++ [0]) (Int.toNat ((↑(List.length (h2 ++ [0])) : Int) - 1)) 0 + 1)) ∧ ((0 ≤ (↑(List.length (h2 ++ [0])) : Int) - 1) ∧ ((↑(List.length (h2 ++ [0])) : Int) - 1 < (↑(List.length (h2 ++ [0])) : Int)) ∧ ((InR IntKind.i64 (v21 + 1)) ∧ (R12_7 n (v21 + 1) (h1 ++ [List.getD (g11_0 x0) (Int.toNat v21) ByteArray.empty]) (List.set (h2 ++ [0]) (Int.toNat ((↑(List.length (h2 ++ [0])) : Int) - 1)) (List.getD (h2 ++ [0]) (Int.toNat ((↑(List.length (h2 ++ [0])) : Int) - 1)) 0 + 1)) (x0) ds)))))))) else ((InR IntKind.i64 ((↑(List.length h2) : Int) - 1)) ∧ ((0 ≤ (↑(List.length h2) : Int) - 1) ∧ ((↑(List.length h2) : Int) - 1 < (↑(List.length h2) : Int)) ∧ ((InR IntKind.i64 (List.getD h2 (Int.toNat ((↑(List.length h2) : Int) - 1)) 0 + 1)) ∧ ((0 ≤ (↑(List.length h2) : Int) - 1) ∧ ((↑(List.length h2) : Int) - 1 < (↑(List.length h2) : Int)) ∧ ((InR IntKind.i64 (v21 + 1)) ∧ (R12_7 n (v21 + 1) (h1) (List.set h2 (Int.toNat ((↑(List.length h2) : Int) - 1)) (List.getD h2 (Int.toNat ((↑(List.length h2) : Int) - 1)) 0 + 1)) (x0) ds))))))))))) else (ds = [Dyn.mk (Ty.sl Ty.str) h1, Dyn.mk (Ty.sl (Ty.int IntKind.i64)) h2, Dyn.mk (Ty.int IntKind.i64) 0]))
end
theorem snd12 : ∀ n, (∀ (x0 : List ByteArray) ds, R12 n x0 ds → ∀ K q, AtV Tryz.prog 12 (PostR kds12 oks12 ds [] [] q K) 55 K q [] [.code b12] (entE 0 0 sig12 (x0, ())) (entL sig12 (x0, ()))) ∧ (∀ (v21 : Int) (h1 : List ByteArray) (h2 : List Int) (x0 : List ByteArray) ds, R12_7 n v21 h1 h2 x0 ds → ∀ K q, AtV Tryz.prog 12 (PostR kds12 oks12 ds [] [] q K) 55 K q [] (cutAt b12 7) (E12_7 v21 h1 h2 x0) (L12_7 v21 h1 h2 x0)) := by
  intro n
  induction n with
  | zero => exact ⟨fun _ _ h => by simp only [R12] at h, fun _ _ _ _ _ h => by simp only [R12_7] at h⟩
  | succ n ih =>
  obtain ⟨ih, ih7⟩ := ih
  refine ⟨?_, ?_⟩
  · intro x0 ds h K q
    rw [R12] at h
    obtain ⟨s0, h⟩ := h
    by_cases b0 : (g11_1 x0 != 0) = true
    · rw [if_pos b0] at h
      subst h
      exact AtV.ret Tryz.func12 tabOk ext12Ok mixed false [] tys12 [true] (a1 s0 (a1 b0 trivial)) (by kernel_rfl)
    · rw [if_neg b0] at h
      replace b0 := Bool.eq_false_iff.2 b0
      exact AtV.go tabOk ext12Ok mixed false [] [(7, Ty.str), (8, Ty.int IntKind.i64)] [5, 7, 8, 19, 20, 21] [0, 1, 2] [false] (a1 s0 (a1 b0 trivial)) (ih7 _ _ _ _ _ h K q) (by kernel_rfl)

  · intro v21 h1 h2 x0 ds h K q
    rw [R12_7] at h
    by_cases b0 : (Decidable.decide (v21 < (↑(List.length (g11_0 x0)) : Int))) = true
    · rw [if_pos b0] at h
      obtain ⟨s0, s1, h⟩ := h
      by_cases b1 : (v21 == 0) = true
      · rw [if_pos b1] at h
        obtain ⟨s2, h⟩ := h
        obtain ⟨s3, h⟩ := h
        obtain ⟨s4, h⟩ := h
        obtain ⟨s5, s6, h⟩ := h
        obtain ⟨s7, h⟩ := h
        obtain ⟨s8, s9, h⟩ := h
        obtain ⟨s10, h⟩ := h
        exact AtV.go tabOk ext12Ok mixed false [] [(7, Ty.str), (8, Ty.int IntKind.i64)] [5, 7, 8, 19, 20, 21] [0, 1, 2] [true, true, true] (a1 b0 (a1 s0 (a1 s1 (a1 b1 (a1 (rfl : Bool.true = Bool.true) (a1 s2 (a1 s3 (a1 s4 (a1 s5 (a1 s6 (a1 s7 (a1 s8 (a1 s9 (a1 s10 trivial)))))))))))))) (ih7 _ _ _ _ _ h K q) (by kernel_rfl)
      · rw [if_neg b1] at h
        replace b1 := Bool.eq_false_iff.2 b1
        obtain ⟨s2, h⟩ := h
        obtain ⟨s3, s4, h⟩ := h
        by_cases b2 : (!ByteArray.toList (List.getD (g11_0 x0) (Int.toNat v21) ByteArray.empty) == ByteArray.toList (List.getD (g11_0 x0) (Int.toNat (v21 - 1)) ByteArray.empty)) = true
        · rw [if_pos b2] at h
          obtain ⟨s5, h⟩ := h
          obtain ⟨s6, h⟩ := h
          obtain ⟨s7, h⟩ := h
          obtain ⟨s8, s9, h⟩ := h
          obtain ⟨s10, h⟩ := h
          obtain ⟨s11, s12, h⟩ := h
          obtain ⟨s13, h⟩ := h
          exact AtV.go tabOk ext12Ok mixed false [] [(7, Ty.str), (8, Ty.int IntKind.i64)] [5, 7, 8, 19, 20, 21] [0, 1, 2] [true, false, true] (a1 b0 (a1 s0 (a1 s1 (a1 b1 (a1 s2 (a1 s3 (a1 s4 (a1 b2 (a1 s5 (a1 s6 (a1 s7 (a1 s8 (a1 s9 (a1 s10 (a1 s11 (a1 s12 (a1 s13 trivial))))))))))))))))) (ih7 _ _ _ _ _ h K q) (by kernel_rfl)
        · rw [if_neg b2] at h
          replace b2 := Bool.eq_false_iff.2 b2
          obtain ⟨s5, h⟩ := h
          obtain ⟨s6, s7, h⟩ := h
          obtain ⟨s8, h⟩ := h
          obtain ⟨s9, s10, h⟩ := h
          obtain ⟨s11, h⟩ := h
          exact AtV.go tabOk ext12Ok mixed false [] [(7, Ty.str), (8, Ty.int IntKind.i64)] [5, 7, 8, 19, 20, 21] [0, 1, 2] [true, false, false] (a1 b0 (a1 s0 (a1 s1 (a1 b1 (a1 s2 (a1 s3 (a1 s4 (a1 b2 (a1 s5 (a1 s6 (a1 s7 (a1 s8 (a1 s9 (a1 s10 (a1 s11 trivial))))))))))))))) (ih7 _ _ _ _ _ h K q) (by kernel_rfl)
    · rw [if_neg b0] at h
      replace b0 := Bool.eq_false_iff.2 b0
      subst h
      exact AtV.ret Tryz.func12 tabOk ext12Ok mixed false [] tys12 [false] (a1 b0 trivial) (by kernel_rfl)


def g12_0 (x0 : List ByteArray) : List ByteArray := if g27_0 x0 = true then (counted (sortB x0)).1.1 else []
def g12_1 (x0 : List ByteArray) : List Int := if g27_0 x0 = true then (counted (sortB x0)).1.2 else []
def g12_2 (x0 : List ByteArray) : Int := if g27_0 x0 = true then 0 else 1
def P12 (x0 : List ByteArray) : Prop := x0.length ≤ 1048576

theorem top12 (x0 : List ByteArray) (hp : P12 x0) : ∃ n, R12 n x0 [⟨.sl .str, g12_0 x0⟩, ⟨.sl (.int .i64), g12_1 x0⟩, ⟨.int .i64, g12_2 x0⟩] := by
  have hl : x0.length ≤ 1048576 := hp
  have hP : P11 x0 := by
    unfold P11
    split
    · trivial
    · exact ⟨hl, hl, (sortB_perm x0).length_eq, trivial⟩
  by_cases hok : g27_0 x0 = true
  case neg =>
    refine ⟨1, ?_⟩
    rw [R12]
    have hok := Bool.eq_false_iff.2 hok
    have e : g11_1 x0 = 1 := by unfold g11_1; rw [if_pos (by rw [hok]; rfl)]
    refine ⟨hP, ?_⟩
    rw [if_pos (by rw [e]; rfl), e]
    simp [g12_0, g12_1, g12_2, hok]
  case pos =>
    have e0 : g11_0 x0 = sortB x0 := by unfold g11_0; rw [if_neg (by rw [hok]; simp)]; rfl
    have e1 : g11_1 x0 = 0 := by unfold g11_1; rw [if_neg (by rw [hok]; simp)]
    have hs : (g11_0 x0).length = x0.length := by rw [e0]; exact (sortB_perm x0).length_eq
    have hm : (g11_0 x0).length ≤ maxLen := by unfold maxLen; omega
    refine ⟨(g11_0 x0).length + 1 + 1, ?_⟩
    rw [R12]
    refine ⟨hP, ?_⟩
    rw [if_neg (by rw [e1]; simp)]
    unfold g12_0 g12_1 g12_2
    rw [if_pos hok, if_pos hok, if_pos hok, ← e0]
    refine loop_fold (b := (([], []), 0)) (g11_0 x0) ByteArray.empty (cntStep (g11_0 x0)) (fun b => [(⟨.sl .str, b.1.1⟩ : Dyn), ⟨.sl (.int .i64), b.1.2⟩, ⟨.int .i64, (0 : Int)⟩]) CntInv (fun n i b ds => R12_7 n i b.1.1 b.1.2 x0 ds) ⟨rfl, by simp, rfl, .inl rfl, by simp⟩ (fun n b _ => ?_) (fun n i b hi hb => ⟨cnt_inv _ _ hb, fun ds hr => ?_⟩)
    · show R12_7 (n + 1) (g11_0 x0).length b.1.1 b.1.2 x0 _
      rw [R12_7, if_neg (by simp)]
    · obtain ⟨⟨h1, h2⟩, j⟩ := b
      obtain ⟨e, a1, a2, a3, a4⟩ := hb
      simp only at e a1 a2 a3 a4
      subst e
      have hup := inR_up hm hi
      obtain ⟨c1, c2, c3, c4⟩ := cnt_side (h := h2 ++ [0]) (n := j) (by simp) (by simp; omega) (fun c hc => by
        rcases List.mem_append.1 hc with hc | hc
        · exact a4 c hc
        · rw [List.mem_singleton.1 hc]; omega) (by omega)
      show R12_7 (n + 1) (j : Int) h1 h2 x0 ds
      rw [R12_7, if_pos (by simp only [decide_eq_true_eq]; omega)]
      unfold cntStep cntNew at hr
      simp only at hr
      by_cases h0 : j = 0
      · subst h0
        rw [if_pos (by simp)] at hr
        rw [if_pos (by rfl)]
        exact ⟨by omega, by omega, by omega, by omega, c1, c2, c3, c4, c2, c3, hup, hr⟩
      · obtain ⟨d1, d2, d3, d4⟩ := cnt_side (h := h2) (n := j) (by rcases a3 with a3 | a3; exact absurd a3 h0; exact a3) (by omega) a4 (by omega)
        have t : ((j : Int) - 1).toNat = j - 1 := by omega
        rw [if_neg (by simp; omega)]
        simp only [Int.toNat_natCast, t]
        refine ⟨by omega, by omega, by rw [i64_iff]; omega, by omega, by omega, ?_⟩
        by_cases hn : (!(ByteArray.toList ((g11_0 x0).getD j ByteArray.empty) == ByteArray.toList ((g11_0 x0).getD (j - 1) ByteArray.empty))) = true
        · rw [if_pos (by rw [hn]; simp)] at hr
          rw [if_pos (by exact hn)]
          exact ⟨by omega, by omega, c1, c2, c3, c4, c2, c3, hup, hr⟩
        · rw [if_neg (by rw [Bool.or_eq_true]; rintro (h | h); exact h0 (of_decide_eq_true h); exact hn h)] at hr
          rw [if_neg (by exact hn)]
          exact ⟨d1, d2, d3, d4, d2, d3, hup, hr⟩

def S12 : Am.Spec := { sig := sig12, pre := fun ⟨x0, _⟩ => P12 x0, res := fun ⟨x0, _⟩ => [⟨.sl .str, g12_0 x0⟩, ⟨.sl (.int .i64), g12_1 x0⟩, ⟨.int .i64, g12_2 x0⟩] }
theorem con12 : Contract Tryz.prog 12 S12 := contract_of Tryz.func12 hb12 (Nat.le_of_ble_eq_true (by kernel_rfl)) (fun ⟨x0, _⟩ h hwf K q =>
  let ⟨n, hn⟩ := top12 x0 h
  (snd12 n).1 x0 _ hn K q)

end
end Go.Proofs.YtmbkjhbindikkaaGreatDoor

/- Function 13 (laws.b10Sum): its runs between cut points. Written by a program of this repo (gen). -/
set_option linter.unusedVariables false
set_option linter.unusedSimpArgs false
set_option maxRecDepth 100000
namespace Go.Proofs.YtmbkjhbindikkaaGreatDoor
open Go Go.Am Go.Proofs
noncomputable section
def ext13 : Ext := []
theorem ext13Ok : ExtOk Tryz.prog ext13 := trivial

noncomputable def b13 : Code := bodyOf Tryz.f13
theorem hb13 : Tryz.f13.body = some b13 := by kernel_rfl
def sig13 : List AT := [AT.v (Ty.sl (Ty.int IntKind.i64))]
def tys13 : List Ty := [Ty.int IntKind.i64]
def kds13 : List RK := []
def oks13 : List AT := owns sig13
def E13_3 (v3 : Int) (v4 : Int) (x0 : List Int) : Env := [(0, PV.a (Atom.sl (Ty.int IntKind.i64) x0)), (3, PV.a (Atom.val (Value.int IntKind.i64 v3))), (4, PV.a (Atom.val (Value.int IntKind.i64 v4)))]
def L13_3 (v3 : Int) (v4 : Int) (x0 : List Int) : Heap := []
mutual
def R13 : Nat → List Int → List Dyn → Prop
  | 0, _, _ => False
  | n + 1, x0, ds => (R13_3 n (0) (0) (x0) ds)
def R13_3 : Nat → Int → Int → List Int → List Dyn → Prop
  | 0, _, _, _, _ => False
  | n + 1, v3, v4, x0, ds => (if (Decidable.decide (v4 < (↑(List.length x0) : Int))) = true then ((0 ≤ v4) ∧ (v4 < (↑(List.length x0) : Int)) ∧ ((InR IntKind.i64 (v3 + List.getD x0 (Int.toNat v4) 0)) ∧ ((InR IntKind.i64 (v4 + 1)) ∧ (R13_3 n (v3 + List.getD x0 (Int.toNat v4) 0) (v4 + 1) (x0) ds)))) else (ds = [Dyn.mk (Ty.int IntKind.i64) v3]))
end
theorem snd13 : ∀ n, (∀ (x0 : List Int) ds, R13 n x0 ds → ∀ K q, AtV Tryz.prog 13 (PostR kds13 oks13 ds [] [] q K) 18 K q [] [.code b13] (entE 0 0 sig13 (x0, ())) (entL sig13 (x0, ()))) ∧ (∀ (v3 : Int) (v4 : Int) (x0 : List Int) ds, R13_3 n v3 v4 x0 ds → ∀ K q, AtV Tryz.prog 13 (PostR kds13 oks13 ds [] [] q K) 18 K q [] (cutAt b13 3) (E13_3 v3 v4 x0) (L13_3 v3 v4 x0)) := by
  intro n
  induction n with
  | zero => exact ⟨fun _ _ h => by simp only [R13] at h, fun _ _ _ _ h => by simp only [R13_3] at h⟩
  | succ n ih =>
  obtain ⟨ih, ih3⟩ := ih
  refine ⟨?_, ?_⟩
  · intro x0 ds h K q
    rw [R13] at h
    exact AtV.go tabOk ext13Ok mixed false [] [] [0, 3, 4] [] [] trivial (ih3 _ _ _ _ h K q) (by kernel_rfl)

  · intro v3 v4 x0 ds h K q
    rw [R13_3] at h
    by_cases b0 : (Decidable.decide (v4 < (↑(List.length x0) : Int))) = true
    · rw [if_pos b0] at h
      obtain ⟨s0, s1, h⟩ := h
      obtain ⟨s2, h⟩ := h
      obtain ⟨s3, h⟩ := h
      exact AtV.go tabOk ext13Ok mixed false [] [] [0, 3, 4] [] [true] (a1 b0 (a1 s0 (a1 s1 (a1 s2 (a1 s3 trivial))))) (ih3 _ _ _ _ h K q) (by kernel_rfl)
    · rw [if_neg b0] at h
      replace b0 := Bool.eq_false_iff.2 b0
      subst h
      exact AtV.ret Tryz.func13 tabOk ext13Ok mixed false [] tys13 [false] (a1 b0 trivial) (by kernel_rfl)



def g13_0 (x0 : List Int) : Int := x0.foldl (fun a b => a + b) 0
def P13 (x0 : List Int) : Prop := x0.length ≤ 1048576 ∧ ∀ x ∈ x0, 0 ≤ x ∧ x ≤ 1048576

theorem run13 (x0 : List Int) (hp : P13 x0) : ∀ (k i : Nat) (v : Int), i + k = x0.length → 0 ≤ v → v ≤ 1048576 * (i : Int) → R13_3 (k + 1) v (i : Int) x0 [⟨.int .i64, (x0.drop i).foldl (fun a b => a + b) v⟩] := by
  obtain ⟨hl, hx⟩ := hp
  intro k
  induction k with
  | zero =>
    intro i v hi h0 h1
    rw [R13_3, if_neg (by simp only [decide_eq_true_eq]; omega), List.drop_of_length_le (by omega)]
    rfl
  | succ k ih =>
    intro i v hi h0 h1
    have hlt : i < x0.length := by omega
    have hm := hx _ (mem_getD x0 i 0 hlt)
    have e : (i : Int) + 1 = ((i + 1 : Nat) : Int) := by omega
    rw [R13_3, if_pos (by simp only [decide_eq_true_eq]; omega), drop_get x0 i 0 hlt, List.foldl_cons, e]
    simp only [Int.toNat_natCast]
    exact ⟨by omega, by omega, by rw [i64_iff]; omega, by rw [i64_iff]; omega, ih (i + 1) _ (by omega) (by omega) (by omega)⟩

theorem top13 (x0 : List Int) (h : P13 x0) : R13 (x0.length + 1 + 1) x0 [⟨.int .i64, g13_0 x0⟩] := by
  rw [R13]
  exact run13 x0 h x0.length 0 0 (by omega) (by decide) (by omega)

def S13 : Am.Spec := { sig := sig13, pre := fun ⟨x0, _⟩ => P13 x0, res := fun ⟨x0, _⟩ => [⟨Ty.int .i64, g13_0 x0⟩] }
theorem con13 : Contract Tryz.prog 13 S13 := contract_of Tryz.func13 hb13 (Nat.le_of_ble_eq_true (by kernel_rfl)) (fun ⟨x0, _⟩ h hwf K q =>
  (snd13 _).1 x0 _ (top13 x0 h) K q)

end
end Go.Proofs.YtmbkjhbindikkaaGreatDoor

/- Function 31 ((*strings.Builder).WriteString): its contract, off what is known of the library. -/
set_option linter.unusedVariables false
set_option linter.unusedSimpArgs false
set_option maxRecDepth 100000
namespace Go.Proofs.YtmbkjhbindikkaaGreatDoor
open Go Go.Am Go.Proofs

open Go.RowKit
theorem bInfo : ∃ j, Tryz.prog.info? 64 = some j ∧ j.size = 2 := by
  have h : (Tryz.prog.info? 64).map (·.size) = some 2 := by kernel_rfl
  obtain ⟨j, hj, hjs⟩ := Option.map_eq_some_iff.1 h
  exact ⟨j, hj, hjs⟩

set_option maxHeartbeats 1000000 in
theorem copyUsed (b : Nat) (w : World) (h0 : w.cell? ⟨b, 0, none⟩ = some (.pointer (some ⟨b, 0, none⟩))) :
    Calls Tryz.prog 64 #[.pointer (some ⟨b, 0, none⟩)] w fun e w' => e = .returned (.tuple #[]) ∧ w' = w := by
  obtain ⟨j, hj, _⟩ := bInfo
  have mixed := mixed
  go_enter Tryz.func64, Tryz.ntmps64
  go_wp2
  rw [Lib.run_neq_ptr_same w _ Tryz.underlying62 hj]
  go_wp2
  go_end0
  exact ⟨rfl, rfl⟩

set_option maxHeartbeats 1000000 in
theorem copyFresh (b : Nat) (w : World) (h0 : w.cell? ⟨b, 0, none⟩ = some (.pointer none)) (hsh : w.shape? b = some (64, 2)) (hfz : w.frozen? ⟨b, 0, none⟩ = false) :
    Calls Tryz.prog 64 #[.pointer (some ⟨b, 0, none⟩)] w fun e w' => e = .returned (.tuple #[]) ∧ w' = w.setCell ⟨b, 0, none⟩ (.pointer (some ⟨b, 0, none⟩)) := by
  obtain ⟨j, hj, hjs⟩ := bInfo
  have mixed := mixed
  have t70 := Tryz.underlying62; have t164 := Tryz.underlying128
  go_enter Tryz.func64, Tryz.ntmps64
  go_wp2
  rw [Lib.run_to_unsafe w ⟨b, 0, none⟩ Tryz.underlying62 Tryz.underlying128 hj (by rw [hjs]; decide) hsh (Nat.zero_lt_succ 1)]
  simp only [Result.andThen]
  rw [Oper.upon_value]
  go_wp2
  rw [run_callFunc_extern Tryz.func97 (by kernel_rfl) (by kernel_rfl) (by kernel_rfl) (e := Extern.AbiNoEscape.same) (by kernel_rfl)]
  rw [Lib.run_noEscape]
  simp only [Result.andThen]
  rw [Oper.upon_value]
  go_wp2
  rw [Lib.run_from_unsafe w ⟨b, 0, none⟩ Tryz.underlying128 Tryz.underlying62 hj hsh (by kernel_rfl)]
  simp only [Result.andThen]
  rw [Oper.upon_value]
  go_wp2
  go_end0
  exact ⟨rfl, rfl⟩

theorem copyCheck (B b : Nat) (bs : List Value) (w : World) (h : Lib.IsBuilderF 64 5 B b bs w) :
    Calls Tryz.prog 64 #[.pointer (some ⟨b, 0, none⟩)] w fun e w' => e = .returned (.tuple #[]) ∧ (Lib.BuilderAtF 64 5 B b (.pointer (some ⟨b, 0, none⟩)) bs w' ∧ Below B w w') := by
  rcases h with h | h
  · refine (copyFresh b w h.cell0 h.shape h.frozen0).mono ?_
    rintro e w' ⟨rfl, rfl⟩
    exact ⟨rfl, h.used _, (Below.refl B w).setCell (p := ⟨b, 0, none⟩) h.1 _⟩
  · refine (copyUsed b w h.cell0).mono ?_
    rintro e w' ⟨rfl, rfl⟩
    exact ⟨rfl, h, Below.refl B _⟩

set_option maxHeartbeats 2000000 in
theorem writeString (B b : Nat) (bs : List Value) (s : ByteArray) (w : World) (h : Lib.IsBuilderF 64 5 B b bs w) (hlen : bs.length + s.size ≤ 140737488355328) (hBw : B ≤ w.heap.size) :
    Calls Tryz.prog 31 #[.pointer (some ⟨b, 0, none⟩), .string s] w fun e w' => e = .returned (.tuple #[.int .i64 s.size, .nilIface]) ∧ (Lib.BuilderAtF 64 5 B b (.pointer (some ⟨b, 0, none⟩)) (bs ++ Lib.strCells s) w' ∧ Below B w w') := by
  obtain ⟨i0, hi, hz0, hz1, hz2⟩ := info_parts (P := Tryz.prog) (e := 5) (z := .int .u8 0) (size := 1) (bytes := 1) (by kernel_rfl)
  have mixed := mixed
  go_enter Tryz.func31, Tryz.ntmps31
  go_wp2_with (go_at_call 64; refine (copyCheck B b bs _ h).mono ?_)
  rintro e w1 ⟨rfl, h1, hb1⟩
  obtain ⟨hB, v, hbk, hown, hne⟩ := h1
  have c0 : w1.cell? ⟨b, 0, none⟩ = some (.pointer (some ⟨b, 0, none⟩)) := by rw [Lib.cell_of_heap hbk]; rfl
  have c1 : w1.cell? ⟨b, 1, none⟩ = some v := by rw [Lib.cell_of_heap hbk]; rfl
  go_wp2_with (at_builtin; refine Lib.wpList_append_own_stringF _ rfl _ _ 22 9 rfl B 5 i0 Tryz.underlying22 Tryz.underlying9 hi hz0 hz1 hz2 _ _ _ rfl hown s rfl ?c3 ?c4 ?c5 ?_)
  case c3 => unfold maxLen; omega
  case c4 => omega
  case c5 => have := hb1.size; omega
  intro v' w2 hown' hgrow _
  have hlt : b < w1.heap.size := by
    rcases Nat.lt_or_ge b w1.heap.size with h' | h'
    · exact h'
    · simp [Array.getElem?_eq_none h'] at hbk
  have hb2 : w2.heap[b]? = some (.cells #[.pointer (some ⟨b, 0, none⟩), v] 64 (0, 0)) := by
    rw [hgrow.block b hlt (fun e => hne e.symm)]
    exact hbk
  have d0 : w2.cell? ⟨b, 0, none⟩ = some (.pointer (some ⟨b, 0, none⟩)) := by rw [Lib.cell_of_heap hb2]; rfl
  have d1 : w2.cell? ⟨b, 1, none⟩ = some v := by rw [Lib.cell_of_heap hb2]; rfl
  have f1 : w2.frozen? ⟨b, 1, none⟩ = false := Lib.frozen_of_heap hb2 1
  obtain ⟨ao, n', cap, rfl⟩ : ∃ ao n' cap, v' = .slice ao n' cap := by
    rcases hown'.2 with ⟨hv, _⟩ | ⟨g, cap, cur, fz, hv, _⟩
    · exact ⟨_, _, _, hv⟩
    · exact ⟨_, _, _, hv⟩
  go_wp2
  go_ret2
  refine ⟨rfl, ?_, ?_⟩
  · exact Lib.BuilderAtF.put (T := 64) (e := 5) hB hb2 (bs' := bs ++ Lib.strCells s) (by simpa [Lib.strCells_length] using hown') (by decide)
  · exact (hb1.grown hgrow (by have := hb1.size; omega) (fun k hk => (hown.lt k hk).1)).setCell (p := ⟨b, 1, none⟩) hB _

end Go.Proofs.YtmbkjhbindikkaaGreatDoor

/- Function 32 ((*strings.Builder).String): its contract, off what is known of the library. -/
set_option linter.unusedVariables false
set_option linter.unusedSimpArgs false
set_option maxRecDepth 100000
namespace Go.Proofs.YtmbkjhbindikkaaGreatDoor
open Go Go.Am Go.Proofs

open Go.RowKit
theorem stringB (B b : Nat) (l : List UInt8) (w : World) (h : Lib.IsBuilderF 64 5 B b (Lib.byteCells l) w) (hBw : B ≤ w.heap.size) :
    Calls Tryz.prog 32 #[.pointer (some ⟨b, 0, none⟩)] w fun e w' => e = .returned (.string ⟨l.toArray⟩) ∧ Below B w w' := by
  refine (Tryz.Builder_String_any_k B b l w h hBw).mono ?_
  rintro e w' ⟨rfl, _, h2, _⟩
  exact ⟨rfl, h2⟩

end Go.Proofs.YtmbkjhbindikkaaGreatDoor

/- Function 15 (impl.ReportText): its contract; the builder by the kit's walk, the callee by its contract. -/
set_option linter.unusedVariables false
set_option linter.unusedSimpArgs false
set_option maxRecDepth 100000
namespace Go.Proofs.YtmbkjhbindikkaaGreatDoor
open Go Go.Am Go.Proofs Go.RowKit
abbrev BY15 : Ty := .str
theorem vb15 (W : World) (x0 : List ByteArray) (v : Value) (hgo : GOk W []) (ha : RepB W (Am.Good W []) (toAtom (.sl BY15) x0) v) :
    Calls Tryz.prog 27 #[v] W fun e w' => e = .returned (.bool (g27_0 x0)) ∧ Below W.heap.size W w' := by
  have h := con27.down rfl W (x0, ()) [v] [[]] hgo trivial ⟨v, [], [], [], rfl, rfl, ⟨rfl, ha⟩, rfl, rfl⟩ (by simp)
  refine h.mono ?_
  rintro e w' ⟨rs, ubs, rbs, rfl, hk, ⟨u, s, b1, bs1, cs, rfl, rfl, ho, hv, rfl, rfl⟩, _⟩
  obtain ⟨ho, _⟩ := ho
  have hv : cs = [u] := hv
  rw [ho] at hv
  cases hv
  exact ⟨rfl, hk.below⟩

theorem weak15 {B B' : Nat} {a b : World} (h : Below B a b) (hB : B' ≤ B) : Below B' a b := ⟨h.1, h.2, h.3, h.4, fun k hk => h.5 k (by omega)⟩
theorem cells15 (a b : ByteArray) : Lib.strCells (a ++ b) = Lib.strCells a ++ Lib.strCells b := by
  unfold Lib.strCells
  rw [ByteArray.data_append, Array.toList_append, List.map_append]


theorem cell15 {w : World} {x0 : List ByteArray} {b off : Nat} (hc : ∀ j u, (fcs BY15 x0)[j]? = some u → w.cell? ⟨b, off + j, none⟩ = some u) (k : Nat) (hk : k < x0.length) :
    w.cell? ⟨b, off + k, none⟩ = some (.string (x0.getD k ByteArray.empty)) := by
  have key : ∀ (xs : List ByteArray), fcs BY15 xs = xs.map Value.string := by
    intro xs
    induction xs with
    | nil => rfl
    | cons x r ih => unfold fcs at ih ⊢; rw [List.map_cons, List.flatten_cons, ih]; rfl
  refine hc k _ ?_
  rw [key, List.getElem?_map, getD_of_lt x0 k ByteArray.empty hk]
  rfl

def acc15 (x0 : List ByteArray) (k : Nat) : ByteArray := (x0.take k).foldl (fun o b => o ++ (b ++ ByteArray.mk #[10])) (ByteArray.mk #[])

theorem acc15_succ (x0 : List ByteArray) (k : Nat) (h : k < x0.length) : acc15 x0 (k + 1) = acc15 x0 k ++ (x0.getD k ByteArray.empty ++ ByteArray.mk #[10]) := by
  unfold acc15
  rw [List.take_add_one, getD_of_lt x0 k ByteArray.empty h]
  simp only [Option.toList_some, List.foldl_append, List.foldl_cons, List.foldl_nil]

theorem acc15_size (x0 : List ByteArray) (hp : ∀ x ∈ x0, x.size ≤ 1048576) : ∀ k, k ≤ x0.length → (acc15 x0 k).size ≤ 1048577 * k
  | 0, _ => Nat.zero_le _
  | k + 1, h => by
    have ih := acc15_size x0 hp k (by omega)
    have hx := hp _ (mem_getD x0 k ByteArray.empty (by omega))
    rw [acc15_succ x0 k (by omega), ByteArray.size_append, ByteArray.size_append]
    have i1 : (ByteArray.mk #[10]).size = 1 := rfl
    omega

set_option maxHeartbeats 4000000 in
theorem walk15 (w : World) (x0 : List ByteArray) (b off cap : Nat) (hgo : GOk w []) (hl : x0.length ≤ cap) (hcap : cap ≤ maxLen) (hb : b < w.heap.size) (hok : g27_0 x0 = true) (hn : x0.length ≤ 1048576)
    (ha : RepB w (Am.Good w []) (toAtom (.sl BY15) x0) (.slice (some ⟨b, off, none⟩) x0.length cap)) (hc : ∀ j u, (fcs BY15 x0)[j]? = some u → w.cell? ⟨b, off + j, none⟩ = some u)
    (hp : ∀ x ∈ x0, x.size ≤ 1048576) :
    Calls Tryz.prog 15 #[.slice (some ⟨b, off, none⟩) x0.length cap] w fun e w' => e = .returned (.string (acc15 x0 x0.length)) ∧ Below w.heap.size w w' := by
  have HA : Aside (RepB w (Am.Good w []) (toAtom (.sl BY15) x0) (.slice (some ⟨b, off, none⟩) x0.length cap)) := ha
  have HC : Aside (∀ j u, (fcs BY15 x0)[j]? = some u → w.cell? ⟨b, off + j, none⟩ = some u) := hc
  have HP : Aside (∀ x ∈ x0, x.size ≤ 1048576) := hp
  clear ha hc hp
  have mixed := mixed
  go_enter Tryz.func15, Tryz.ntmps15
  go_wp2_with (go_at_call 27; refine (vb15 _ x0 _ hgo HA.out).mono ?_)
  rintro e w1 ⟨rfl, b1⟩
  rw [hok]
  go_wp2
  have a1 : Below w1.heap.size w1 (w1.alloc (.cells #[.pointer none, .slice none 0 0] 64)) := (Below.refl _ w1).alloc (Nat.le_refl _) _
  have i1 : Lib.IsBuilderF 64 5 w1.heap.size w1.heap.size [] (w1.alloc (.cells #[.pointer none, .slice none 0 0] 64)) := Lib.IsBuilderF.of (Lib.fresh_isBuilder 64 5 w1)
  go_loopw [11] (fun i wr => ∃ k : Nat, k ≤ x0.length ∧ i = .int .i64 k ∧ Lib.IsBuilderF 64 5 w1.heap.size w1.heap.size (Lib.strCells (acc15 x0 k)) wr ∧ Below w1.heap.size w1 wr) (fun i _ => x0.length - (intOf i).toNat)
  case atStart => exact ⟨0, Nat.zero_le _, rfl, i1, a1⟩
  case round =>
    obtain ⟨k, hk, rfl, hbl, hbw⟩ := hrel
    have eb : wr.heap[b]? = w.heap[b]? := (hbw.block b (Nat.lt_of_lt_of_le hb b1.size)).trans (b1.block b hb)
    by_cases hlt : k < x0.length
    · have q1 := cell15 HC.out k hlt
      have e1 : wr.cell? ⟨b, off + k, none⟩ = some (.string (x0.getD k ByteArray.empty)) := (World.cell?_of_block eb).trans q1
      clear q1
      have hsuc := acc15_succ x0 k hlt
      have p2 := HP.out _ (mem_getD x0 k ByteArray.empty hlt)
      generalize hx : x0.getD k ByteArray.empty = x at *
      have hsz := acc15_size x0 HP.out k hk
      have HS : Aside (acc15 x0 (k + 1) = acc15 x0 k ++ (x ++ ByteArray.mk #[10])) := hsuc
      clear hsuc
      have a5 : Below w1.heap.size w1 wr := hbw
      have h5 : Lib.IsBuilderF 64 5 w1.heap.size w1.heap.size (Lib.strCells (acc15 x0 k)) wr := hbl
      have i10 : (x ++ ByteArray.mk #[10]).size ≤ 1048577 := by
        rw [ByteArray.size_append]
        show _ + 1 ≤ 1048577
        omega
      go_wp2_with (go_at_call 31; refine (writeString w1.heap.size w1.heap.size (Lib.strCells (acc15 x0 k)) (x ++ ByteArray.mk #[10]) _ h5 (by rw [Lib.strCells_length]; omega) a5.size).mono ?_)
      rintro e w6 ⟨rfl, h6, b6⟩
      rw [← cells15, ← HS.out] at h6
      have c6 : Below w1.heap.size w1 w6 := a5.trans b6
      go_wp2
      go_roundw
      case rel => exact ⟨k + 1, by omega, by simp, Or.inr h6, c6⟩
      case measure => simp [intOf]; omega
    · have hkn : k = x0.length := by omega
      subst hkn
      have h7 : Lib.IsBuilderF 64 5 w1.heap.size w1.heap.size (Lib.byteCells (acc15 x0 x0.length).data.toList) wr := by
        rw [← Lib.strCells_eq]; exact hbl
      go_wp2_with (go_at_call 32; refine (stringB w1.heap.size w1.heap.size (acc15 x0 x0.length).data.toList _ h7 hbw.size).mono ?_)
      rintro e w8 ⟨rfl, b8⟩
      have e8 : (⟨(acc15 x0 x0.length).data.toList.toArray⟩ : ByteArray) = acc15 x0 x0.length := by simp
      rw [e8]
      go_wp2
      go_ret
      exact ⟨rfl, b1.trans (weak15 (hbw.trans b8) b1.size)⟩

set_option maxHeartbeats 4000000 in
theorem walkNil15 (w : World) (ad : Option Addr) (hgo : GOk w []) (hok : g27_0 [] = true) (ha : RepB w (Am.Good w []) (toAtom (.sl BY15) []) (.slice ad 0 0)) :
    Calls Tryz.prog 15 #[.slice ad 0 0] w fun e w' => e = .returned (.string (acc15 [] 0)) ∧ Below w.heap.size w w' := by
  have HA : Aside (RepB w (Am.Good w []) (toAtom (.sl BY15) []) (.slice ad 0 0)) := ha
  clear ha
  have mixed := mixed
  go_enter Tryz.func15, Tryz.ntmps15
  go_wp2_with (go_at_call 27; refine (vb15 _ [] _ hgo HA.out).mono ?_)
  rintro e w1 ⟨rfl, b1⟩
  rw [hok]
  go_wp2
  have a1 : Below w1.heap.size w1 (w1.alloc (.cells #[.pointer none, .slice none 0 0] 64)) := (Below.refl _ w1).alloc (Nat.le_refl _) _
  have i1 : Lib.IsBuilderF 64 5 w1.heap.size w1.heap.size [] (w1.alloc (.cells #[.pointer none, .slice none 0 0] 64)) := Lib.IsBuilderF.of (Lib.fresh_isBuilder 64 5 w1)
  go_loopw [11] (fun i wr => i = .int .i64 0 ∧ Lib.IsBuilderF 64 5 w1.heap.size w1.heap.size (Lib.strCells (acc15 [] 0)) wr ∧ Below w1.heap.size w1 wr) (fun i _ => 0)
  case atStart => exact ⟨rfl, i1, a1⟩
  case round =>
    obtain ⟨rfl, hbl, hbw⟩ := hrel
    have h7 : Lib.IsBuilderF 64 5 w1.heap.size w1.heap.size (Lib.byteCells (acc15 [] 0).data.toList) wr := by
      rw [← Lib.strCells_eq]; exact hbl
    go_wp2_with (go_at_call 32; refine (stringB w1.heap.size w1.heap.size (acc15 [] 0).data.toList _ h7 hbw.size).mono ?_)
    rintro e w8 ⟨rfl, b8⟩
    have e8 : (⟨(acc15 [] 0).data.toList.toArray⟩ : ByteArray) = acc15 [] 0 := by simp
    rw [e8]
    go_wp2
    go_ret
    exact ⟨rfl, b1.trans (weak15 (hbw.trans b8) b1.size)⟩

set_option maxHeartbeats 4000000 in
theorem walkBad15 (w : World) (x0 : List ByteArray) (v : Value) (hgo : GOk w []) (hok : g27_0 x0 = false) (ha : RepB w (Am.Good w []) (toAtom (.sl BY15) x0) v) :
    Calls Tryz.prog 15 #[v] w fun e w' => e = .returned (.string ⟨#[]⟩) ∧ Below w.heap.size w w' := by
  have HA : Aside (RepB w (Am.Good w []) (toAtom (.sl BY15) x0) v) := ha
  clear ha
  have mixed := mixed
  go_enter Tryz.func15, Tryz.ntmps15
  go_wp2_with (go_at_call 27; refine (vb15 _ x0 _ hgo HA.out).mono ?_)
  rintro e w1 ⟨rfl, b1⟩
  rw [hok]
  go_wp2
  go_ret
  exact ⟨rfl, b1⟩

def sig15 : List AT := [AT.v (.sl BY15)]
def g15_0 (x0 : List ByteArray) : ByteArray := if g27_0 x0 = true then acc15 x0 x0.length else ByteArray.mk #[]
def P15 (x0 : List ByteArray) : Prop := x0.length ≤ 1048576 ∧ ∀ x ∈ x0, x.size ≤ 1048576
def S15 : Am.Spec := { sig := sig15, pre := fun ⟨x0, _⟩ => P15 x0, res := fun ⟨x0, _⟩ => [⟨Ty.str, g15_0 x0⟩] }

theorem con15 : Contract Tryz.prog 15 S15 := contract_flat rfl fun w ⟨x0, _⟩ vs bss hg hp hw ha => by
  obtain ⟨v0, s0, _, _, rfl, _, ⟨_, ha⟩, rfl, _⟩ := ha
  obtain ⟨hl, hp⟩ : x0.length ≤ 1048576 ∧ ∀ x ∈ x0, x.size ≤ 1048576 := hp
  have hgo : GOk w [] := ⟨hg, hg.size, fun b hb => by cases hb⟩
  obtain ⟨hwf, hml, hcase⟩ := slAt_flat (t := BY15) rfl ha
  refine ⟨fun d hd => ?_, ?_⟩
  · simp only [List.mem_cons, List.mem_nil_iff, or_false] at hd
    rcases hd with rfl
    refine ⟨rfl, ?_⟩
    show (g15_0 x0).size ≤ maxLen
    unfold g15_0
    split
    · have := acc15_size x0 hp x0.length (Nat.le_refl _)
      unfold maxLen; omega
    · exact Nat.zero_le _
  · show Calls Tryz.prog 15 #[v0] w fun e w' => e = .returned (.string (g15_0 x0)) ∧ Kept [] w w'
    unfold g15_0
    by_cases h : g27_0 x0 = true
    · rw [if_pos h]
      rcases hcase with ⟨ad, rfl, rfl⟩ | ⟨b', off, cap, rfl, h2, h3, hG, hcells⟩
      · refine (walkNil15 w ad hgo h ha).mono ?_
        rintro e w' ⟨rfl, hb⟩
        exact ⟨rfl, Kept.of_below hb⟩
      · refine (walk15 w x0 b' off cap hgo h2 h3 hG.1 h hl ha hcells hp).mono ?_
        rintro e w' ⟨rfl, hb⟩
        exact ⟨rfl, Kept.of_below hb⟩
    · rw [if_neg h]
      refine (walkBad15 w x0 v0 hgo (Bool.eq_false_iff.2 h) ha).mono ?_
      rintro e w' ⟨rfl, hb⟩
      exact ⟨rfl, Kept.of_below hb⟩
end Go.Proofs.YtmbkjhbindikkaaGreatDoor

/- Function 63 (strings.Split): its contract, off what is known of the library. -/
set_option linter.unusedVariables false
set_option linter.unusedSimpArgs false
set_option maxRecDepth 100000
namespace Go.Proofs.YtmbkjhbindikkaaGreatDoor
open Go Go.Am Go.Proofs

def sig63 : List AT := [AT.v Ty.str, AT.v Ty.str]
def g63_0 (x0 x1 : ByteArray) : List ByteArray := Lib.splitB x1 0 (Lib.countB x0 x1) x0
def P63 (x0 x1 : ByteArray) : Prop := x0.size < 4294967281 ∧ 1 ≤ x1.size
def S63 : Am.Spec := { sig := sig63, pre := fun ⟨x0, x1, _⟩ => P63 x0 x1, res := fun ⟨x0, x1, _⟩ => [⟨Ty.sl Ty.str, g63_0 x0 x1⟩] }

theorem con63 : Contract Tryz.prog 63 S63 := by
  refine Contract0.up rfl rfl ?_
  rintro w ⟨x0, x1, u⟩ vs bss hgo hp ⟨v0, s0, b0, bs0, rfl, rfl, ⟨rfl, rfl, _⟩, v1, s1, b1, bs1, rfl, rfl, ⟨rfl, rfl, _⟩, rfl, rfl⟩ hn
  obtain ⟨hs, h1⟩ : x0.size < 4294967281 ∧ 1 ≤ x1.size := hp
  obtain ⟨m, hm⟩ := maxLenG hgo.inv
  refine (Tryz.strings_Split x0 x1 m w hs hm h1).mono ?_
  rintro e w' ⟨rfl, rfl⟩
  have hlen : (g63_0 x0 x1).length = Lib.countB x0 x1 + 1 := Lib.splitB_all x1 h1 0 _ _ rfl
  have hle := Lib.countB_le x1 h1 x0.size x0 (Nat.le_refl _)
  have hparts : ∀ y ∈ g63_0 x0 x1, y.size ≤ maxLen := fun y hy => by
    have := splitB_part x1 0 _ _ y hy
    unfold maxLen; omega
  have e1 : ∀ xs : List ByteArray, fcs .str xs = xs.map Value.string := by
    intro xs
    induction xs with
    | nil => rfl
    | cons a r ih => unfold fcs at ih ⊢; rw [List.map_cons, List.flatten_cons, ih]; rfl
  have ho : OwnC (w.alloc (.cells ((g63_0 x0 x1).map Value.string).toArray 9)) (.sl .str) (g63_0 x0 x1) [.slice (some ⟨w.heap.size, 0, none⟩) (Lib.countB x0 x1 + 1) (Lib.countB x0 x1 + 1)] [w.heap.size] :=
    own_flat_mk rfl hparts hlen.symm (Nat.le_of_eq hlen) (by unfold maxLen; omega) (by rw [List.size_toArray, List.length_map, hlen]; simp [Ty.size]) (heap_new w _) (freeS_zero _ _) (fun j u hj => by
      rw [e1] at hj
      rw [Nat.zero_add, ← Array.getElem?_toList]
      exact hj)
  refine ⟨[_], [], [[w.heap.size]], rfl, (Kept.refl _ _).alloc _, ⟨_, _, _, _, _, rfl, rfl, ho, rfl, rfl, rfl⟩, ⟨rfl, rfl⟩, by simp, fun b hb hg => ?_⟩
  simp at hb
  have := hg.1
  omega

end Go.Proofs.YtmbkjhbindikkaaGreatDoor

/- Function 30 (impl.endedLines): its runs between cut points. Written by a program of this repo (gen). -/
set_option linter.unusedVariables false
set_option linter.unusedSimpArgs false
set_option maxRecDepth 100000
namespace Go.Proofs.YtmbkjhbindikkaaGreatDoor
open Go Go.Am Go.Proofs
noncomputable section
def ext30 : Ext := [(63, S63)]
theorem call30_63 : Callable Tryz.prog 63 := ⟨Tryz.f63, Tryz.func63, by kernel_rfl, by kernel_rfl⟩
theorem ext30Ok : ExtOk Tryz.prog ext30 := ⟨⟨call30_63, con63⟩, trivial⟩

noncomputable def b30 : Code := bodyOf Tryz.f30
theorem hb30 : Tryz.f30.body = some b30 := by kernel_rfl
def sig30 : List AT := [AT.v (Ty.str)]
def tys30 : List Ty := [Ty.sl Ty.str, Ty.str]
def kds30 : List RK := []
def oks30 : List AT := owns sig30
def P30 (x0 : ByteArray) : Prop := ((P63 x0 (ByteArray.mk #[10])) ∧ ((InR IntKind.i64 ((↑(List.length (g63_0 x0 (ByteArray.mk #[10]))) : Int) - 1)) ∧ ((0 ≤ (↑(List.length (g63_0 x0 (ByteArray.mk #[10]))) : Int) - 1) ∧ ((↑(List.length (g63_0 x0 (ByteArray.mk #[10]))) : Int) - 1 ≤ (↑(List.length (g63_0 x0 (ByteArray.mk #[10])) - 0) : Int)) ∧ ((0 ≤ (↑(List.length (g63_0 x0 (ByteArray.mk #[10]))) : Int) - 1) ∧ ((↑(List.length (g63_0 x0 (ByteArray.mk #[10]))) : Int) - 1 < (↑(List.length (g63_0 x0 (ByteArray.mk #[10]))) : Int)) ∧ True))))
def g30_0 (x0 : ByteArray) : List ByteArray := List.drop 0 (List.take (0 + Int.toNat ((↑(List.length (g63_0 x0 (ByteArray.mk #[10]))) : Int) - 1)) (g63_0 x0 (ByteArray.mk #[10])))
def g30_1 (x0 : ByteArray) : ByteArray := List.getD (g63_0 x0 (ByteArray.mk #[10])) (Int.toNat ((↑(List.length (g63_0 x0 (ByteArray.mk #[10]))) : Int) - 1)) ByteArray.empty
theorem at30 (x0 : ByteArray) (h : P30 x0) (K : Ctx) (q : Nat → Value) : AtV Tryz.prog 30 (PostR kds30 oks30 [⟨Ty.sl Ty.str, g30_0 x0⟩, ⟨Ty.str, g30_1 x0⟩] [] [] q K) 18 K q [] [.code b30] (entE 0 0 sig30 (x0, ())) (entL sig30 (x0, ())) := by
  unfold P30 at h
  unfold g30_0 g30_1
  obtain ⟨s0, h⟩ := h
  obtain ⟨s1, h⟩ := h
  obtain ⟨s2, s3, h⟩ := h
  obtain ⟨s4, s5, h⟩ := h
  exact AtV.ret Tryz.func30 tabOk ext30Ok mixed false [] tys30 [] (a1 s0 (a1 s1 (a1 s2 (a1 s3 (a1 s4 (a1 s5 trivial)))))) (by kernel_rfl)

def S30 : Am.Spec := { sig := sig30, pre := fun ⟨x0, _⟩ => P30 x0, res := fun ⟨x0, _⟩ => [⟨Ty.sl Ty.str, g30_0 x0⟩, ⟨Ty.str, g30_1 x0⟩], kds := kds30 }
theorem con30 : Contract Tryz.prog 30 S30 := contract_of Tryz.func30 hb30 (Nat.le_of_ble_eq_true (by kernel_rfl)) (fun ⟨x0, _⟩ h _ K q => at30 x0 h K q)


end
end Go.Proofs.YtmbkjhbindikkaaGreatDoor

/- Function 14 (impl.ReadReport): its runs between cut points. Written by a program of this repo (gen). -/
set_option linter.unusedVariables false
set_option linter.unusedSimpArgs false
set_option maxRecDepth 100000
namespace Go.Proofs.YtmbkjhbindikkaaGreatDoor
open Go Go.Am Go.Proofs
noncomputable section
def ext14 : Ext := [(30, S30), (27, S27)]
theorem call14_30 : Callable Tryz.prog 30 := ⟨Tryz.f30, Tryz.func30, by kernel_rfl, by kernel_rfl⟩
theorem call14_27 : Callable Tryz.prog 27 := ⟨Tryz.f27, Tryz.func27, by kernel_rfl, by kernel_rfl⟩
theorem ext14Ok : ExtOk Tryz.prog ext14 := ⟨⟨call14_30, con30⟩, ⟨call14_27, con27⟩, trivial⟩

noncomputable def b14 : Code := bodyOf Tryz.f14
theorem hb14 : Tryz.f14.body = some b14 := by kernel_rfl
def sig14 : List AT := [AT.v (Ty.str)]
def tys14 : List Ty := [Ty.sl Ty.str, Ty.bool]
def kds14 : List RK := []
def oks14 : List AT := owns sig14
def P14 (x0 : ByteArray) : Prop := ((P30 x0) ∧ True)
def g14_0 (x0 : ByteArray) : List ByteArray := (if (!ByteArray.toList (g30_1 x0) == ByteArray.toList (ByteArray.mk #[])) = true then [] else (if (!g27_0 (g30_0 x0)) = true then [] else g30_0 x0))
def g14_1 (x0 : ByteArray) : Bool := (if (!ByteArray.toList (g30_1 x0) == ByteArray.toList (ByteArray.mk #[])) = true then Bool.false else (if (!g27_0 (g30_0 x0)) = true then Bool.false else Bool.true))
theorem at14 (x0 : ByteArray) (h : P14 x0) (K : Ctx) (q : Nat → Value) : AtV Tryz.prog 14 (PostR kds14 oks14 [⟨Ty.sl Ty.str, g14_0 x0⟩, ⟨Ty.bool, g14_1 x0⟩] [] [] q K) 19 K q [] [.code b14] (entE 0 0 sig14 (x0, ())) (entL sig14 (x0, ())) := by
  unfold P14 at h
  unfold g14_0 g14_1
  obtain ⟨s0, h⟩ := h
  by_cases b0 : (!ByteArray.toList (g30_1 x0) == ByteArray.toList (ByteArray.mk #[])) = true
  · try simp only [if_pos b0] at h ⊢
    exact AtV.ret Tryz.func14 tabOk ext14Ok mixed false [] tys14 [true, true] (a1 s0 (a1 b0 (a1 (rfl : Bool.true = Bool.true) trivial))) (by kernel_rfl)
  · try simp only [if_neg b0] at h ⊢
    replace b0 := Bool.eq_false_iff.2 b0
    by_cases b1 : (!g27_0 (g30_0 x0)) = true
    · try simp only [if_pos b1] at h ⊢
      exact AtV.ret Tryz.func14 tabOk ext14Ok mixed false [] tys14 [false, true] (a1 s0 (a1 b0 (a1 trivial (a1 b1 trivial)))) (by kernel_rfl)
    · try simp only [if_neg b1] at h ⊢
      replace b1 := Bool.eq_false_iff.2 b1
      exact AtV.ret Tryz.func14 tabOk ext14Ok mixed false [] tys14 [false, false] (a1 s0 (a1 b0 (a1 trivial (a1 b1 trivial)))) (by kernel_rfl)

def S14 : Am.Spec := { sig := sig14, pre := fun ⟨x0, _⟩ => P14 x0, res := fun ⟨x0, _⟩ => [⟨Ty.sl Ty.str, g14_0 x0⟩, ⟨Ty.bool, g14_1 x0⟩], kds := kds14 }
theorem con14 : Contract Tryz.prog 14 S14 := contract_of Tryz.func14 hb14 (Nat.le_of_ble_eq_true (by kernel_rfl)) (fun ⟨x0, _⟩ h _ K q => at14 x0 h K q)


end
end Go.Proofs.YtmbkjhbindikkaaGreatDoor

/- A law that says how functions of the program and of the specification hang together. -/
set_option linter.unusedVariables false
set_option linter.unusedSimpArgs false
set_option maxRecDepth 100000
namespace Go.Proofs.YtmbkjhbindikkaaGreatDoor
open Go Go.Am Go.Proofs

theorem reportLine (s : ByteArray) : g60_0 s = g51_0 s := by
  unfold g60_0 g70c84_0 g51_0
  rw [any102c84]
  have hq : (!(bytesOf s).any g84_0) = (bytesOf s).all ok51 := by
    rw [List.not_any_eq_all_not]
    congr 1
    funext b
    simp only [g84_0, ok51]
    by_cases h1 : b < 32 <;> by_cases h2 : b > 126 <;> simp [h1, h2] <;> omega
  rw [hq]
  by_cases h : ((s.size : Nat) : Int) ≤ 100
  · have h' : s.size ≤ 100 := by omega
    simp [h, h']
  · have h' : ¬ s.size ≤ 100 := by omega
    simp [h, h']

theorem report (x : List ByteArray) : g27_0 x = g22_0 x := by
  unfold g27_0 g22_0 g58c59_0
  rw [any83c59]
  have hq : (!x.any g59_0) = x.all g51_0 := by
    rw [List.not_any_eq_all_not]
    congr 1
    funext b
    simp only [g59_0, reportLine, Bool.not_not]
  rw [hq]
  by_cases h : ((x.length : Nat) : Int) ≤ 200
  · have h' : x.length ≤ 200 := by omega
    simp [h, h']
  · have h' : ¬ x.length ≤ 200 := by omega
    simp [h, h']

end Go.Proofs.YtmbkjhbindikkaaGreatDoor

/- A law that says how functions of the program and of the specification hang together. -/
set_option linter.unusedVariables false
set_option linter.unusedSimpArgs false
set_option maxRecDepth 100000
namespace Go.Proofs.YtmbkjhbindikkaaGreatDoor
open Go Go.Am Go.Proofs

end Go.Proofs.YtmbkjhbindikkaaGreatDoor

/- A law that says how functions of the program and of the specification hang together. -/
set_option linter.unusedVariables false
set_option linter.unusedSimpArgs false
set_option maxRecDepth 100000
namespace Go.Proofs.YtmbkjhbindikkaaGreatDoor
open Go Go.Am Go.Proofs

def runs : List ByteArray → List Int → List ByteArray
  | d :: D, c :: C => List.replicate c.toNat d ++ runs D C
  | _, _ => []

theorem runs_snoc : ∀ (D : List ByteArray) (C : List Int) (d : ByteArray) (c : Int), D.length = C.length → runs (D ++ [d]) (C ++ [c]) = runs D C ++ List.replicate c.toNat d
  | [], [], d, c, _ => by simp [runs]
  | [], c' :: C, d, c, h => by simp at h
  | d' :: D, [], d, c, h => by simp at h
  | d' :: D, c' :: C, d, c, h => by
    have ih := runs_snoc D C d c (by simpa using h)
    simp only [List.cons_append, runs, ih, List.append_assoc]

theorem bump_snoc (C : List Int) (c : Int) : bump (C ++ [c]) = C ++ [c + 1] := by
  unfold bump
  have e : Int.toNat (((C ++ [c]).length : Int) - 1) = C.length := by rw [List.length_append, List.length_singleton]; omega
  rw [e, List.getD_eq_getElem?_getD, List.getElem?_append_right (Nat.le_refl _), Nat.sub_self]
  simp only [List.getElem?_cons_zero, Option.getD_some]
  rw [List.set_append_right _ _ (Nat.le_refl _), Nat.sub_self]
  rfl

theorem take_snoc {α : Type} (d : α) (l : List α) (n : Nat) (h : n < l.length) : l.take (n + 1) = l.take n ++ [l.getD n d] := by
  rw [List.take_add_one, List.getD_eq_getElem?_getD, List.getElem?_eq_getElem h]
  rfl

structure RunInv (xs : List ByteArray) (n : Nat) (b : (List ByteArray × List Int) × Nat) : Prop where
  at_ : b.2 = n
  len : b.1.2.length = b.1.1.length
  is : runs b.1.1 b.1.2 = xs.take n
  pos : ∀ c ∈ b.1.2, 1 ≤ c
  inc : b.1.1.Pairwise fun x y => sless x y = true
  last : 1 ≤ n → ∃ D, b.1.1 = D ++ [xs.getD (n - 1) ByteArray.empty]
  none_ : n = 0 → b.1.1 = []

theorem snoc_of {l : List Int} (h : l ≠ []) : ∃ C c, l = C ++ [c] := ⟨l.dropLast, l.getLast h, (List.dropLast_concat_getLast h).symm⟩

theorem run_step {xs : List ByteArray} (hs : xs.Pairwise sle) {n : Nat} {b : (List ByteArray × List Int) × Nat} (hn : n < xs.length) (h : RunInv xs n b) : RunInv xs (n + 1) (cntStep xs b (xs.getD n ByteArray.empty)) := by
  obtain ⟨⟨D, C⟩, i⟩ := b
  obtain ⟨h1, h2, h3, h4, h5, h6, h7⟩ := h
  simp only at h1 h2 h3 h4 h5 h6 h7
  subst h1
  obtain ⟨x, hx⟩ : ∃ x, xs.getD i ByteArray.empty = x := ⟨_, rfl⟩
  have ht := take_snoc ByteArray.empty xs i hn
  rw [hx] at ht ⊢
  have ord : ∀ j, j < i → sle (xs.getD j ByteArray.empty) x := fun j hj => by
    have := List.pairwise_iff_getElem.1 hs j i (by omega) hn hj
    rw [← hx, List.getD_eq_getElem?_getD, List.getD_eq_getElem?_getD, List.getElem?_eq_getElem (by omega), List.getElem?_eq_getElem hn]
    exact this
  unfold cntStep
  by_cases hc : cntNew xs i x = true
  · rw [if_pos hc, bump_snoc]
    have c1 : (Int.toNat (0 + 1)) = 1 := rfl
    refine ⟨rfl, by simp [h2], ?_, fun c hcm => ?_, ?_, fun _ => ⟨D, by rw [Nat.add_sub_cancel, hx]⟩, fun h => by omega⟩
    · show runs (D ++ [x]) (C ++ [0 + 1]) = _
      rw [runs_snoc D C x _ h2.symm, h3, ht, c1]
      rfl
    · rcases List.mem_append.1 hcm with h | h
      · exact h4 c h
      · rw [List.mem_singleton.1 h]; decide
    · show (D ++ [x]).Pairwise _
      rw [List.pairwise_append]
      refine ⟨h5, List.pairwise_singleton _ _, fun d hd y hy => ?_⟩
      rw [List.mem_singleton.1 hy]
      cases i with
      | zero => rw [h7 rfl] at hd; cases hd
      | succ i =>
        obtain ⟨D', hD'⟩ := h6 (by omega)
        rw [Nat.add_sub_cancel] at hD'
        obtain ⟨y, hy⟩ : ∃ y, xs.getD i ByteArray.empty = y := ⟨_, rfl⟩
        have o := ord i (by omega)
        rw [hy] at hD' o
        have hne : y ≠ x := fun e => by
          unfold cntNew at hc
          rw [Nat.add_sub_cancel, hy, e] at hc
          simp at hc
        have hlt : sless y x = true := by
          cases h : sless y x with
          | true => rfl
          | false => exact absurd (sless_tri h o) hne
        rw [hD'] at hd h5
        rcases List.mem_append.1 hd with hd | hd
        · rw [List.pairwise_append] at h5
          exact sless_trans (h5.2.2 d hd y (by simp)) hlt
        · rw [List.mem_singleton.1 hd]; exact hlt
  · rw [if_neg hc]
    cases i with
    | zero => exact absurd (by unfold cntNew; simp) hc
    | succ i =>
      obtain ⟨D', hD'⟩ := h6 (by omega)
      rw [Nat.add_sub_cancel] at hD'
      have hne : C ≠ [] := fun e => by rw [e, hD'] at h2; simp at h2
      obtain ⟨C', c, rfl⟩ := snoc_of hne
      have hxy : xs.getD i ByteArray.empty = x := by
        unfold cntNew at hc
        rw [Nat.add_sub_cancel] at hc
        by_cases e : xs.getD i ByteArray.empty = x
        · exact e
        · exfalso
          apply hc
          rw [Bool.or_eq_true, Bool.not_eq_true', Bool.eq_false_iff]
          exact .inr fun h => e ((bytes_eq _ _).1 h).symm
      rw [bump_snoc]
      have hcp := h4 c (by simp)
      rw [hxy] at hD'
      refine ⟨rfl, by simp at h2 ⊢; exact h2, ?_, fun c2 hcm => ?_, h5, fun _ => ⟨D', by rw [Nat.add_sub_cancel, hx]; exact hD'⟩, fun h => by omega⟩
      · show runs D (C' ++ [c + 1]) = _
        rw [hD'] at h2 h3 ⊢
        have hl : D'.length = C'.length := by simpa using h2.symm
        rw [runs_snoc _ _ _ _ hl] at h3 ⊢
        rw [ht, ← h3, List.append_assoc, show (c + 1).toNat = c.toNat + 1 by omega, List.replicate_succ']
      · rcases List.mem_append.1 hcm with h | h
        · exact h4 c2 (by simp [h])
        · rw [List.mem_singleton.1 h]; omega

theorem run_all {xs : List ByteArray} (hs : xs.Pairwise sle) : RunInv xs xs.length (counted xs) := by
  have key : ∀ (k n : Nat) b, n + k = xs.length → RunInv xs n b → RunInv xs xs.length ((xs.drop n).foldl (cntStep xs) b) := by
    intro k
    induction k with
    | zero =>
      intro n b hn h
      rw [List.drop_of_length_le (by omega)]
      have : n = xs.length := by omega
      subst this
      exact h
    | succ k ih =>
      intro n b hn h
      rw [drop_get xs n ByteArray.empty (by omega), List.foldl_cons]
      exact ih (n + 1) _ (by omega) (run_step hs (by omega) h)
  have := key xs.length 0 (([], []), 0) (by omega) ⟨rfl, rfl, rfl, by simp, List.Pairwise.nil, fun h => by omega, fun _ => rfl⟩
  rw [List.drop_zero] at this
  exact this

def runAt : List Int → Nat → Nat
  | c :: C, i + 1 => c.toNat + runAt C i
  | _, _ => 0

theorem runAt_succ : ∀ (C : List Int) (i : Nat), i < C.length → runAt C (i + 1) = runAt C i + (C.getD i 0).toNat
  | [], i, h => by simp at h
  | c :: C, 0, _ => by cases C <;> simp [runAt]
  | c :: C, i + 1, h => by
    have := runAt_succ C i (by simpa using h)
    simp only [runAt, List.getD_cons_succ] at this ⊢
    omega

theorem runs_get : ∀ (D : List ByteArray) (C : List Int), D.length = C.length → ∀ (i : Nat), i < D.length → runAt C i + (C.getD i 0).toNat ≤ (runs D C).length ∧ ∀ k, k < (C.getD i 0).toNat → (runs D C).getD (runAt C i + k) ByteArray.empty = D.getD i ByteArray.empty
  | [], C, _, i, h => by simp at h
  | d :: D, [], h, i, _ => by simp at h
  | d :: D, c :: C, hl, 0, _ => by
    refine ⟨by simp [runs, runAt], fun k hk => ?_⟩
    rw [List.getD_cons_zero] at hk ⊢
    simp only [runs, runAt, Nat.zero_add]
    rw [List.getD_eq_getElem?_getD, List.getElem?_append_left (by simpa using hk), List.getElem?_replicate, if_pos hk]
    rfl
  | d :: D, c :: C, hl, i + 1, hi => by
    obtain ⟨a, b⟩ := runs_get D C (by simpa using hl) i (by simpa using hi)
    refine ⟨?_, fun k hk => ?_⟩
    · simp only [runs, runAt, List.getD_cons_succ, List.length_append, List.length_replicate] at a ⊢
      omega
    · rw [List.getD_cons_succ] at hk ⊢
      have := b k hk
      simp only [runs, runAt]
      rw [List.getD_eq_getElem?_getD, List.getElem?_append_right (by simp; omega), List.length_replicate, show c.toNat + runAt C i + k - c.toNat = runAt C i + k by omega, ← List.getD_eq_getElem?_getD]
      exact this

theorem runs_mem : ∀ (D : List ByteArray) (C : List Int) (x : ByteArray), x ∈ runs D C → x ∈ D
  | [], C, x, h => by simp [runs] at h
  | d :: D, [], x, h => by simp [runs] at h
  | d :: D, c :: C, x, h => by
    simp only [runs] at h
    rcases List.mem_append.1 h with h | h
    · rw [(List.mem_replicate.1 h).2]; exact List.mem_cons_self ..
    · exact List.mem_cons_of_mem _ (runs_mem D C x h)

def isB (y x : ByteArray) : Bool := ByteArray.toList x == ByteArray.toList y
theorem isB_iff {y x : ByteArray} : isB y x = true ↔ x = y := bytes_eq x y

theorem runs_count : ∀ (D : List ByteArray) (C : List Int), D.length = C.length → D.Pairwise (fun x y => sless x y = true) → ∀ (i : Nat), i < D.length → (runs D C).countP (isB (D.getD i ByteArray.empty)) = (C.getD i 0).toNat
  | [], C, _, _, i, h => by simp at h
  | d :: D, [], h, _, i, _ => by simp at h
  | d :: D, c :: C, hl, hp, 0, _ => by
    rw [List.pairwise_cons] at hp
    rw [List.getD_cons_zero, List.getD_cons_zero]
    simp only [runs]
    rw [List.countP_append]
    have a : List.countP (isB d) (List.replicate c.toNat d) = c.toNat := by
      rw [List.countP_replicate, if_pos (isB_iff.2 rfl)]
    have b : List.countP (isB d) (runs D C) = 0 := by
      rw [List.countP_eq_zero]
      intro x hx he
      have := hp.1 x (runs_mem D C x hx)
      rw [isB_iff.1 he, sless_irrefl] at this
      cases this
    rw [a, b]
    rfl
  | d :: D, c :: C, hl, hp, i + 1, hi => by
    rw [List.pairwise_cons] at hp
    have hi' : i < D.length := by simpa using hi
    have ih := runs_count D C (by simpa using hl) hp.2 i hi'
    rw [List.getD_cons_succ, List.getD_cons_succ]
    simp only [runs]
    rw [List.countP_append, ih]
    have a : List.countP (isB (D.getD i ByteArray.empty)) (List.replicate c.toNat d) = 0 := by
      rw [List.countP_eq_zero]
      intro x hx he
      have h1 := isB_iff.1 he
      rw [(List.mem_replicate.1 hx).2] at h1
      have := hp.1 _ (mem_getD D i ByteArray.empty hi')
      rw [← h1, sless_irrefl] at this
      cases this
    rw [a, Nat.zero_add]

theorem runs_sum : ∀ (D : List ByteArray) (C : List Int), D.length = C.length → (∀ c ∈ C, 1 ≤ c) → ∀ v : Int, C.foldl (fun a b => a + b) v = v + ((runs D C).length : Int)
  | [], [], _, _, v => by simp [runs]
  | [], c :: C, h, _, v => by simp at h
  | d :: D, [], h, _, v => by simp at h
  | d :: D, c :: C, hl, hp, v => by
    rw [List.foldl_cons, runs_sum D C (by simpa using hl) (fun x hx => hp x (List.mem_cons_of_mem _ hx)) (v + c)]
    have := hp c (List.mem_cons_self ..)
    simp only [runs, List.length_append, List.length_replicate]
    omega

theorem counted_law (rows : List ByteArray) : ∃ D C, (counted (sortB rows)).1 = (D, C) ∧ (sortB rows).length = rows.length ∧ C.length = D.length ∧ D.length ≤ rows.length ∧ (∀ c ∈ C, 1 ≤ c ∧ c ≤ (rows.length : Int)) ∧ C.foldl (fun a b => a + b) 0 = (rows.length : Int) ∧
    ∀ i, i < D.length → (1 ≤ i → sless (D.getD (i - 1) ByteArray.empty) (D.getD i ByteArray.empty) = true) ∧ 1 ≤ C.getD i 0 ∧ (runAt C i : Int) + C.getD i 0 ≤ (rows.length : Int) ∧ (rows.countP (isB (D.getD i ByteArray.empty)) : Int) = C.getD i 0 ∧ (∀ k : Nat, (k : Int) < C.getD i 0 → (sortB rows).getD (runAt C i + k) ByteArray.empty = D.getD i ByteArray.empty) ∧ (runAt C (i + 1) : Int) = runAt C i + C.getD i 0 := by
  have hr := run_all (sortB_sorted rows)
  have hc := counted_inv (sortB rows)
  obtain ⟨⟨⟨D, C⟩, n⟩, hb⟩ : ∃ b, counted (sortB rows) = b := ⟨_, rfl⟩
  rw [hb] at hr hc
  obtain ⟨h1, h2, h3, h4, h5, _, _⟩ := hr
  obtain ⟨g1, g2, g3, g4, g5⟩ := hc
  simp only at h1 h2 h3 h4 h5 g1 g2 g3 g4 g5
  have hl : (sortB rows).length = rows.length := (sortB_perm rows).length_eq
  rw [List.take_length] at h3
  refine ⟨D, C, by rw [hb], hl, h2, by omega, fun c hcm => ⟨h4 c hcm, by have := (g5 c hcm).2; omega⟩, ?_, fun i hi => ?_⟩
  · rw [runs_sum D C h2.symm h4 0, h3]; omega
  · obtain ⟨r1, r2⟩ := runs_get D C h2.symm i hi
    rw [h3] at r1 r2
    have hcp := h4 _ (mem_getD C i 0 (by omega))
    have hcount := runs_count D C h2.symm h5 i hi
    rw [h3, (sortB_perm rows).countP_eq] at hcount
    refine ⟨fun h => ?_, hcp, by omega, by omega, fun k hk => r2 k (by omega), ?_⟩
    · have := List.pairwise_iff_getElem.1 h5 (i - 1) i (by omega) hi (by omega)
      rw [List.getD_eq_getElem?_getD, List.getD_eq_getElem?_getD, List.getElem?_eq_getElem hi, List.getElem?_eq_getElem (by omega)]
      exact this
    · rw [runAt_succ C i (by omega)]; omega

end Go.Proofs.YtmbkjhbindikkaaGreatDoor

/- A law that says how functions of the program and of the specification hang together. -/
set_option linter.unusedVariables false
set_option linter.unusedSimpArgs false
set_option maxRecDepth 100000
namespace Go.Proofs.YtmbkjhbindikkaaGreatDoor
open Go Go.Am Go.Proofs

def Dat (y m d : Int) : Prop := (2000 ≤ y ∧ y ≤ 2099) ∧ (1 ≤ m ∧ m ≤ 12) ∧ (1 ≤ d ∧ d ≤ g111_0 y m)

def bas (y : Int) : Int := (y - 2000) * 365 + (y - 1997) / 4

theorem day_at {y m d : Int} (hy : 2000 ≤ y) : g82_0 y m d = bas y + ms82 y (m - 1).toNat + d - 1 := by
  have e : Int.tdiv (y - 1997) 4 = (y - 1997) / 4 := Int.tdiv_eq_ediv_of_nonneg (by omega)
  unfold g82_0 bs82 bas
  rw [e]; omega

theorem win {x a b : Int} : g40_0 x a b = true ↔ a ≤ x ∧ x ≤ b := by
  unfold g40_0
  by_cases c1 : x ≥ a
  · by_cases c2 : x ≤ b
    · simp [c1, c2]
    · simp [c1, c2]
  · have : ¬ a ≤ x := c1
    simp [c1, this]

theorem ms_mono {y : Int} (hy : 2000 ≤ y ∧ y ≤ 2099) (i : Nat) : ∀ j, ms82 y i ≤ ms82 y (i + j)
  | 0 => Int.le_refl _
  | j + 1 => by
    have := ms_mono hy i j
    have := (len82 hy (m := ((i + j : Nat) : Int) + 1)).2.1
    rw [← Nat.add_assoc]
    simp only [ms82]
    omega

theorem ms_year {y : Int} (hy : 2000 ≤ y ∧ y ≤ 2099) : bas y + ms82 y 12 = bas (y + 1) := by
  have et : Int.tmod y 4 = y % 4 := Int.tmod_eq_emod_of_nonneg (by omega)
  have e : ms82 y 12 = if y % 4 = 0 then 366 else 365 := by
    by_cases hz : y % 4 = 0 <;> simp [ms82, g111_0, et, hz]
  rw [e]
  unfold bas
  split <;> omega

theorem year_back {y day : Int} (hy : 2000 ≤ y ∧ y ≤ 2099) (h1 : bas y ≤ day) (h2 : day < bas (y + 1)) : ∀ (k : Nat) (z : Int), z + k = 2099 → 2000 ≤ z → z ≤ y → yr55 day k z = y := by
  have e1 : ∀ z : Int, 2000 ≤ z → g82_0 z 1 1 = bas z := fun z hz => by
    rw [day_at hz]
    show bas z + 0 + 1 - 1 = bas z
    omega
  intro k
  induction k with
  | zero => intro z hz _ hle; show z = y; omega
  | succ k ih =>
    intro z hz h0 hle
    unfold yr55
    rw [e1 (z + 1) (by omega)]
    by_cases hlt : z < y
    · rw [if_pos (by have : bas (z + 1) ≤ bas y := by unfold bas; omega
                     omega)]
      exact ih (z + 1) (by omega) (by omega) (by omega)
    · have : z = y := by omega
      subst this
      rw [if_neg (by omega)]

theorem month_back {y m day : Int} (hy : 2000 ≤ y ∧ y ≤ 2099) (hm : 1 ≤ m ∧ m ≤ 12) (h1 : bas y + ms82 y (m - 1).toNat ≤ day) (h2 : day < bas y + ms82 y m.toNat) : ∀ (k : Nat) (z : Int), z + k = 12 → 1 ≤ z → z ≤ m → mo55 day y k z = m := by
  intro k
  induction k with
  | zero => intro z hz _ hle; show z = m; omega
  | succ k ih =>
    intro z hz h0 hle
    unfold mo55
    rw [day_at hy.1, show z + 1 - 1 = z by omega]
    by_cases hlt : z < m
    · rw [if_pos (by
        have := ms_mono hy z.toNat ((m - 1).toNat - z.toNat)
        rw [show z.toNat + ((m - 1).toNat - z.toNat) = (m - 1).toNat by omega] at this
        omega)]
      exact ih (z + 1) (by omega) (by omega) (by omega)
    · have : z = m := by omega
      subst this
      rw [if_neg (by omega)]

theorem date_back {y m d : Int} (h : Dat y m d) : (0 ≤ g82_0 y m d ∧ g82_0 y m d ≤ 36524) ∧ g55_0 (g82_0 y m d) = y ∧ g55_1 (g82_0 y m d) = m ∧ g55_2 (g82_0 y m d) = d := by
  obtain ⟨h0, h1, h2⟩ := h
  have ed := day_at (m := m) (d := d) h0.1
  have hb := msb82 h0 (m - 1).toNat
  have hms : ms82 y m.toNat = ms82 y (m - 1).toNat + g111_0 y m := by
    obtain ⟨k, hk⟩ : ∃ k : Nat, m = (k : Int) + 1 := ⟨(m - 1).toNat, by omega⟩
    subst hk
    rw [show ((k : Int) + 1).toNat = k + 1 by omega, show ((k : Int) + 1 - 1).toNat = k by omega]
    rfl
  have hy12 := ms_year h0
  have hmono := ms_mono h0 m.toNat (12 - m.toNat)
  rw [show m.toNat + (12 - m.toNat) = 12 by omega] at hmono
  have hbas : 0 ≤ bas y ∧ bas (y + 1) ≤ 36525 := by unfold bas; omega
  have a0 : g55_0 (g82_0 y m d) = y := year_back h0 (by omega) (by omega) 99 2000 (by omega) (by omega) (by omega)
  have a1 : g55_1 (g82_0 y m d) = m := by
    unfold g55_1
    rw [a0]
    exact month_back h0 h1 (by omega) (by omega) 11 1 (by omega) (by omega) (by omega)
  refine ⟨by omega, a0, a1, ?_⟩
  unfold g55_2
  rw [a0, a1, day_at (m := m) (d := 1) h0.1]
  omega

end Go.Proofs.YtmbkjhbindikkaaGreatDoor

/- A law that says how functions of the program and of the specification hang together. -/
set_option linter.unusedVariables false
set_option linter.unusedSimpArgs false
set_option maxRecDepth 100000
namespace Go.Proofs.YtmbkjhbindikkaaGreatDoor
open Go Go.Am Go.Proofs

def D10 (a : Nat) : UInt8 := UInt8.ofNat (48 + a)
theorem num_one {n : Nat} (h : n < 10) : numB (n : Int) = ⟨⟨[D10 n]⟩⟩ := by
  unfold numB Lib.itoa
  rw [if_neg (by omega), Int.toNat_natCast, Lib.decDigits_one h]
  rfl
theorem num_two {n : Nat} (h1 : 10 ≤ n) (h : n < 100) : numB (n : Int) = ⟨⟨[D10 (n / 10), D10 (n % 10)]⟩⟩ := by
  unfold numB Lib.itoa
  rw [if_neg (by omega), Int.toNat_natCast, Lib.decDigits_two (by omega) h]
  rfl

theorem pad_two {n : Nat} (h : n < 100) : P42 (n : Int) 2 ∧ g42_0 (n : Int) 2 = ⟨⟨[D10 (n / 10), D10 (n % 10)]⟩⟩ := by
  unfold P42 g42_0
  have e : g20_0 (n : Int) = numB (n : Int) := rfl
  rw [e]
  by_cases h1 : n < 10
  · rw [num_one h1]
    have e0 : n / 10 = 0 := by omega
    have e1 : n % 10 = n := by omega
    rw [e0, e1]
    have e2 : (ByteArray.mk (Array.mk [D10 n])).size = 1 := rfl
    rw [e2]
    exact ⟨⟨⟨rfl, trivial⟩, by rw [i64_iff]; decide, ⟨by decide, by decide⟩, by show 1 + 1 ≤ _; decide, trivial⟩, rfl⟩
  · rw [num_two (by omega) h]
    have e2 : (ByteArray.mk (Array.mk [D10 (n / 10), D10 (n % 10)])).size = 2 := rfl
    rw [e2]
    exact ⟨⟨⟨rfl, trivial⟩, by rw [i64_iff]; decide, ⟨by decide, by decide⟩, by show 0 + 2 ≤ _; decide, trivial⟩, rfl⟩

end Go.Proofs.YtmbkjhbindikkaaGreatDoor

/- A law that says how functions of the program and of the specification hang together. -/
set_option linter.unusedVariables false
set_option linter.unusedSimpArgs false
set_option maxRecDepth 100000
namespace Go.Proofs.YtmbkjhbindikkaaGreatDoor
open Go Go.Am Go.Proofs

def isD (b : UInt8) : Prop := 48 ≤ b.toNat ∧ b.toNat ≤ 57
def dval : List UInt8 → Nat → Nat
  | [], n => n
  | b :: r, n => dval r (10 * n + (b.toNat - 48))
theorem dval_append : ∀ (l : List UInt8) (b : UInt8) (n : Nat), dval (l ++ [b]) n = 10 * dval l n + (b.toNat - 48)
  | [], _, _ => rfl
  | c :: r, b, n => dval_append r b _
theorem dsign_nat {a : Nat} (h : a < 10) : (UInt8.ofNat (48 + a)).toNat = 48 + a := by rw [UInt8.toNat_ofNat']; omega

theorem dec_facts (n : Nat) : (∀ b ∈ Lib.decDigits n, isD b) ∧ dval (Lib.decDigits n) 0 = n ∧ 0 < (Lib.decDigits n).length ∧ (1 ≤ n → ((Lib.decDigits n).getD 0 0).toNat ≠ 48) := by
  induction n using Nat.strongRecOn with
  | _ n ih =>
    by_cases h : n < 10
    · rw [Lib.decDigits, dif_pos h]
      have e := dsign_nat h
      refine ⟨fun b hb => ?_, ?_, by simp, fun h1 => ?_⟩
      · rw [List.mem_singleton.1 hb]; unfold isD; omega
      · show 10 * 0 + ((UInt8.ofNat (48 + n)).toNat - 48) = n; omega
      · show (UInt8.ofNat (48 + n)).toNat ≠ 48; omega
    · rw [Lib.decDigits, dif_neg h]
      obtain ⟨i1, i2, i3, i4⟩ := ih (n / 10) (by omega)
      have e := dsign_nat (a := n % 10) (by omega)
      refine ⟨fun b hb => ?_, ?_, by simp, fun h1 => ?_⟩
      · rcases List.mem_append.1 hb with hb | hb
        · exact i1 b hb
        · rw [List.mem_singleton.1 hb]; unfold isD; omega
      · rw [dval_append, i2, e]; omega
      · have i4 := i4 (by omega)
        cases hd : Lib.decDigits (n / 10) with
        | nil => rw [hd] at i3; simp at i3
        | cons c r => rw [hd] at i4; exact i4

theorem dec_len : ∀ (k n : Nat), n < 10 ^ (k + 1) → (Lib.decDigits n).length ≤ k + 1
  | 0, n, h => by rw [Lib.decDigits, dif_pos (by simpa using h)]; simp
  | k + 1, n, h => by
    rw [Lib.decDigits]
    split
    · simp
    · have := dec_len k (n / 10) (by rw [Nat.pow_succ] at h; omega)
      simp; omega


end Go.Proofs.YtmbkjhbindikkaaGreatDoor

/- A law that says how functions of the program and of the specification hang together. -/
set_option linter.unusedVariables false
set_option linter.unusedSimpArgs false
set_option maxRecDepth 100000
namespace Go.Proofs.YtmbkjhbindikkaaGreatDoor
open Go Go.Am Go.Proofs

end Go.Proofs.YtmbkjhbindikkaaGreatDoor

/- A law that says how functions of the program and of the specification hang together. -/
set_option linter.unusedVariables false
set_option linter.unusedSimpArgs false
set_option maxRecDepth 100000
namespace Go.Proofs.YtmbkjhbindikkaaGreatDoor
open Go Go.Am Go.Proofs

def y4 (y : Nat) : List UInt8 := [50, 48, D10 (y % 100 / 10), D10 (y % 10)]
def dT (y m d : Nat) : ByteArray := ⟨⟨y4 y ++ 45 :: ([D10 (m / 10), D10 (m % 10)] ++ 45 :: [D10 (d / 10), D10 (d % 10)])⟩⟩

theorem dec_y4 {y : Nat} (h : 2000 ≤ y ∧ y ≤ 2099) : Lib.decDigits y = y4 y := by
  have e1 : y / 10 / 10 = 20 := by omega
  have e2 : y / 10 % 10 = y % 100 / 10 := by omega
  rw [Lib.decDigits, dif_neg (by omega), Lib.decDigits, dif_neg (by omega), e1, e2, Lib.decDigits, dif_neg (by decide), Lib.decDigits, dif_pos (by decide)]
  rfl

theorem dec_big {y : Nat} (h : 2000 ≤ y ∧ y ≤ 2099) : g20_0 (y : Int) = ⟨⟨y4 y⟩⟩ := by
  rw [← dec_y4 h]
  show numB _ = _
  unfold numB Lib.itoa
  rw [if_neg (by omega), Int.toNat_natCast]

theorem date_nat {y m d : Int} (h : Dat y m d) : ∃ a b c : Nat, y = (a : Int) ∧ m = (b : Int) ∧ d = (c : Int) ∧ (2000 ≤ a ∧ a ≤ 2099) ∧ (1 ≤ b ∧ b ≤ 12) ∧ (1 ≤ c ∧ c ≤ 31) := by
  obtain ⟨h0, h1, h2⟩ := h
  have := (len82 h0 (m := m)).2.2
  exact ⟨y.toNat, m.toNat, d.toNat, by omega, by omega, by omega, by omega, by omega, by omega⟩

theorem date_text {a b c : Nat} (h : Dat (a : Int) (b : Int) (c : Int)) (ha : 2000 ≤ a ∧ a ≤ 2099) (hb : b ≤ 12) (hc : c ≤ 31) : g25_0 (g82_0 (a : Int) (b : Int) (c : Int)) = dT a b c := by
  obtain ⟨hd, e0, e1, e2⟩ := date_back h
  have hi : g54_0 (g82_0 (a : Int) (b : Int) (c : Int)) = true := win.2 hd
  unfold g25_0
  rw [hi, e0, e1, e2, dec_big ha, (pad_two (n := b) (by omega)).2, (pad_two (n := c) (by omega)).2]
  apply ByteArray.ext
  apply Array.ext'
  simp [ByteArray.data_append, dT]

theorem text_pre {y m d : Int} (h : Dat y m d) : P25 (g82_0 y m d) := by
  obtain ⟨a, b, c, rfl, rfl, rfl, ha, hb, hc⟩ := date_nat h
  obtain ⟨hd, e0, e1, e2⟩ := date_back h
  unfold P25
  rw [e0, e1, e2, dec_big ha]
  obtain ⟨p1, q1⟩ := pad_two (n := b) (by omega)
  obtain ⟨p2, q2⟩ := pad_two (n := c) (by omega)
  rw [q1, q2]
  have s4 : (ByteArray.mk ⟨y4 a⟩).size = 4 := rfl
  have s1 : (ByteArray.mk #[45]).size = 1 := rfl
  have s2 : ∀ u v : UInt8, (ByteArray.mk ⟨[u, v]⟩).size = 2 := fun _ _ => rfl
  by_cases hc : (!g54_0 (g82_0 (a : Int) (b : Int) (c : Int))) = true
  · rw [if_pos hc]; trivial
  · rw [if_neg hc]
    simp only [ByteArray.size_append, s4, s1, s2]
    exact ⟨⟨by omega, by omega⟩, ⟨rfl, trivial⟩, by omega, p1, by omega, by omega, p2, by omega, trivial⟩

end Go.Proofs.YtmbkjhbindikkaaGreatDoor

/- A law that says how functions of the program and of the specification hang together. -/
set_option linter.unusedVariables false
set_option linter.unusedSimpArgs false
set_option maxRecDepth 100000
namespace Go.Proofs.YtmbkjhbindikkaaGreatDoor
open Go Go.Am Go.Proofs

theorem bas_first : bas 2000 = 0 := by decide

theorem date_fwd {day : Int} (h : 0 ≤ day ∧ day ≤ 36524) : ∃ y m d : Int, Dat y m d ∧ g82_0 y m d = day := by
  have hy : ∀ k : Nat, day < bas (2000 + (k : Int)) → ∃ y : Int, (2000 ≤ y ∧ y < 2000 + (k : Int)) ∧ bas y ≤ day ∧ day < bas (y + 1) := by
    intro k
    induction k with
    | zero => intro hk; have : bas (2000 + ((0 : Nat) : Int)) = 0 := bas_first; omega
    | succ k ih =>
      intro hk
      by_cases hc : day < bas (2000 + (k : Int))
      · obtain ⟨y, h1, h2⟩ := ih hc
        exact ⟨y, by omega, h2⟩
      · exact ⟨2000 + (k : Int), by omega, by omega, by rw [Int.add_assoc]; simpa using hk⟩
  obtain ⟨y, hy1, hy2, hy3⟩ := hy 100 (by have : bas (2000 + ((100 : Nat) : Int)) = 36525 := by decide
                                          omega)
  have hyr : 2000 ≤ y ∧ y ≤ 2099 := by omega
  have hm : ∀ k : Nat, day < bas y + ms82 y k → ∃ j : Nat, j < k ∧ bas y + ms82 y j ≤ day ∧ day < bas y + ms82 y (j + 1) := by
    intro k
    induction k with
    | zero => intro hk; simp only [ms82] at hk; omega
    | succ k ih =>
      intro hk
      by_cases hc : day < bas y + ms82 y k
      · obtain ⟨j, h1, h2⟩ := ih hc
        exact ⟨j, by omega, h2⟩
      · exact ⟨k, by omega, by omega, hk⟩
  obtain ⟨j, hj, hj1, hj2⟩ := hm 12 (by rw [ms_year hyr]; exact hy3)
  simp only [ms82] at hj2
  refine ⟨y, (j : Int) + 1, day - (bas y + ms82 y j) + 1, ⟨hyr, by omega, by omega, by omega⟩, ?_⟩
  rw [day_at hyr.1]
  have e : ((j : Int) + 1 - 1).toNat = j := by omega
  rw [e]; omega

end Go.Proofs.YtmbkjhbindikkaaGreatDoor

/- A law that says how functions of the program and of the specification hang together. -/
set_option linter.unusedVariables false
set_option linter.unusedSimpArgs false
set_option maxRecDepth 100000
namespace Go.Proofs.YtmbkjhbindikkaaGreatDoor
open Go Go.Am Go.Proofs

def pz : Nat → Nat → List UInt8
  | 0, _ => []
  | d + 1, n => pz d (n / 10) ++ [UInt8.ofNat (48 + n % 10)]

theorem pz_len : ∀ d n, (pz d n).length = d
  | 0, _ => rfl
  | d + 1, n => by rw [pz, List.length_append, pz_len d]; rfl

theorem pz_zero : ∀ d, pz d 0 = List.replicate d 48
  | 0 => rfl
  | d + 1 => by
    rw [pz, Nat.zero_div, pz_zero d, List.replicate_succ']
    rfl

theorem dec_zeros : ∀ (d n : Nat), 1 ≤ d → n < 10 ^ d → List.replicate (d - (Lib.decDigits n).length) 48 ++ Lib.decDigits n = pz d n
  | 0, _, h, _ => by omega
  | d + 1, n, _, h => by
    rw [pz]
    by_cases hs : n < 10
    · rw [Lib.decDigits, dif_pos hs, show n / 10 = 0 by omega, show n % 10 = n by omega, pz_zero]
      rfl
    · rw [Nat.pow_succ] at h
      have hd : 1 ≤ d := by
        rcases Nat.eq_zero_or_pos d with rfl | hd
        · simp at h; omega
        · exact hd
      have ih := dec_zeros d (n / 10) hd (by omega)
      rw [Lib.decDigits, dif_neg hs, List.length_append, List.length_singleton, Nat.add_sub_add_right, ← List.append_assoc, ih]

end Go.Proofs.YtmbkjhbindikkaaGreatDoor

/- A law that says how functions of the program and of the specification hang together. -/
set_option linter.unusedVariables false
set_option linter.unusedSimpArgs false
set_option maxRecDepth 100000
namespace Go.Proofs.YtmbkjhbindikkaaGreatDoor
open Go Go.Am Go.Proofs

def fixT (neg : Bool) (A d : Nat) : ByteArray := ⟨⟨(if neg then [45] else []) ++ Lib.decDigits (A / 10 ^ d) ++ 46 :: pz d (A % 10 ^ d)⟩⟩

theorem pad_pz {k d : Nat} (h : k < 10 ^ d) (h1 : 1 ≤ d) : g42_0 (k : Int) (d : Int) = ⟨⟨pz d k⟩⟩ := by
  unfold g42_0
  have e : g20_0 (k : Int) = ⟨⟨Lib.decDigits k⟩⟩ := by
    show numB _ = _
    unfold numB Lib.itoa
    rw [if_neg (by omega), Int.toNat_natCast]
  have hs : (ByteArray.mk ⟨Lib.decDigits k⟩).size = (Lib.decDigits k).length := rfl
  rw [e, hs, ← dec_zeros d k h1 h]
  have hc : (if 0 < (d : Int) - ((Lib.decDigits k).length : Int) then (d : Int) - ((Lib.decDigits k).length : Int) else 0) = ((d - (Lib.decDigits k).length : Nat) : Int) := by
    split <;> omega
  rw [hc]
  apply ByteArray.ext
  apply Array.ext'
  have hr : Lib.repeatL (List.replicate 1 48) (d - (Lib.decDigits k).length) = List.replicate (d - (Lib.decDigits k).length) (48 : UInt8) := by
    rw [Lib.repeatL_replicate, Nat.mul_one]
  unfold g47_0
  rw [Int.toNat_natCast, ByteArray.data_append, Array.toList_append]
  show Lib.repeatL [48] _ ++ Lib.decDigits k = _
  have h48 : ([48] : List UInt8) = List.replicate 1 48 := rfl
  rw [h48, hr]

theorem fix_i {n : Int} {d : Nat} (hn : -1000000000 ≤ n ∧ n ≤ 1000000000) (h1 : 1 ≤ d) (h6 : d ≤ 6) : g19_0 n (d : Int) = fixT (decide (n < 0)) n.natAbs d := by
  have dk : ∀ k : Nat, g20_0 (k : Int) = ⟨⟨Lib.decDigits k⟩⟩ := fun k => by
    show numB _ = _
    unfold numB Lib.itoa
    rw [if_neg (by omega), Int.toNat_natCast]
  have hd := dk (n.natAbs / 10 ^ d)
  have hp : n.natAbs % 10 ^ d < 10 ^ d := Nat.mod_lt _ (Nat.pos_of_ne_zero (by have := Nat.one_le_pow d 10 (by decide); omega))
  have w0 : g40_0 n (-1000000000) 1000000000 = true := by
    unfold g40_0
    rw [if_pos (by simp only [decide_eq_true_eq]; omega)]
    simp only [decide_eq_true_eq]; omega
  have w1 : g40_0 (d : Int) 1 6 = true := by
    unfold g40_0
    rw [if_pos (by simp only [decide_eq_true_eq]; omega)]
    simp only [decide_eq_true_eq]; omega
  unfold g19_0 u19
  rw [w0, w1, Int.toNat_natCast, hd, pad_pz hp h1]
  simp only [Bool.not_true, Bool.false_eq_true, if_false]
  unfold fixT
  apply ByteArray.ext
  apply Array.ext'
  by_cases hx : n < 0 <;> simp [hx, ByteArray.data_append]

end Go.Proofs.YtmbkjhbindikkaaGreatDoor

/- A law that says how functions of the program and of the specification hang together. -/
set_option linter.unusedVariables false
set_option linter.unusedSimpArgs false
set_option maxRecDepth 100000
namespace Go.Proofs.YtmbkjhbindikkaaGreatDoor
open Go Go.Am Go.Proofs

theorem allI_mem {α : Type} {p : Nat → α → Bool} : ∀ (l : List α) (i : Nat), allI p i l = true → ∀ x ∈ l, ∃ j, p j x = true
  | [], _, _, x, hx => by cases hx
  | y :: r, i, h, x, hx => by
    simp only [allI, Bool.and_eq_true] at h
    rcases List.mem_cons.1 hx with rfl | hx
    · exact ⟨i, h.1⟩
    · exact allI_mem r (i + 1) h.2 x hx

end Go.Proofs.YtmbkjhbindikkaaGreatDoor

/- A law that says how functions of the program and of the specification hang together. -/
set_option linter.unusedVariables false
set_option linter.unusedSimpArgs false
set_option maxRecDepth 100000
namespace Go.Proofs.YtmbkjhbindikkaaGreatDoor
open Go Go.Am Go.Proofs

theorem trim_keep (a b : List UInt8) {x : UInt8} (hx : x ≠ 32) (hm : x ∈ b) : ∃ t, t ≠ [] ∧ Lib.trimRightB (a ++ b) 32 = a ++ t := by
  have key : ∀ l : List UInt8, x ∈ l → l.dropWhile (· == 32) ≠ [] := by
    intro l
    induction l with
    | nil => intro h; cases h
    | cons y r ih =>
      intro h
      by_cases hy : (y == 32) = true
      · rw [List.dropWhile_cons, if_pos hy]
        rcases List.mem_cons.1 h with rfl | h
        · exact absurd (by simpa using hy) hx
        · exact ih h
      · rw [List.dropWhile_cons, if_neg hy]
        exact List.cons_ne_nil _ _
  have hne : b.reverse.dropWhile (· == 32) ≠ [] := key _ (List.mem_reverse.2 hm)
  refine ⟨(b.reverse.dropWhile (· == 32)).reverse, fun e => hne (by simpa using e), ?_⟩
  unfold Lib.trimRightB
  rw [List.reverse_append, List.dropWhile_append, if_neg (by simpa [List.isEmpty_iff] using hne), List.reverse_append, List.reverse_reverse]

theorem wd_more (h : List Int) (k : Nat) (c : ByteArray) : ∃ t, (wd21 h k c).data.toList = c.data.toList ++ t := by
  unfold wd21
  rw [ByteArray.data_append, Array.toList_append]
  exact ⟨_, rfl⟩

theorem line_head (h : List Int) (a b c : ByteArray) (r : List ByteArray) {x : UInt8} (hx : x ≠ 32) (hm : x ∈ c.data.toList) : ∃ t, t ≠ [] ∧ (line21 h (a :: b :: c :: r)).data.toList = a.data.toList ++ t := by
  unfold line21 fin21 g48_0 g49_0
  have e1 : (ByteArray.mk #[32]).data.toList.getD 0 0 = 32 := rfl
  have e2 : (ByteArray.mk #[32, 32]).data.toList = [32, 32] := rfl
  rw [e1, e2]
  show ∃ t, t ≠ [] ∧ Lib.trimRightB (Lib.join _ [32, 32]) 32 = _
  simp only [words21]
  rw [List.map_cons, List.map_cons, List.map_cons, Lib.join_cons]
  obtain ⟨ta, ha⟩ := wd_more h 0 a
  obtain ⟨tc, hc⟩ := wd_more h (0 + 1 + 1) c
  rw [ha, List.append_assoc]
  refine trim_keep _ _ hx ?_
  rw [List.mem_append]
  refine .inr ?_
  unfold Lib.joinTail
  simp only [List.map_cons, List.flatten_cons, List.mem_append]
  refine .inr (.inl (.inr ?_))
  rw [hc]
  exact List.mem_append_left _ hm

theorem list_head {a b : ByteArray} {t : List UInt8} (ht : t ≠ []) (h : b.data.toList = a.data.toList ++ t) : a.size < b.size ∧ ByteArray.extract b 0 a.size = a := by
  have l1 : b.size = a.size + t.length := by
    show b.data.size = a.data.size + _
    rw [← Array.length_toList, h, List.length_append, Array.length_toList]
  have l2 : 0 < t.length := List.length_pos_iff.2 ht
  refine ⟨by omega, ?_⟩
  rw [Lib.extract_upto, h]
  have e : a.size = a.data.toList.length := by rw [Array.length_toList]; rfl
  rw [e, List.take_left']
  rfl

theorem table_ok {l : List (List ByteArray)} (h : g21_1 l = 0) : g21_0 l = l.map (line21 (wide21 l)) ∧ g7_0 (g21_0 l) = true := by
  unfold g21_1 at h
  split at h
  case isTrue => exact absurd h (by decide)
  rename_i hc
  unfold g21_0
  rw [if_neg hc]
  unfold g50_1 at h
  cases hv : g27_0 (l.map (line21 (wide21 l))) with
  | false => rw [hv, if_pos (by rfl)] at h; exact absurd h (by decide)
  | true =>
    unfold g50_0
    rw [hv, if_neg (by decide)]
    rw [report] at hv
    exact ⟨rfl, hv⟩

theorem wnR {x a b : Int} : g40_0 x a b = true ↔ a ≤ x ∧ x ≤ b := by
  unfold g40_0
  by_cases h : x ≥ a
  · rw [if_pos (decide_eq_true h), decide_eq_true_eq]; omega
  · rw [if_neg (by simp only [decide_eq_true_eq]; exact h)]
    constructor
    · intro hh; cases hh
    · intro hh; omega

abbrev FRT := ByteArray × Int × Int × Int × Unit
theorem fare_one {f : FRT} (h : g39_0 f = true) : f.1.size ≤ 10 ∧ (0 ≤ f.2.1 ∧ f.2.1 ≤ 100000) ∧ (1 ≤ f.2.2.1 ∧ f.2.2.1 ≤ 1000) ∧ (1 ≤ f.2.2.2.1 ∧ f.2.2.2.1 ≤ 400) := by
  unfold g39_0 at h
  split at h
  · rename_i h0
    split at h
    · rename_i h1
      split at h
      · rename_i h2
        refine ⟨?_, wnR.1 h1, wnR.1 h2, wnR.1 h⟩
        unfold g66_0 at h0
        simp only [Bool.and_eq_true, decide_eq_true_eq] at h0
        exact h0.1.2
      · cases h
    · cases h
  · cases h

theorem fares_in {xs : List FRT} (h : g18_0 xs = true) : xs.length ≤ 8 ∧ ∀ x ∈ xs, g39_0 x = true := by
  unfold g18_0 at h
  simp only [Bool.and_eq_true, decide_eq_true_eq] at h
  refine ⟨h.2, fun x hx => ?_⟩
  obtain ⟨j, hj⟩ := allI_mem xs 0 h.1 x hx
  unfold ok18 at hj
  simp only [Bool.and_eq_true] at hj
  exact hj.1

theorem num_head {n : Int} (h : 0 ≤ n) : ∃ x, x ≠ 32 ∧ x ∈ (numB n).data.toList := by
  obtain ⟨k, rfl⟩ := Int.eq_ofNat_of_zero_le h
  have e : (numB (k : Int)).data.toList = Lib.decDigits k := by
    show Lib.itoa (k : Int) = _
    unfold Lib.itoa
    rw [if_neg (by omega), Int.toNat_natCast]
  rw [e]
  obtain ⟨h1, _, h2, _⟩ := dec_facts k
  cases hd : Lib.decDigits k with
  | nil => rw [hd] at h2; simp at h2
  | cons b r =>
    refine ⟨b, fun hb => ?_, List.mem_cons_self ..⟩
    have := h1 b (by rw [hd]; exact List.mem_cons_self ..)
    rw [hb] at this
    exact absurd this (by unfold isD; decide)

theorem fare_pre (xs : List FRT) : P6 xs := fun hv => by
  obtain ⟨hl, ho⟩ := fares_in hv
  refine ⟨by omega, fun f hf => ⟨⟨rfl, trivial⟩, ⟨rfl, trivial⟩, fun c hc => ?_⟩⟩
  obtain ⟨h0, h1, h2, h3⟩ := fare_one (ho f hf)
  have f1 := fix_i (n := f.2.1) (d := 2) (by omega) (by decide) (by decide)
  have f1 : g19_0 f.2.1 2 = fixT (decide (f.2.1 < 0)) f.2.1.natAbs 2 := f1
  have hs : (fixT (decide (f.2.1 < 0)) f.2.1.natAbs 2).size ≤ 1000 := by
    rw [decide_eq_false (by omega)]
    have h1 := dec_len 6 (f.2.1.natAbs / 10 ^ 2) (by have : f.2.1.natAbs / 10 ^ 2 ≤ f.2.1.natAbs := Nat.div_le_self _ _; omega)
    have h2 := pz_len 2 (f.2.1.natAbs % 10 ^ 2)
    show (Array.mk _).size ≤ 1000
    show List.length _ ≤ 1000
    simp only [Bool.false_eq_true, if_false, List.nil_append, List.length_append, List.length_cons]
    omega
  have d1 : ∀ n : Int, g20_0 n = numB n := fun n => rfl
  unfold rw6 at hc
  rw [f1, d1, d1] at hc
  simp only [List.mem_cons, List.mem_nil_iff, or_false] at hc
  rcases hc with rfl | rfl | rfl | rfl
  · omega
  · omega
  · have := numB_size f.2.2.1 (by omega) (by omega); omega
  · have := numB_size f.2.2.2.1 (by omega) (by omega); omega

theorem fare_lines (xs : List FRT) (h : g6_1 xs = 0) : xs.length ≤ 8 ∧ (g6_0 xs).length = xs.length + 1 ∧ g7_0 (g6_0 xs) = true ∧ ∀ i, i < xs.length → ((xs.getD i (ByteArray.empty, (0 : Int), (0 : Int), (0 : Int), ())).1).size < ((g6_0 xs).getD (i + 1) ByteArray.empty).size ∧ ByteArray.extract ((g6_0 xs).getD (i + 1) ByteArray.empty) 0 ((xs.getD i (ByteArray.empty, (0 : Int), (0 : Int), (0 : Int), ())).1).size = (xs.getD i (ByteArray.empty, (0 : Int), (0 : Int), (0 : Int), ())).1 := by
  unfold g6_1 at h
  unfold g6_0
  split at h
  case isFalse => exact absurd h (by decide)
  rename_i hv
  rw [if_pos hv]
  obtain ⟨hl, ho⟩ := fares_in hv
  obtain ⟨t0, t1⟩ := table_ok h
  rw [t0] at t1 ⊢
  refine ⟨hl, by simp, t1, fun i hi => ?_⟩
  have hm := mem_getD xs i (ByteArray.empty, (0 : Int), (0 : Int), (0 : Int), ()) hi
  have hg : ((hd6 :: xs.map rw6).map (line21 (wide21 (hd6 :: xs.map rw6)))).getD (i + 1) ByteArray.empty = line21 (wide21 (hd6 :: xs.map rw6)) (rw6 (xs.getD i (ByteArray.empty, (0 : Int), (0 : Int), (0 : Int), ()))) := by
    rw [List.getD_eq_getElem?_getD, List.getElem?_map, List.getElem?_cons_succ, List.getElem?_map, getD_of_lt xs i _ hi]
    rfl
  rw [hg]
  have fo := fare_one (ho _ hm)
  generalize xs.getD i (ByteArray.empty, (0 : Int), (0 : Int), (0 : Int), ()) = f at *
  obtain ⟨x, hx, hxm⟩ := num_head (n := f.2.2.1) (by omega)
  obtain ⟨t, ht, e⟩ := line_head (wide21 (hd6 :: xs.map rw6)) f.1 (g19_0 f.2.1 2) (numB f.2.2.1) [numB f.2.2.2.1] hx hxm
  exact list_head ht e

theorem tests_in {xs : List (Int × Int × Int × Unit)} (h : g24_0 xs = true) : xs.length ≤ 24 ∧ ∀ x ∈ xs, g81_0 x = true := by
  unfold g24_0 at h
  split at h
  case isFalse => cases h
  rename_i h1
  refine ⟨by have := of_decide_eq_true h; omega, fun x hx => ?_⟩
  unfold g53_0 at h1
  obtain ⟨j, hj⟩ := allI_mem xs 0 h1 x hx
  unfold ok53 at hj
  simp only [Bool.and_eq_true] at hj
  exact hj.1

theorem test_in {x : Int × Int × Int × Unit} (h : g81_0 x = true) : (0 ≤ x.1 ∧ x.1 ≤ 36524) ∧ (0 ≤ x.2.1 ∧ x.2.1 ≤ 24000) ∧ (0 ≤ x.2.2.1 ∧ x.2.2.1 ≤ 1000) := by
  unfold g81_0 at h
  split at h
  · rename_i h0
    split at h
    · rename_i h1
      exact ⟨wnR.1 h0, wnR.1 h1, wnR.1 h⟩
    · cases h
  · cases h

theorem day_textI {n : Int} (h : 0 ≤ n ∧ n ≤ 36524) : ∃ a b c : Nat, g25_0 n = dT a b c ∧ P25 n := by
  obtain ⟨y, m, d, hd, e⟩ := date_fwd h
  have hp := text_pre hd
  obtain ⟨⟨y1, y2⟩, ⟨m1, m2⟩, d1, d2⟩ := id hd
  obtain ⟨a, rfl⟩ := Int.eq_ofNat_of_zero_le (show 0 ≤ y by omega)
  obtain ⟨b, rfl⟩ := Int.eq_ofNat_of_zero_le (show 0 ≤ m by omega)
  obtain ⟨c, rfl⟩ := Int.eq_ofNat_of_zero_le (show 0 ≤ d by omega)
  have hc : g111_0 (a : Int) (b : Int) ≤ 31 := by
    unfold g111_0
    repeat' split
    all_goals decide
  have ht := date_text hd (by omega) (by omega) (by omega)
  rw [e] at hp ht
  exact ⟨a, b, c, ht, hp⟩

theorem wear_pre (xs : List (Int × Int × Int × Unit)) : P9 xs := fun hv => by
  obtain ⟨hl, ho⟩ := tests_in hv
  refine ⟨by omega, fun f hf => ?_⟩
  obtain ⟨h0, h1, h2⟩ := test_in (ho f hf)
  obtain ⟨a, b, c, e, hp⟩ := day_textI h0
  have d1 : ∀ n : Int, g20_0 n = numB n := fun n => rfl
  refine ⟨hp, ⟨rfl, trivial⟩, ⟨rfl, trivial⟩, fun z hz => ?_⟩
  unfold rw9 at hz
  rw [e, d1, d1] at hz
  simp only [List.mem_cons, List.mem_nil_iff, or_false] at hz
  rcases hz with rfl | rfl | rfl
  · have : (dT a b c).size = 10 := rfl
    omega
  · have := numB_size f.2.1 (by omega) (by omega); omega
  · have := numB_size f.2.2.1 (by omega) (by omega); omega

theorem wear_lines (xs : List (Int × Int × Int × Unit)) (h : g9_1 xs = 0) : xs.length ≤ 24 ∧ (g9_0 xs).length = xs.length + 1 ∧ g7_0 (g9_0 xs) = true := by
  unfold g9_1 at h
  unfold g9_0
  split at h
  case isFalse => exact absurd h (by decide)
  rename_i hv
  rw [if_pos hv]
  obtain ⟨t0, t1⟩ := table_ok h
  rw [t0] at t1 ⊢
  exact ⟨(tests_in hv).1, by simp, t1⟩

end Go.Proofs.YtmbkjhbindikkaaGreatDoor

/- A law that says how functions of the program and of the specification hang together. -/
set_option linter.unusedVariables false
set_option linter.unusedSimpArgs false
set_option maxRecDepth 100000
namespace Go.Proofs.YtmbkjhbindikkaaGreatDoor
open Go Go.Am Go.Proofs

def enc : List (List UInt8) → List UInt8
  | [] => []
  | l :: r => l ++ 10 :: enc r

theorem split_enc : ∀ (ls : List (List UInt8)), (∀ l ∈ ls, (10 : UInt8) ∉ l) → splitC 10 (enc ls) = ls ++ [[]]
  | [], _ => rfl
  | l :: r, h => by
    rw [enc, splitC_hit 10 (enc r) (h l (List.mem_cons_self ..)), split_enc r fun m hm => h m (List.mem_cons_of_mem _ hm)]
    rfl

end Go.Proofs.YtmbkjhbindikkaaGreatDoor

/- A law that says how functions of the program and of the specification hang together. -/
set_option linter.unusedVariables false
set_option linter.unusedSimpArgs false
set_option maxRecDepth 100000
namespace Go.Proofs.YtmbkjhbindikkaaGreatDoor
open Go Go.Am Go.Proofs

theorem acc_enc : ∀ (l : List ByteArray) (o : ByteArray), (l.foldl (fun o b => o ++ (b ++ ByteArray.mk #[10])) o).data.toList = o.data.toList ++ enc (l.map fun x => x.data.toList)
  | [], o => by simp [enc]
  | x :: r, o => by
    rw [List.foldl_cons, acc_enc r]
    simp [enc, ByteArray.data_append]

theorem line_free {s : ByteArray} (h : g60_0 s = true) : (10 : UInt8) ∉ s.data.toList := fun hm => by
  unfold g60_0 g70c84_0 at h
  rw [any102c84] at h
  by_cases hs : ((s.size : Nat) : Int) ≤ 100
  · rw [if_pos (by simpa using hs)] at h
    have hq : (bytesOf s).any g84_0 = true := by
      rw [List.any_eq_true]
      refine ⟨10, ?_, by decide⟩
      unfold bytesOf
      exact List.mem_map.2 ⟨10, hm, rfl⟩
    rw [hq] at h
    cases h
  · rw [if_neg (by simpa using hs)] at h
    cases h

theorem report_lines {x : List ByteArray} (h : g27_0 x = true) : ∀ s ∈ x, g60_0 s = true := fun s hs => by
  unfold g27_0 g58c59_0 at h
  rw [any83c59] at h
  by_cases hl : ((x.length : Nat) : Int) ≤ 200
  · rw [if_pos (by simpa using hl)] at h
    cases hq : x.any g59_0 with
    | true => rw [hq] at h; cases h
    | false =>
      rw [List.any_eq_false] at hq
      have := hq s hs
      unfold g59_0 at this
      simpa using this
  · rw [if_neg (by simpa using hl)] at h
    cases h

theorem bss_lines : ∀ (l : List ByteArray), bss (l.map fun x => x.data.toList) = l
  | [] => rfl
  | x :: r => by
    have := bss_lines r
    unfold bss at this ⊢
    rw [List.map_cons, List.map_cons, this]

theorem read_back (rows : List ByteArray) (hv : g27_0 rows = true) (hl : rows.length ≤ 1000) (hs : ∀ x ∈ rows, x.size ≤ 1000) : P15 rows ∧ P14 (g15_0 rows) ∧ g14_1 (g15_0 rows) = true ∧ g14_0 (g15_0 rows) = rows := by
  have hp : P15 rows := ⟨by omega, fun x hx => by have := hs x hx; omega⟩
  obtain ⟨t, ht⟩ : ∃ t, g15_0 rows = t := ⟨_, rfl⟩
  have e : t = acc15 rows rows.length := by rw [← ht]; unfold g15_0; rw [if_pos hv]
  have hsz : t.size ≤ 1048577 * rows.length := by rw [e]; exact acc15_size rows hp.2 rows.length (Nat.le_refl _)
  have hb : t.data.toList = enc (rows.map fun x => x.data.toList) := by
    rw [e]
    unfold acc15
    rw [List.take_length, acc_enc]
    rfl
  have hsp : g63_0 t (ByteArray.mk #[10]) = rows ++ [ByteArray.empty] := by
    have h1 : g63_0 t (ByteArray.mk #[10]) = bss (splitC 10 t.data.toList) := splitB_one 10 t
    rw [h1, hb, split_enc _ (fun l hm => by
      obtain ⟨x, hx, rfl⟩ := List.mem_map.1 hm
      exact line_free (report_lines hv x hx))]
    unfold bss
    rw [List.map_append]
    have := bss_lines rows
    unfold bss at this
    rw [this]
    rfl
  have hn : ((rows ++ [ByteArray.empty]).length : Int) - 1 = (rows.length : Int) := by rw [List.length_append, List.length_singleton]; omega
  have e0 : g30_0 t = rows := by
    unfold g30_0
    rw [hsp, hn, Int.toNat_natCast, Nat.zero_add, List.drop_zero, List.take_left']
    rfl
  have e1 : g30_1 t = ByteArray.empty := by
    unfold g30_1
    rw [hsp, hn, Int.toNat_natCast, List.getD_eq_getElem?_getD, List.getElem?_append_right (Nat.le_refl _), Nat.sub_self]
    rfl
  have he : (!ByteArray.toList ByteArray.empty == ByteArray.toList (ByteArray.mk #[])) = false := by
    rw [(bytes_eq ByteArray.empty (ByteArray.mk #[])).2 rfl]; rfl
  rw [ht]
  refine ⟨hp, ⟨?_, trivial⟩, ?_, ?_⟩
  · unfold P30
    rw [hsp, hn]
    refine ⟨⟨by omega, Nat.le_refl 1⟩, by rw [i64_iff]; omega, by omega, by rw [List.length_append, List.length_singleton]; omega, by omega, by rw [List.length_append, List.length_singleton]; omega, trivial⟩
  · unfold g14_1
    rw [e0, e1, hv, he]
    rfl
  · unfold g14_0
    rw [e0, e1, hv, he]
    rfl

end Go.Proofs.YtmbkjhbindikkaaGreatDoor

/- Function 3 (laws.FnReports): its runs between cut points. Written by a program of this repo (gen). -/
set_option linter.unusedVariables false
set_option linter.unusedSimpArgs false
set_option maxRecDepth 100000
namespace Go.Proofs.YtmbkjhbindikkaaGreatDoor
open Go Go.Am Go.Proofs
noncomputable section
def ext3 : Ext := [(4, S4), (5, S5), (6, S6), (7, S7), (8, S8), (9, S9), (10, S10), (11, S11), (12, S12), (13, S13), (15, S15), (14, S14)]
theorem call3_4 : Callable Tryz.prog 4 := ⟨Tryz.f4, Tryz.func4, by kernel_rfl, by kernel_rfl⟩
theorem call3_5 : Callable Tryz.prog 5 := ⟨Tryz.f5, Tryz.func5, by kernel_rfl, by kernel_rfl⟩
theorem call3_6 : Callable Tryz.prog 6 := ⟨Tryz.f6, Tryz.func6, by kernel_rfl, by kernel_rfl⟩
theorem call3_7 : Callable Tryz.prog 7 := ⟨Tryz.f7, Tryz.func7, by kernel_rfl, by kernel_rfl⟩
theorem call3_8 : Callable Tryz.prog 8 := ⟨Tryz.f8, Tryz.func8, by kernel_rfl, by kernel_rfl⟩
theorem call3_9 : Callable Tryz.prog 9 := ⟨Tryz.f9, Tryz.func9, by kernel_rfl, by kernel_rfl⟩
theorem call3_10 : Callable Tryz.prog 10 := ⟨Tryz.f10, Tryz.func10, by kernel_rfl, by kernel_rfl⟩
theorem call3_11 : Callable Tryz.prog 11 := ⟨Tryz.f11, Tryz.func11, by kernel_rfl, by kernel_rfl⟩
theorem call3_12 : Callable Tryz.prog 12 := ⟨Tryz.f12, Tryz.func12, by kernel_rfl, by kernel_rfl⟩
theorem call3_13 : Callable Tryz.prog 13 := ⟨Tryz.f13, Tryz.func13, by kernel_rfl, by kernel_rfl⟩
theorem call3_15 : Callable Tryz.prog 15 := ⟨Tryz.f15, Tryz.func15, by kernel_rfl, by kernel_rfl⟩
theorem call3_14 : Callable Tryz.prog 14 := ⟨Tryz.f14, Tryz.func14, by kernel_rfl, by kernel_rfl⟩
theorem ext3Ok : ExtOk Tryz.prog ext3 := ⟨⟨call3_4, con4⟩, ⟨call3_5, con5⟩, ⟨call3_6, con6⟩, ⟨call3_7, con7⟩, ⟨call3_8, con8⟩, ⟨call3_9, con9⟩, ⟨call3_10, con10⟩, ⟨call3_11, con11⟩, ⟨call3_12, con12⟩, ⟨call3_13, con13⟩, ⟨call3_15, con15⟩, ⟨call3_14, con14⟩, trivial⟩

noncomputable def b3 : Code := bodyOf Tryz.f3
theorem hb3 : Tryz.f3.body = some b3 := by kernel_rfl
def sig3 : List AT := [AT.v (Ty.sl (Ty.int IntKind.u8)), AT.v (Ty.sl (Ty.int IntKind.u8))]
def tys3 : List Ty := [Ty.bool]
def kds3 : List RK := []
def oks3 : List AT := owns sig3
def E3_3 (x0 : List Int) (x1 : List Int) : Env := [(0, PV.a (Atom.sl (Ty.int IntKind.u8) x0)), (1, PV.a (Atom.sl (Ty.int IntKind.u8) x1))]
def L3_3 (x0 : List Int) (x1 : List Int) : Heap := []
def E3_8 (x1 : List Int) (x0 : List Int) : Env := [(1, PV.a (Atom.sl (Ty.int IntKind.u8) x1)), (5, PV.a (Atom.osl 0 Option.none)), (6, PV.a (Atom.osl 1 Option.none))]
def L3_8 (x1 : List Int) (x0 : List Int) : Heap := [Option.some (Arr.mk (Ty.cons Ty.str (Ty.cons (Ty.int IntKind.i64) (Ty.cons (Ty.int IntKind.i64) (Ty.cons (Ty.int IntKind.i64) Ty.unit)))) (g5_0 x0) Bool.false Option.none Option.none), Option.some (Arr.mk Ty.str (g6_0 (g5_0 x0)) Bool.false Option.none Option.none)]
def E3_14 (x1 : List Int) : Env := [(1, PV.a (Atom.sl (Ty.int IntKind.u8) x1))]
def L3_14 (x1 : List Int) : Heap := []
def E3_9 (v8 : Int) (x1 : List Int) (x0 : List Int) : Env := [(1, PV.a (Atom.sl (Ty.int IntKind.u8) x1)), (5, PV.a (Atom.osl 0 Option.none)), (6, PV.a (Atom.osl 1 Option.none)), (8, PV.a (Atom.val (Value.int IntKind.i64 v8)))]
def L3_9 (v8 : Int) (x1 : List Int) (x0 : List Int) : Heap := [Option.some (Arr.mk (Ty.cons Ty.str (Ty.cons (Ty.int IntKind.i64) (Ty.cons (Ty.int IntKind.i64) (Ty.cons (Ty.int IntKind.i64) Ty.unit)))) (g5_0 x0) Bool.false Option.none Option.none), Option.some (Arr.mk Ty.str (g6_0 (g5_0 x0)) Bool.false Option.none Option.none)]
def E3_18 (x1 : List Int) : Env := [(1, PV.a (Atom.sl (Ty.int IntKind.u8) x1))]
def L3_18 (x1 : List Int) : Heap := []
def E3_11 (x1 : List Int) (v8 : Int) (x0 : List Int) : Env := [(1, PV.a (Atom.sl (Ty.int IntKind.u8) x1)), (5, PV.a (Atom.osl 0 Option.none)), (6, PV.a (Atom.osl 1 Option.none)), (8, PV.a (Atom.val (Value.int IntKind.i64 v8)))]
def L3_11 (x1 : List Int) (v8 : Int) (x0 : List Int) : Heap := [Option.some (Arr.mk (Ty.cons Ty.str (Ty.cons (Ty.int IntKind.i64) (Ty.cons (Ty.int IntKind.i64) (Ty.cons (Ty.int IntKind.i64) Ty.unit)))) (g5_0 x0) Bool.false Option.none Option.none), Option.some (Arr.mk Ty.str (g6_0 (g5_0 x0)) Bool.false Option.none Option.none)]
def E3_23 (x1 : List Int) : Env := [(13, PV.a (Atom.osl 0 Option.none)), (14, PV.a (Atom.osl 1 Option.none)), (16, PV.a (Atom.osl 2 Option.none)), (17, PV.a (Atom.osl 3 Option.none)), (18, PV.a (Atom.val (Value.int IntKind.i64 (g12_2 (g10_0 x1)))))]
def L3_23 (x1 : List Int) : Heap := [Option.some (Arr.mk Ty.str (g10_0 x1) Bool.false Option.none Option.none), Option.some (Arr.mk Ty.str (g11_0 (g10_0 x1)) Bool.false Option.none Option.none), Option.some (Arr.mk Ty.str (g12_0 (g10_0 x1)) Bool.false Option.none Option.none), Option.some (Arr.mk (Ty.int IntKind.i64) (g12_1 (g10_0 x1)) Bool.false Option.none Option.none)]
def E3_10 (x1 : List Int) (v8 : Int) (x0 : List Int) : Env := [(1, PV.a (Atom.sl (Ty.int IntKind.u8) x1)), (5, PV.a (Atom.osl 0 Option.none)), (6, PV.a (Atom.osl 1 Option.none)), (8, PV.a (Atom.val (Value.int IntKind.i64 v8))), (74, PV.a (Atom.osl 1 Option.none)), (75, PV.a (Atom.val (Value.int IntKind.i64 v8))), (76, PV.a (Atom.val (Value.int IntKind.i64 (v8 + 1)))), (77, PV.a (Atom.optr 1 (Int.toNat (v8 + 1)) [])), (78, PV.a (Atom.val (Value.string (List.getD (g6_0 (g5_0 x0)) (Int.toNat (v8 + 1)) ByteArray.empty)))), (79, PV.a (Atom.val (Value.string (Prod.fst (List.getD (g5_0 x0) (Int.toNat v8) (ByteArray.empty, 0, 0, 0, ())))))), (80, PV.a (Atom.val (Value.int IntKind.i64 (↑(ByteArray.size (Prod.fst (List.getD (g5_0 x0) (Int.toNat v8) (ByteArray.empty, 0, 0, 0, ())))) : Int)))), (81, PV.a (Atom.val (Value.string (ByteArray.extract (List.getD (g6_0 (g5_0 x0)) (Int.toNat (v8 + 1)) ByteArray.empty) 0 (Int.toNat (↑(ByteArray.size (Prod.fst (List.getD (g5_0 x0) (Int.toNat v8) (ByteArray.empty, 0, 0, 0, ())))) : Int)))))), (82, PV.a (Atom.val (Value.string (Prod.fst (List.getD (g5_0 x0) (Int.toNat v8) (ByteArray.empty, 0, 0, 0, ())))))), (83, PV.a (Atom.val (Value.bool !ByteArray.toList (ByteArray.extract (List.getD (g6_0 (g5_0 x0)) (Int.toNat (v8 + 1)) ByteArray.empty) 0 (Int.toNat (↑(ByteArray.size (Prod.fst (List.getD (g5_0 x0) (Int.toNat v8) (ByteArray.empty, 0, 0, 0, ())))) : Int))) == ByteArray.toList (Prod.fst (List.getD (g5_0 x0) (Int.toNat v8) (ByteArray.empty, 0, 0, 0, ()))))))]
def L3_10 (x1 : List Int) (v8 : Int) (x0 : List Int) : Heap := [Option.some (Arr.mk (Ty.cons Ty.str (Ty.cons (Ty.int IntKind.i64) (Ty.cons (Ty.int IntKind.i64) (Ty.cons (Ty.int IntKind.i64) Ty.unit)))) (g5_0 x0) Bool.false Option.none Option.none), Option.some (Arr.mk Ty.str (g6_0 (g5_0 x0)) Bool.false Option.none Option.none)]
def E3_25 (x1 : List Int) : Env := [(13, PV.a (Atom.osl 0 Option.none)), (14, PV.a (Atom.osl 1 Option.none)), (16, PV.a (Atom.osl 2 Option.none)), (17, PV.a (Atom.osl 3 Option.none))]
def L3_25 (x1 : List Int) : Heap := [Option.some (Arr.mk Ty.str (g10_0 x1) Bool.false Option.none Option.none), Option.some (Arr.mk Ty.str (g11_0 (g10_0 x1)) Bool.false Option.none Option.none), Option.some (Arr.mk Ty.str (g12_0 (g10_0 x1)) Bool.false Option.none Option.none), Option.some (Arr.mk (Ty.int IntKind.i64) (g12_1 (g10_0 x1)) Bool.false Option.none Option.none)]
def E3_27 (v19 : Int) (v20 : Int) (x1 : List Int) : Env := [(13, PV.a (Atom.osl 0 Option.none)), (14, PV.a (Atom.osl 1 Option.none)), (16, PV.a (Atom.osl 2 Option.none)), (17, PV.a (Atom.osl 3 Option.none)), (19, PV.a (Atom.val (Value.int IntKind.i64 v19))), (20, PV.a (Atom.val (Value.int IntKind.i64 v20)))]
def L3_27 (v19 : Int) (v20 : Int) (x1 : List Int) : Heap := [Option.some (Arr.mk Ty.str (g10_0 x1) Bool.false Option.none Option.none), Option.some (Arr.mk Ty.str (g11_0 (g10_0 x1)) Bool.false Option.none Option.none), Option.some (Arr.mk Ty.str (g12_0 (g10_0 x1)) Bool.false Option.none Option.none), Option.some (Arr.mk (Ty.int IntKind.i64) (g12_1 (g10_0 x1)) Bool.false Option.none Option.none)]
def E3_29 (v19 : Int) (v20 : Int) (x1 : List Int) : Env := [(13, PV.a (Atom.osl 0 Option.none)), (14, PV.a (Atom.osl 1 Option.none)), (16, PV.a (Atom.osl 2 Option.none)), (17, PV.a (Atom.osl 3 Option.none)), (19, PV.a (Atom.val (Value.int IntKind.i64 v19))), (20, PV.a (Atom.val (Value.int IntKind.i64 v20)))]
def L3_29 (v19 : Int) (v20 : Int) (x1 : List Int) : Heap := [Option.some (Arr.mk Ty.str (g10_0 x1) Bool.false Option.none Option.none), Option.some (Arr.mk Ty.str (g11_0 (g10_0 x1)) Bool.false Option.none Option.none), Option.some (Arr.mk Ty.str (g12_0 (g10_0 x1)) Bool.false Option.none Option.none), Option.some (Arr.mk (Ty.int IntKind.i64) (g12_1 (g10_0 x1)) Bool.false Option.none Option.none)]
def E3_48 (x1 : List Int) : Env := [(13, PV.a (Atom.osl 0 Option.none)), (24, PV.a (Atom.osl 1 Option.none))]
def L3_48 (x1 : List Int) : Heap := [Option.some (Arr.mk Ty.str (g10_0 x1) Bool.false Option.none Option.none), Option.some (Arr.mk Ty.str (g14_0 (g15_0 (g10_0 x1))) Bool.false Option.none Option.none)]
def E3_31 (v189 : Bool) (v19 : Int) (v20 : Int) (x1 : List Int) : Env := [(13, PV.a (Atom.osl 0 Option.none)), (14, PV.a (Atom.osl 1 Option.none)), (16, PV.a (Atom.osl 2 Option.none)), (17, PV.a (Atom.osl 3 Option.none)), (19, PV.a (Atom.val (Value.int IntKind.i64 v19))), (20, PV.a (Atom.val (Value.int IntKind.i64 v20))), (165, PV.a (Atom.val (Value.int IntKind.i64 v19))), (166, PV.a (Atom.osl 3 Option.none)), (167, PV.a (Atom.val (Value.int IntKind.i64 v20))), (168, PV.a (Atom.optr 3 (Int.toNat v20) [])), (169, PV.a (Atom.val (Value.int IntKind.i64 (List.getD (g12_1 (g10_0 x1)) (Int.toNat v20) 0)))), (170, PV.a (Atom.val (Value.int IntKind.i64 (v19 + List.getD (g12_1 (g10_0 x1)) (Int.toNat v20) 0)))), (171, PV.a (Atom.osl 1 Option.none)), (172, PV.a (Atom.val (Value.int IntKind.i64 (↑(List.length (g11_0 (g10_0 x1))) : Int)))), (173, PV.a (Atom.val (Value.bool (Decidable.decide (v19 + List.getD (g12_1 (g10_0 x1)) (Int.toNat v20) 0 > (↑(List.length (g11_0 (g10_0 x1))) : Int)))))), (176, PV.a (Atom.val (Value.int IntKind.i64 v20))), (177, PV.a (Atom.val (Value.bool (Decidable.decide (v20 > 0))))), (178, PV.a (Atom.val (Value.bool (Decidable.decide (v20 > 0))))), (189, PV.a (Atom.val (Value.bool v189)))]
def L3_31 (v189 : Bool) (v19 : Int) (v20 : Int) (x1 : List Int) : Heap := [Option.some (Arr.mk Ty.str (g10_0 x1) Bool.false Option.none Option.none), Option.some (Arr.mk Ty.str (g11_0 (g10_0 x1)) Bool.false Option.none Option.none), Option.some (Arr.mk Ty.str (g12_0 (g10_0 x1)) Bool.false Option.none Option.none), Option.some (Arr.mk (Ty.int IntKind.i64) (g12_1 (g10_0 x1)) Bool.false Option.none Option.none)]
def E3_49 (v26 : Int) (x1 : List Int) : Env := [(13, PV.a (Atom.osl 0 Option.none)), (24, PV.a (Atom.osl 1 Option.none)), (26, PV.a (Atom.val (Value.int IntKind.i64 v26)))]
def L3_49 (v26 : Int) (x1 : List Int) : Heap := [Option.some (Arr.mk Ty.str (g10_0 x1) Bool.false Option.none Option.none), Option.some (Arr.mk Ty.str (g14_0 (g15_0 (g10_0 x1))) Bool.false Option.none Option.none)]
def E3_33 (v21 : Int) (v22 : Int) (v19 : Int) (v20 : Int) (x1 : List Int) (v189 : Bool) : Env := [(13, PV.a (Atom.osl 0 Option.none)), (14, PV.a (Atom.osl 1 Option.none)), (16, PV.a (Atom.osl 2 Option.none)), (17, PV.a (Atom.osl 3 Option.none)), (19, PV.a (Atom.val (Value.int IntKind.i64 v19))), (20, PV.a (Atom.val (Value.int IntKind.i64 v20))), (21, PV.a (Atom.val (Value.int IntKind.i64 v21))), (22, PV.a (Atom.val (Value.int IntKind.i64 v22))), (165, PV.a (Atom.val (Value.int IntKind.i64 v19))), (166, PV.a (Atom.osl 3 Option.none)), (167, PV.a (Atom.val (Value.int IntKind.i64 v20))), (168, PV.a (Atom.optr 3 (Int.toNat v20) [])), (169, PV.a (Atom.val (Value.int IntKind.i64 (List.getD (g12_1 (g10_0 x1)) (Int.toNat v20) 0)))), (170, PV.a (Atom.val (Value.int IntKind.i64 (v19 + List.getD (g12_1 (g10_0 x1)) (Int.toNat v20) 0)))), (171, PV.a (Atom.osl 1 Option.none)), (172, PV.a (Atom.val (Value.int IntKind.i64 (↑(List.length (g11_0 (g10_0 x1))) : Int)))), (173, PV.a (Atom.val (Value.bool (Decidable.decide (v19 + List.getD (g12_1 (g10_0 x1)) (Int.toNat v20) 0 > (↑(List.length (g11_0 (g10_0 x1))) : Int)))))), (176, PV.a (Atom.val (Value.int IntKind.i64 v20))), (177, PV.a (Atom.val (Value.bool (Decidable.decide (v20 > 0))))), (178, PV.a (Atom.val (Value.bool (Decidable.decide (v20 > 0))))), (189, PV.a (Atom.val (Value.bool v189)))]
def L3_33 (v21 : Int) (v22 : Int) (v19 : Int) (v20 : Int) (x1 : List Int) (v189 : Bool) : Heap := [Option.some (Arr.mk Ty.str (g10_0 x1) Bool.false Option.none Option.none), Option.some (Arr.mk Ty.str (g11_0 (g10_0 x1)) Bool.false Option.none Option.none), Option.some (Arr.mk Ty.str (g12_0 (g10_0 x1)) Bool.false Option.none Option.none), Option.some (Arr.mk (Ty.int IntKind.i64) (g12_1 (g10_0 x1)) Bool.false Option.none Option.none)]
def E3_51 (v26 : Int) (x1 : List Int) : Env := [(13, PV.a (Atom.osl 0 Option.none)), (24, PV.a (Atom.osl 1 Option.none)), (26, PV.a (Atom.val (Value.int IntKind.i64 v26)))]
def L3_51 (v26 : Int) (x1 : List Int) : Heap := [Option.some (Arr.mk Ty.str (g10_0 x1) Bool.false Option.none Option.none), Option.some (Arr.mk Ty.str (g14_0 (g15_0 (g10_0 x1))) Bool.false Option.none Option.none)]
def E3_35 (v19 : Int) (v20 : Int) (v21 : Int) (v22 : Int) (x1 : List Int) (v189 : Bool) : Env := [(13, PV.a (Atom.osl 0 Option.none)), (14, PV.a (Atom.osl 1 Option.none)), (16, PV.a (Atom.osl 2 Option.none)), (17, PV.a (Atom.osl 3 Option.none)), (19, PV.a (Atom.val (Value.int IntKind.i64 v19))), (20, PV.a (Atom.val (Value.int IntKind.i64 v20))), (21, PV.a (Atom.val (Value.int IntKind.i64 v21))), (22, PV.a (Atom.val (Value.int IntKind.i64 v22))), (165, PV.a (Atom.val (Value.int IntKind.i64 v19))), (166, PV.a (Atom.osl 3 Option.none)), (167, PV.a (Atom.val (Value.int IntKind.i64 v20))), (168, PV.a (Atom.optr 3 (Int.toNat v20) [])), (169, PV.a (Atom.val (Value.int IntKind.i64 (List.getD (g12_1 (g10_0 x1)) (Int.toNat v20) 0)))), (170, PV.a (Atom.val (Value.int IntKind.i64 (v19 + List.getD (g12_1 (g10_0 x1)) (Int.toNat v20) 0)))), (171, PV.a (Atom.osl 1 Option.none)), (172, PV.a (Atom.val (Value.int IntKind.i64 (↑(List.length (g11_0 (g10_0 x1))) : Int)))), (173, PV.a (Atom.val (Value.bool (Decidable.decide (v19 + List.getD (g12_1 (g10_0 x1)) (Int.toNat v20) 0 > (↑(List.length (g11_0 (g10_0 x1))) : Int)))))), (176, PV.a (Atom.val (Value.int IntKind.i64 v20))), (177, PV.a (Atom.val (Value.bool (Decidable.decide (v20 > 0))))), (178, PV.a (Atom.val (Value.bool (Decidable.decide (v20 > 0))))), (189, PV.a (Atom.val (Value.bool v189)))]
def L3_35 (v19 : Int) (v20 : Int) (v21 : Int) (v22 : Int) (x1 : List Int) (v189 : Bool) : Heap := [Option.some (Arr.mk Ty.str (g10_0 x1) Bool.false Option.none Option.none), Option.some (Arr.mk Ty.str (g11_0 (g10_0 x1)) Bool.false Option.none Option.none), Option.some (Arr.mk Ty.str (g12_0 (g10_0 x1)) Bool.false Option.none Option.none), Option.some (Arr.mk (Ty.int IntKind.i64) (g12_1 (g10_0 x1)) Bool.false Option.none Option.none)]
def E3_39 (v19 : Int) (v20 : Int) (x1 : List Int) (v189 : Bool) : Env := [(13, PV.a (Atom.osl 0 Option.none)), (14, PV.a (Atom.osl 1 Option.none)), (16, PV.a (Atom.osl 2 Option.none)), (17, PV.a (Atom.osl 3 Option.none)), (19, PV.a (Atom.val (Value.int IntKind.i64 v19))), (20, PV.a (Atom.val (Value.int IntKind.i64 v20))), (165, PV.a (Atom.val (Value.int IntKind.i64 v19))), (166, PV.a (Atom.osl 3 Option.none)), (167, PV.a (Atom.val (Value.int IntKind.i64 v20))), (168, PV.a (Atom.optr 3 (Int.toNat v20) [])), (169, PV.a (Atom.val (Value.int IntKind.i64 (List.getD (g12_1 (g10_0 x1)) (Int.toNat v20) 0)))), (170, PV.a (Atom.val (Value.int IntKind.i64 (v19 + List.getD (g12_1 (g10_0 x1)) (Int.toNat v20) 0)))), (171, PV.a (Atom.osl 1 Option.none)), (172, PV.a (Atom.val (Value.int IntKind.i64 (↑(List.length (g11_0 (g10_0 x1))) : Int)))), (173, PV.a (Atom.val (Value.bool (Decidable.decide (v19 + List.getD (g12_1 (g10_0 x1)) (Int.toNat v20) 0 > (↑(List.length (g11_0 (g10_0 x1))) : Int)))))), (176, PV.a (Atom.val (Value.int IntKind.i64 v20))), (177, PV.a (Atom.val (Value.bool (Decidable.decide (v20 > 0))))), (178, PV.a (Atom.val (Value.bool (Decidable.decide (v20 > 0))))), (189, PV.a (Atom.val (Value.bool v189)))]
def L3_39 (v19 : Int) (v20 : Int) (x1 : List Int) (v189 : Bool) : Heap := [Option.some (Arr.mk Ty.str (g10_0 x1) Bool.false Option.none Option.none), Option.some (Arr.mk Ty.str (g11_0 (g10_0 x1)) Bool.false Option.none Option.none), Option.some (Arr.mk Ty.str (g12_0 (g10_0 x1)) Bool.false Option.none Option.none), Option.some (Arr.mk (Ty.int IntKind.i64) (g12_1 (g10_0 x1)) Bool.false Option.none Option.none)]
def E3_50 (v26 : Int) (x1 : List Int) : Env := [(13, PV.a (Atom.osl 0 Option.none)), (24, PV.a (Atom.osl 1 Option.none)), (26, PV.a (Atom.val (Value.int IntKind.i64 v26)))]
def L3_50 (v26 : Int) (x1 : List Int) : Heap := [Option.some (Arr.mk Ty.str (g10_0 x1) Bool.false Option.none Option.none), Option.some (Arr.mk Ty.str (g14_0 (g15_0 (g10_0 x1))) Bool.false Option.none Option.none)]
def E3_34 (v21 : Int) (v19 : Int) (v20 : Int) (v22 : Int) (x1 : List Int) (v189 : Bool) : Env := [(13, PV.a (Atom.osl 0 Option.none)), (14, PV.a (Atom.osl 1 Option.none)), (16, PV.a (Atom.osl 2 Option.none)), (17, PV.a (Atom.osl 3 Option.none)), (19, PV.a (Atom.val (Value.int IntKind.i64 v19))), (20, PV.a (Atom.val (Value.int IntKind.i64 v20))), (21, PV.a (Atom.val (Value.int IntKind.i64 v21))), (22, PV.a (Atom.val (Value.int IntKind.i64 v22))), (165, PV.a (Atom.val (Value.int IntKind.i64 v19))), (166, PV.a (Atom.osl 3 Option.none)), (167, PV.a (Atom.val (Value.int IntKind.i64 v20))), (168, PV.a (Atom.optr 3 (Int.toNat v20) [])), (169, PV.a (Atom.val (Value.int IntKind.i64 (List.getD (g12_1 (g10_0 x1)) (Int.toNat v20) 0)))), (170, PV.a (Atom.val (Value.int IntKind.i64 (v19 + List.getD (g12_1 (g10_0 x1)) (Int.toNat v20) 0)))), (171, PV.a (Atom.osl 1 Option.none)), (172, PV.a (Atom.val (Value.int IntKind.i64 (↑(List.length (g11_0 (g10_0 x1))) : Int)))), (173, PV.a (Atom.val (Value.bool (Decidable.decide (v19 + List.getD (g12_1 (g10_0 x1)) (Int.toNat v20) 0 > (↑(List.length (g11_0 (g10_0 x1))) : Int)))))), (176, PV.a (Atom.val (Value.int IntKind.i64 v20))), (177, PV.a (Atom.val (Value.bool (Decidable.decide (v20 > 0))))), (178, PV.a (Atom.val (Value.bool (Decidable.decide (v20 > 0))))), (189, PV.a (Atom.val (Value.bool v189)))]
def L3_34 (v21 : Int) (v19 : Int) (v20 : Int) (v22 : Int) (x1 : List Int) (v189 : Bool) : Heap := [Option.some (Arr.mk Ty.str (g10_0 x1) Bool.false Option.none Option.none), Option.some (Arr.mk Ty.str (g11_0 (g10_0 x1)) Bool.false Option.none Option.none), Option.some (Arr.mk Ty.str (g12_0 (g10_0 x1)) Bool.false Option.none Option.none), Option.some (Arr.mk (Ty.int IntKind.i64) (g12_1 (g10_0 x1)) Bool.false Option.none Option.none)]
def E3_40 (v23 : Int) (v19 : Int) (v20 : Int) (x1 : List Int) (v189 : Bool) : Env := [(13, PV.a (Atom.osl 0 Option.none)), (14, PV.a (Atom.osl 1 Option.none)), (16, PV.a (Atom.osl 2 Option.none)), (17, PV.a (Atom.osl 3 Option.none)), (19, PV.a (Atom.val (Value.int IntKind.i64 v19))), (20, PV.a (Atom.val (Value.int IntKind.i64 v20))), (23, PV.a (Atom.val (Value.int IntKind.i64 v23))), (165, PV.a (Atom.val (Value.int IntKind.i64 v19))), (166, PV.a (Atom.osl 3 Option.none)), (167, PV.a (Atom.val (Value.int IntKind.i64 v20))), (168, PV.a (Atom.optr 3 (Int.toNat v20) [])), (169, PV.a (Atom.val (Value.int IntKind.i64 (List.getD (g12_1 (g10_0 x1)) (Int.toNat v20) 0)))), (170, PV.a (Atom.val (Value.int IntKind.i64 (v19 + List.getD (g12_1 (g10_0 x1)) (Int.toNat v20) 0)))), (171, PV.a (Atom.osl 1 Option.none)), (172, PV.a (Atom.val (Value.int IntKind.i64 (↑(List.length (g11_0 (g10_0 x1))) : Int)))), (173, PV.a (Atom.val (Value.bool (Decidable.decide (v19 + List.getD (g12_1 (g10_0 x1)) (Int.toNat v20) 0 > (↑(List.length (g11_0 (g10_0 x1))) : Int)))))), (176, PV.a (Atom.val (Value.int IntKind.i64 v20))), (177, PV.a (Atom.val (Value.bool (Decidable.decide (v20 > 0))))), (178, PV.a (Atom.val (Value.bool (Decidable.decide (v20 > 0))))), (189, PV.a (Atom.val (Value.bool v189)))]
def L3_40 (v23 : Int) (v19 : Int) (v20 : Int) (x1 : List Int) (v189 : Bool) : Heap := [Option.some (Arr.mk Ty.str (g10_0 x1) Bool.false Option.none Option.none), Option.some (Arr.mk Ty.str (g11_0 (g10_0 x1)) Bool.false Option.none Option.none), Option.some (Arr.mk Ty.str (g12_0 (g10_0 x1)) Bool.false Option.none Option.none), Option.some (Arr.mk (Ty.int IntKind.i64) (g12_1 (g10_0 x1)) Bool.false Option.none Option.none)]
def E3_42 (v19 : Int) (v20 : Int) (v23 : Int) (x1 : List Int) (v189 : Bool) : Env := [(13, PV.a (Atom.osl 0 Option.none)), (14, PV.a (Atom.osl 1 Option.none)), (16, PV.a (Atom.osl 2 Option.none)), (17, PV.a (Atom.osl 3 Option.none)), (19, PV.a (Atom.val (Value.int IntKind.i64 v19))), (20, PV.a (Atom.val (Value.int IntKind.i64 v20))), (23, PV.a (Atom.val (Value.int IntKind.i64 v23))), (165, PV.a (Atom.val (Value.int IntKind.i64 v19))), (166, PV.a (Atom.osl 3 Option.none)), (167, PV.a (Atom.val (Value.int IntKind.i64 v20))), (168, PV.a (Atom.optr 3 (Int.toNat v20) [])), (169, PV.a (Atom.val (Value.int IntKind.i64 (List.getD (g12_1 (g10_0 x1)) (Int.toNat v20) 0)))), (170, PV.a (Atom.val (Value.int IntKind.i64 (v19 + List.getD (g12_1 (g10_0 x1)) (Int.toNat v20) 0)))), (171, PV.a (Atom.osl 1 Option.none)), (172, PV.a (Atom.val (Value.int IntKind.i64 (↑(List.length (g11_0 (g10_0 x1))) : Int)))), (173, PV.a (Atom.val (Value.bool (Decidable.decide (v19 + List.getD (g12_1 (g10_0 x1)) (Int.toNat v20) 0 > (↑(List.length (g11_0 (g10_0 x1))) : Int)))))), (176, PV.a (Atom.val (Value.int IntKind.i64 v20))), (177, PV.a (Atom.val (Value.bool (Decidable.decide (v20 > 0))))), (178, PV.a (Atom.val (Value.bool (Decidable.decide (v20 > 0))))), (189, PV.a (Atom.val (Value.bool v189)))]
def L3_42 (v19 : Int) (v20 : Int) (v23 : Int) (x1 : List Int) (v189 : Bool) : Heap := [Option.some (Arr.mk Ty.str (g10_0 x1) Bool.false Option.none Option.none), Option.some (Arr.mk Ty.str (g11_0 (g10_0 x1)) Bool.false Option.none Option.none), Option.some (Arr.mk Ty.str (g12_0 (g10_0 x1)) Bool.false Option.none Option.none), Option.some (Arr.mk (Ty.int IntKind.i64) (g12_1 (g10_0 x1)) Bool.false Option.none Option.none)]
def E3_28 (v19 : Int) (x1 : List Int) (v20 : Int) (v189 : Bool) : Env := [(13, PV.a (Atom.osl 0 Option.none)), (14, PV.a (Atom.osl 1 Option.none)), (16, PV.a (Atom.osl 2 Option.none)), (17, PV.a (Atom.osl 3 Option.none)), (19, PV.a (Atom.val (Value.int IntKind.i64 (v19 + List.getD (g12_1 (g10_0 x1)) (Int.toNat v20) 0)))), (20, PV.a (Atom.val (Value.int IntKind.i64 v20))), (165, PV.a (Atom.val (Value.int IntKind.i64 v19))), (166, PV.a (Atom.osl 3 Option.none)), (167, PV.a (Atom.val (Value.int IntKind.i64 v20))), (168, PV.a (Atom.optr 3 (Int.toNat v20) [])), (169, PV.a (Atom.val (Value.int IntKind.i64 (List.getD (g12_1 (g10_0 x1)) (Int.toNat v20) 0)))), (170, PV.a (Atom.val (Value.int IntKind.i64 (v19 + List.getD (g12_1 (g10_0 x1)) (Int.toNat v20) 0)))), (171, PV.a (Atom.osl 1 Option.none)), (172, PV.a (Atom.val (Value.int IntKind.i64 (↑(List.length (g11_0 (g10_0 x1))) : Int)))), (173, PV.a (Atom.val (Value.bool (Decidable.decide (v19 + List.getD (g12_1 (g10_0 x1)) (Int.toNat v20) 0 > (↑(List.length (g11_0 (g10_0 x1))) : Int)))))), (176, PV.a (Atom.val (Value.int IntKind.i64 v20))), (177, PV.a (Atom.val (Value.bool (Decidable.decide (v20 > 0))))), (178, PV.a (Atom.val (Value.bool (Decidable.decide (v20 > 0))))), (189, PV.a (Atom.val (Value.bool v189)))]
def L3_28 (v19 : Int) (x1 : List Int) (v20 : Int) (v189 : Bool) : Heap := [Option.some (Arr.mk Ty.str (g10_0 x1) Bool.false Option.none Option.none), Option.some (Arr.mk Ty.str (g11_0 (g10_0 x1)) Bool.false Option.none Option.none), Option.some (Arr.mk Ty.str (g12_0 (g10_0 x1)) Bool.false Option.none Option.none), Option.some (Arr.mk (Ty.int IntKind.i64) (g12_1 (g10_0 x1)) Bool.false Option.none Option.none)]
def E3_41 (v19 : Int) (v20 : Int) (v23 : Int) (x1 : List Int) (v189 : Bool) : Env := [(13, PV.a (Atom.osl 0 Option.none)), (14, PV.a (Atom.osl 1 Option.none)), (16, PV.a (Atom.osl 2 Option.none)), (17, PV.a (Atom.osl 3 Option.none)), (19, PV.a (Atom.val (Value.int IntKind.i64 v19))), (20, PV.a (Atom.val (Value.int IntKind.i64 v20))), (23, PV.a (Atom.val (Value.int IntKind.i64 v23))), (165, PV.a (Atom.val (Value.int IntKind.i64 v19))), (166, PV.a (Atom.osl 3 Option.none)), (167, PV.a (Atom.val (Value.int IntKind.i64 v20))), (168, PV.a (Atom.optr 3 (Int.toNat v20) [])), (169, PV.a (Atom.val (Value.int IntKind.i64 (List.getD (g12_1 (g10_0 x1)) (Int.toNat v20) 0)))), (170, PV.a (Atom.val (Value.int IntKind.i64 (v19 + List.getD (g12_1 (g10_0 x1)) (Int.toNat v20) 0)))), (171, PV.a (Atom.osl 1 Option.none)), (172, PV.a (Atom.val (Value.int IntKind.i64 (↑(List.length (g11_0 (g10_0 x1))) : Int)))), (173, PV.a (Atom.val (Value.bool (Decidable.decide (v19 + List.getD (g12_1 (g10_0 x1)) (Int.toNat v20) 0 > (↑(List.length (g11_0 (g10_0 x1))) : Int)))))), (176, PV.a (Atom.val (Value.int IntKind.i64 v20))), (177, PV.a (Atom.val (Value.bool (Decidable.decide (v20 > 0))))), (178, PV.a (Atom.val (Value.bool (Decidable.decide (v20 > 0))))), (189, PV.a (Atom.val (Value.bool v189)))]
def L3_41 (v19 : Int) (v20 : Int) (v23 : Int) (x1 : List Int) (v189 : Bool) : Heap := [Option.some (Arr.mk Ty.str (g10_0 x1) Bool.false Option.none Option.none), Option.some (Arr.mk Ty.str (g11_0 (g10_0 x1)) Bool.false Option.none Option.none), Option.some (Arr.mk Ty.str (g12_0 (g10_0 x1)) Bool.false Option.none Option.none), Option.some (Arr.mk (Ty.int IntKind.i64) (g12_1 (g10_0 x1)) Bool.false Option.none Option.none)]
mutual
def R3 : Nat → List Int → List Int → List Dyn → Prop
  | 0, _, _, _ => False
  | n + 1, x0, x1, ds => (if (g4_0 x0) = true then (ds = [Dyn.mk Ty.bool Bool.true]) else (if (g4_0 x1) = true then (ds = [Dyn.mk Ty.bool Bool.true]) else (R3_3 n (x0) (x1) ds)))
def R3_3 : Nat → List Int → List Int → List Dyn → Prop
  | 0, _, _, _ => False
  | n + 1, x0, x1, ds => ((P5 x0) ∧ ((P6 (g5_0 x0)) ∧ (if (g6_1 (g5_0 x0) == 0) = true then ((InR IntKind.i64 ((↑(List.length (g5_0 x0)) : Int) + 1)) ∧ (if ((↑(List.length (g6_0 (g5_0 x0))) : Int) != (↑(List.length (g5_0 x0)) : Int) + 1) = true then (ds = [Dyn.mk Ty.bool Bool.false]) else (if (!g7_0 (g6_0 (g5_0 x0))) = true then (ds = [Dyn.mk Ty.bool Bool.false]) else (R3_8 n (x1) (x0) ds)))) else (R3_14 n (x1) ds))))
def R3_8 : Nat → List Int → List Int → List Dyn → Prop
  | 0, _, _, _ => False
  | n + 1, x1, x0, ds => (R3_9 n (0) (x1) (x0) ds)
def R3_14 : Nat → List Int → List Dyn → Prop
  | 0, _, _ => False
  | n + 1, x1, ds => ((P8 x1) ∧ ((P9 (g8_0 x1)) ∧ (if (g9_1 (g8_0 x1) == 0) = true then ((InR IntKind.i64 ((↑(List.length (g8_0 x1)) : Int) + 1)) ∧ (if ((↑(List.length (g9_0 (g8_0 x1))) : Int) != (↑(List.length (g8_0 x1)) : Int) + 1) = true then (ds = [Dyn.mk Ty.bool Bool.false]) else (if (!g7_0 (g9_0 (g8_0 x1))) = true then (ds = [Dyn.mk Ty.bool Bool.false]) else (R3_18 n (x1) ds)))) else (R3_18 n (x1) ds))))
def R3_9 : Nat → Int → List Int → List Int → List Dyn → Prop
  | 0, _, _, _, _ => False
  | n + 1, v8, x1, x0, ds => (if (Decidable.decide (v8 < (↑(List.length (g5_0 x0)) : Int))) = true then (R3_11 n (x1) (v8) (x0) ds) else (R3_14 n (x1) ds))
def R3_18 : Nat → List Int → List Dyn → Prop
  | 0, _, _ => False
  | n + 1, x1, ds => ((P10 x1) ∧ ((P11 (g10_0 x1)) ∧ ((P12 (g10_0 x1)) ∧ (if (g11_1 (g10_0 x1) != 0) = true then (if (g12_2 (g10_0 x1) == g11_1 (g10_0 x1)) = true then (ds = [Dyn.mk Ty.bool ((↑(List.length (g11_0 (g10_0 x1))) : Int) == 0)]) else (ds = [Dyn.mk Ty.bool Bool.false])) else (R3_23 n (x1) ds)))))
def R3_11 : Nat → List Int → Int → List Int → List Dyn → Prop
  | 0, _, _, _, _ => False
  | n + 1, x1, v8, x0, ds => ((0 ≤ v8) ∧ (v8 < (↑(List.length (g5_0 x0)) : Int)) ∧ ((InR IntKind.i64 (v8 + 1)) ∧ ((0 ≤ v8 + 1) ∧ (v8 + 1 < (↑(List.length (g6_0 (g5_0 x0))) : Int)) ∧ (if (Decidable.decide ((↑(ByteArray.size (List.getD (g6_0 (g5_0 x0)) (Int.toNat (v8 + 1)) ByteArray.empty)) : Int) ≤ (↑(ByteArray.size (Prod.fst (List.getD (g5_0 x0) (Int.toNat v8) (ByteArray.empty, 0, 0, 0, ())))) : Int))) = true then (ds = [Dyn.mk Ty.bool Bool.false]) else ((InR IntKind.i64 (v8 + 1)) ∧ ((0 ≤ v8 + 1) ∧ (v8 + 1 < (↑(List.length (g6_0 (g5_0 x0))) : Int)) ∧ ((0 ≤ (↑(ByteArray.size (Prod.fst (List.getD (g5_0 x0) (Int.toNat v8) (ByteArray.empty, 0, 0, 0, ())))) : Int)) ∧ ((↑(ByteArray.size (Prod.fst (List.getD (g5_0 x0) (Int.toNat v8) (ByteArray.empty, 0, 0, 0, ())))) : Int) ≤ (↑(ByteArray.size (List.getD (g6_0 (g5_0 x0)) (Int.toNat (v8 + 1)) ByteArray.empty)) : Int)) ∧ (if (!ByteArray.toList (ByteArray.extract (List.getD (g6_0 (g5_0 x0)) (Int.toNat (v8 + 1)) ByteArray.empty) 0 (Int.toNat (↑(ByteArray.size (Prod.fst (List.getD (g5_0 x0) (Int.toNat v8) (ByteArray.empty, 0, 0, 0, ())))) : Int))) == ByteArray.toList (Prod.fst (List.getD (g5_0 x0) (Int.toNat v8) (ByteArray.empty, 0, 0, 0, ())))) = true then (ds = [Dyn.mk Ty.bool Bool.false]) else (R3_10 n (x1) (v8) (x0) ds)))))))))
def R3_23 : Nat → List Int → List Dyn → Prop
  | 0, _, _ => False
  | n + 1, x1, ds => (if (g12_2 (g10_0 x1) != 0) = true then (ds = [Dyn.mk Ty.bool Bool.false]) else (if ((↑(List.length (g11_0 (g10_0 x1))) : Int) != (↑(List.length (g10_0 x1)) : Int)) = true then (ds = [Dyn.mk Ty.bool Bool.false]) else (if ((↑(List.length (g12_1 (g10_0 x1))) : Int) != (↑(List.length (g12_0 (g10_0 x1))) : Int)) = true then (ds = [Dyn.mk Ty.bool Bool.false]) else ((P13 (g12_1 (g10_0 x1))) ∧ (if (g13_0 (g12_1 (g10_0 x1)) != (↑(List.length (g10_0 x1)) : Int)) = true then (ds = [Dyn.mk Ty.bool Bool.false]) else (R3_25 n (x1) ds))))))
def R3_10 : Nat → List Int → Int → List Int → List Dyn → Prop
  | 0, _, _, _, _ => False
  | n + 1, x1, v8, x0, ds => ((InR IntKind.i64 (v8 + 1)) ∧ (R3_9 n (v8 + 1) (x1) (x0) ds))
def R3_25 : Nat → List Int → List Dyn → Prop
  | 0, _, _ => False
  | n + 1, x1, ds => (R3_27 n (0) (0) (x1) ds)
def R3_27 : Nat → Int → Int → List Int → List Dyn → Prop
  | 0, _, _, _, _ => False
  | n + 1, v19, v20, x1, ds => (if (Decidable.decide (v20 < (↑(List.length (g12_0 (g10_0 x1))) : Int))) = true then (R3_29 n (v19) (v20) (x1) ds) else ((P15 (g10_0 x1)) ∧ ((P14 (g15_0 (g10_0 x1))) ∧ (if (!g14_1 (g15_0 (g10_0 x1))) = true then (ds = [Dyn.mk Ty.bool Bool.false]) else (if ((↑(List.length (g14_0 (g15_0 (g10_0 x1)))) : Int) != (↑(List.length (g10_0 x1)) : Int)) = true then (ds = [Dyn.mk Ty.bool Bool.false]) else (R3_48 n (x1) ds))))))
def R3_29 : Nat → Int → Int → List Int → List Dyn → Prop
  | 0, _, _, _, _ => False
  | n + 1, v19, v20, x1, ds => ((0 ≤ v20) ∧ (v20 < (↑(List.length (g12_1 (g10_0 x1))) : Int)) ∧ (if (Decidable.decide (List.getD (g12_1 (g10_0 x1)) (Int.toNat v20) 0 < 1)) = true then (ds = [Dyn.mk Ty.bool Bool.false]) else ((0 ≤ v20) ∧ (v20 < (↑(List.length (g12_1 (g10_0 x1))) : Int)) ∧ ((InR IntKind.i64 (v19 + List.getD (g12_1 (g10_0 x1)) (Int.toNat v20) 0)) ∧ (if (Decidable.decide (v19 + List.getD (g12_1 (g10_0 x1)) (Int.toNat v20) 0 > (↑(List.length (g11_0 (g10_0 x1))) : Int))) = true then (ds = [Dyn.mk Ty.bool Bool.false]) else (if (Decidable.decide (v20 > 0)) = true then ((InR IntKind.i64 (v20 - 1)) ∧ ((0 ≤ v20 - 1) ∧ (v20 - 1 < (↑(List.length (g12_0 (g10_0 x1))) : Int)) ∧ ((0 ≤ v20) ∧ (v20 < (↑(List.length (g12_0 (g10_0 x1))) : Int)) ∧ (if (!Op.bytesLess (ByteArray.toList (List.getD (g12_0 (g10_0 x1)) (Int.toNat (v20 - 1)) ByteArray.empty)) (ByteArray.toList (List.getD (g12_0 (g10_0 x1)) (Int.toNat v20) ByteArray.empty))) = true then (ds = [Dyn.mk Ty.bool Bool.false]) else (R3_31 n (!Op.bytesLess (ByteArray.toList (List.getD (g12_0 (g10_0 x1)) (Int.toNat (v20 - 1)) ByteArray.empty)) (ByteArray.toList (List.getD (g12_0 (g10_0 x1)) (Int.toNat v20) ByteArray.empty))) (v19) (v20) (x1) ds))))) else (R3_31 n (Bool.false) (v19) (v20) (x1) ds)))))))
def R3_48 : Nat → List Int → List Dyn → Prop
  | 0, _, _ => False
  | n + 1, x1, ds => (R3_49 n (0) (x1) ds)
def R3_31 : Nat → Bool → Int → Int → List Int → List Dyn → Prop
  | 0, _, _, _, _, _ => False
  | n + 1, v189, v19, v20, x1, ds => (R3_33 n (0) (0) (v19) (v20) (x1) (v189) ds)
def R3_49 : Nat → Int → List Int → List Dyn → Prop
  | 0, _, _, _ => False
  | n + 1, v26, x1, ds => (if (Decidable.decide (v26 < (↑(List.length (g10_0 x1)) : Int))) = true then (R3_51 n (v26) (x1) ds) else (ds = [Dyn.mk Ty.bool Bool.true]))
def R3_33 : Nat → Int → Int → Int → Int → List Int → Bool → List Dyn → Prop
  | 0, _, _, _, _, _, _, _ => False
  | n + 1, v21, v22, v19, v20, x1, v189, ds => (if (Decidable.decide (v22 < (↑(List.length (g10_0 x1)) : Int))) = true then (R3_35 n (v19) (v20) (v21) (v22) (x1) (v189) ds) else ((0 ≤ v20) ∧ (v20 < (↑(List.length (g12_1 (g10_0 x1))) : Int)) ∧ (if (v21 != List.getD (g12_1 (g10_0 x1)) (Int.toNat v20) 0) = true then (ds = [Dyn.mk Ty.bool Bool.false]) else (R3_39 n (v19) (v20) (x1) (v189) ds))))
def R3_51 : Nat → Int → List Int → List Dyn → Prop
  | 0, _, _, _ => False
  | n + 1, v26, x1, ds => ((0 ≤ v26) ∧ (v26 < (↑(List.length (g14_0 (g15_0 (g10_0 x1)))) : Int)) ∧ ((0 ≤ v26) ∧ (v26 < (↑(List.length (g10_0 x1)) : Int)) ∧ (if (!ByteArray.toList (List.getD (g14_0 (g15_0 (g10_0 x1))) (Int.toNat v26) ByteArray.empty) == ByteArray.toList (List.getD (g10_0 x1) (Int.toNat v26) ByteArray.empty)) = true then (ds = [Dyn.mk Ty.bool Bool.false]) else (R3_50 n (v26) (x1) ds))))
def R3_35 : Nat → Int → Int → Int → Int → List Int → Bool → List Dyn → Prop
  | 0, _, _, _, _, _, _, _ => False
  | n + 1, v19, v20, v21, v22, x1, v189, ds => ((0 ≤ v22) ∧ (v22 < (↑(List.length (g10_0 x1)) : Int)) ∧ ((0 ≤ v20) ∧ (v20 < (↑(List.length (g12_0 (g10_0 x1))) : Int)) ∧ (if (ByteArray.toList (List.getD (g10_0 x1) (Int.toNat v22) ByteArray.empty) == ByteArray.toList (List.getD (g12_0 (g10_0 x1)) (Int.toNat v20) ByteArray.empty)) = true then ((InR IntKind.i64 (v21 + 1)) ∧ (R3_34 n (v21 + 1) (v19) (v20) (v22) (x1) (v189) ds)) else (R3_34 n (v21) (v19) (v20) (v22) (x1) (v189) ds))))
def R3_39 : Nat → Int → Int → List Int → Bool → List Dyn → Prop
  | 0, _, _, _, _, _ => False
  | n + 1, v19, v20, x1, v189, ds => (R3_40 n (0) (v19) (v20) (x1) (v189) ds)
def R3_50 : Nat → Int → List Int → List Dyn → Prop
  | 0, _, _, _ => False
  | n + 1, v26, x1, ds => ((InR IntKind.i64 (v26 + 1)) ∧ (R3_49 n (v26 + 1) (x1) ds))
def R3_34 : Nat → Int → Int → Int → Int → List Int → Bool → List Dyn → Prop
  | 0, _, _, _, _, _, _, _ => False
  | n + 1, v21, v19, v20, v22, x1, v189, ds => ((InR IntKind.i64 (v22 + 1)) ∧ (R3_33 n (v21) (v22 + 1) (v19) (v20) (x1) (v189) ds))
def R3_40 : Nat → Int → Int → Int → List Int → Bool → List Dyn → Prop
  | 0, _, _, _, _, _, _ => False
  | n + 1, v23, v19, v20, x1, v189, ds => ((0 ≤ v20) ∧ (v20 < (↑(List.length (g12_1 (g10_0 x1))) : Int)) ∧ (if (Decidable.decide (v23 < List.getD (g12_1 (g10_0 x1)) (Int.toNat v20) 0)) = true then (R3_42 n (v19) (v20) (v23) (x1) (v189) ds) else ((0 ≤ v20) ∧ (v20 < (↑(List.length (g12_1 (g10_0 x1))) : Int)) ∧ ((InR IntKind.i64 (v19 + List.getD (g12_1 (g10_0 x1)) (Int.toNat v20) 0)) ∧ (R3_28 n (v19) (x1) (v20) (v189) ds)))))
def R3_42 : Nat → Int → Int → Int → List Int → Bool → List Dyn → Prop
  | 0, _, _, _, _, _, _ => False
  | n + 1, v19, v20, v23, x1, v189, ds => ((InR IntKind.i64 (v19 + v23)) ∧ ((0 ≤ v19 + v23) ∧ (v19 + v23 < (↑(List.length (g11_0 (g10_0 x1))) : Int)) ∧ ((0 ≤ v20) ∧ (v20 < (↑(List.length (g12_0 (g10_0 x1))) : Int)) ∧ (if (!ByteArray.toList (List.getD (g11_0 (g10_0 x1)) (Int.toNat (v19 + v23)) ByteArray.empty) == ByteArray.toList (List.getD (g12_0 (g10_0 x1)) (Int.toNat v20) ByteArray.empty)) = true then (ds = [Dyn.mk Ty.bool Bool.false]) else (R3_41 n (v19) (v20) (v23) (x1) (v189) ds)))))
def R3_28 : Nat → Int → List Int → Int → Bool → List Dyn → Prop
  | 0, _, _, _, _, _ => False
  | n + 1, v19, x1, v20, v189, ds => ((InR IntKind.i64 (v20 + 1)) ∧ (R3_27 n (v19 + List.getD (g12_1 (g10_0 x1)) (Int.toNat v20) 0) (v20 + 1) (x1) ds))
def R3_41 : Nat → Int → Int → Int → List Int → Bool → List Dyn → Prop
  | 0, _, _, _, _, _, _ => False
  | n + 1, v19, v20, v23, x1, v189, ds => ((InR IntKind.i64 (v23 + 1)) ∧ (R3_40 n (v23 + 1) (v19) (v20) (x1) (v189) ds))
end
theorem snd3 : ∀ n, (∀ (x0 : List Int) (x1 : List Int) ds, R3 n x0 x1 ds → ∀ K q, AtV Tryz.prog 3 (PostR kds3 oks3 ds [] [] q K) 269 K q [] [.code b3] (entE 0 0 sig3 (x0, x1, ())) (entL sig3 (x0, x1, ()))) ∧ (∀ (x0 : List Int) (x1 : List Int) ds, R3_3 n x0 x1 ds → ∀ K q, AtV Tryz.prog 3 (PostR kds3 oks3 ds [] [] q K) 269 K q [] (cutAt b3 3) (E3_3 x0 x1) (L3_3 x0 x1)) ∧ (∀ (x1 : List Int) (x0 : List Int) ds, R3_8 n x1 x0 ds → ∀ K q, AtV Tryz.prog 3 (PostR kds3 oks3 ds [] [] q K) 269 K q [] (cutAt b3 8) (E3_8 x1 x0) (L3_8 x1 x0)) ∧ (∀ (x1 : List Int) ds, R3_14 n x1 ds → ∀ K q, AtV Tryz.prog 3 (PostR kds3 oks3 ds [] [] q K) 269 K q [] (cutAt b3 14) (E3_14 x1) (L3_14 x1)) ∧ (∀ (v8 : Int) (x1 : List Int) (x0 : List Int) ds, R3_9 n v8 x1 x0 ds → ∀ K q, AtV Tryz.prog 3 (PostR kds3 oks3 ds [] [] q K) 269 K q [] (cutAt b3 9) (E3_9 v8 x1 x0) (L3_9 v8 x1 x0)) ∧ (∀ (x1 : List Int) ds, R3_18 n x1 ds → ∀ K q, AtV Tryz.prog 3 (PostR kds3 oks3 ds [] [] q K) 269 K q [] (cutAt b3 18) (E3_18 x1) (L3_18 x1)) ∧ (∀ (x1 : List Int) (v8 : Int) (x0 : List Int) ds, R3_11 n x1 v8 x0 ds → ∀ K q, AtV Tryz.prog 3 (PostR kds3 oks3 ds [] [] q K) 269 K q [] (cutAt b3 11) (E3_11 x1 v8 x0) (L3_11 x1 v8 x0)) ∧ (∀ (x1 : List Int) ds, R3_23 n x1 ds → ∀ K q, AtV Tryz.prog 3 (PostR kds3 oks3 ds [] [] q K) 269 K q [] (cutAt b3 23) (E3_23 x1) (L3_23 x1)) ∧ (∀ (x1 : List Int) (v8 : Int) (x0 : List Int) ds, R3_10 n x1 v8 x0 ds → ∀ K q, AtV Tryz.prog 3 (PostR kds3 oks3 ds [] [] q K) 269 K q [] (cutAt b3 10) (E3_10 x1 v8 x0) (L3_10 x1 v8 x0)) ∧ (∀ (x1 : List Int) ds, R3_25 n x1 ds → ∀ K q, AtV Tryz.prog 3 (PostR kds3 oks3 ds [] [] q K) 269 K q [] (cutAt b3 25) (E3_25 x1) (L3_25 x1)) ∧ (∀ (v19 : Int) (v20 : Int) (x1 : List Int) ds, R3_27 n v19 v20 x1 ds → ∀ K q, AtV Tryz.prog 3 (PostR kds3 oks3 ds [] [] q K) 269 K q [] (cutAt b3 27) (E3_27 v19 v20 x1) (L3_27 v19 v20 x1)) ∧ (∀ (v19 : Int) (v20 : Int) (x1 : List Int) ds, R3_29 n v19 v20 x1 ds → ∀ K q, AtV Tryz.prog 3 (PostR kds3 oks3 ds [] [] q K) 269 K q [] (cutAt b3 29) (E3_29 v19 v20 x1) (L3_29 v19 v20 x1)) ∧ (∀ (x1 : List Int) ds, R3_48 n x1 ds → ∀ K q, AtV Tryz.prog 3 (PostR kds3 oks3 ds [] [] q K) 269 K q [] (cutAt b3 48) (E3_48 x1) (L3_48 x1)) ∧ (∀ (v189 : Bool) (v19 : Int) (v20 : Int) (x1 : List Int) ds, R3_31 n v189 v19 v20 x1 ds → ∀ K q, AtV Tryz.prog 3 (PostR kds3 oks3 ds [] [] q K) 269 K q [] (cutAt b3 31) (E3_31 v189 v19 v20 x1) (L3_31 v189 v19 v20 x1)) ∧ (∀ (v26 : Int) (x1 : List Int) ds, R3_49 n v26 x1 ds → ∀ K q, AtV Tryz.prog 3 (PostR kds3 oks3 ds [] [] q K) 269 K q [] (cutAt b3 49) (E3_49 v26 x1) (L3_49 v26 x1)) ∧ (∀ (v21 : Int) (v22 : Int) (v19 : Int) (v20 : Int) (x1 : List Int) (v189 : Bool) ds, R3_33 n v21 v22 v19 v20 x1 v189 ds → ∀ K q, AtV Tryz.prog 3 (PostR kds3 oks3 ds [] [] q K) 269 K q [] (cutAt b3 33) (E3_33 v21 v22 v19 v20 x1 v189) (L3_33 v21 v22 v19 v20 x1 v189)) ∧ (∀ (v26 : Int) (x1 : List Int) ds, R3_51 n v26 x1 ds → ∀ K q, AtV Tryz.prog 3 (PostR kds3 oks3 ds [] [] q K) 269 K q [] (cutAt b3 51) (E3_51 v26 x1) (L3_51 v26 x1)) ∧ (∀ (v19 : Int) (v20 : Int) (v21 : Int) (v22 : Int) (x1 : List Int) (v189 : Bool) ds, R3_35 n v19 v20 v21 v22 x1 v189 ds → ∀ K q, AtV Tryz.prog 3 (PostR kds3 oks3 ds [] [] q K) 269 K q [] (cutAt b3 35) (E3_35 v19 v20 v21 v22 x1 v189) (L3_35 v19 v20 v21 v22 x1 v189)) ∧ (∀ (v19 : Int) (v20 : Int) (x1 : List Int) (v189 : Bool) ds, R3_39 n v19 v20 x1 v189 ds → ∀ K q, AtV Tryz.prog 3 (PostR kds3 oks3 ds [] [] q K) 269 K q [] (cutAt b3 39) (E3_39 v19 v20 x1 v189) (L3_39 v19 v20 x1 v189)) ∧ (∀ (v26 : Int) (x1 : List Int) ds, R3_50 n v26 x1 ds → ∀ K q, AtV Tryz.prog 3 (PostR kds3 oks3 ds [] [] q K) 269 K q [] (cutAt b3 50) (E3_50 v26 x1) (L3_50 v26 x1)) ∧ (∀ (v21 : Int) (v19 : Int) (v20 : Int) (v22 : Int) (x1 : List Int) (v189 : Bool) ds, R3_34 n v21 v19 v20 v22 x1 v189 ds → ∀ K q, AtV Tryz.prog 3 (PostR kds3 oks3 ds [] [] q K) 269 K q [] (cutAt b3 34) (E3_34 v21 v19 v20 v22 x1 v189) (L3_34 v21 v19 v20 v22 x1 v189)) ∧ (∀ (v23 : Int) (v19 : Int) (v20 : Int) (x1 : List Int) (v189 : Bool) ds, R3_40 n v23 v19 v20 x1 v189 ds → ∀ K q, AtV Tryz.prog 3 (PostR kds3 oks3 ds [] [] q K) 269 K q [] (cutAt b3 40) (E3_40 v23 v19 v20 x1 v189) (L3_40 v23 v19 v20 x1 v189)) ∧ (∀ (v19 : Int) (v20 : Int) (v23 : Int) (x1 : List Int) (v189 : Bool) ds, R3_42 n v19 v20 v23 x1 v189 ds → ∀ K q, AtV Tryz.prog 3 (PostR kds3 oks3 ds [] [] q K) 269 K q [] (cutAt b3 42) (E3_42 v19 v20 v23 x1 v189) (L3_42 v19 v20 v23 x1 v189)) ∧ (∀ (v19 : Int) (x1 : List Int) (v20 : Int) (v189 : Bool) ds, R3_28 n v19 x1 v20 v189 ds → ∀ K q, AtV Tryz.prog 3 (PostR kds3 oks3 ds [] [] q K) 269 K q [] (cutAt b3 28) (E3_28 v19 x1 v20 v189) (L3_28 v19 x1 v20 v189)) ∧ (∀ (v19 : Int) (v20 : Int) (v23 : Int) (x1 : List Int) (v189 : Bool) ds, R3_41 n v19 v20 v23 x1 v189 ds → ∀ K q, AtV Tryz.prog 3 (PostR kds3 oks3 ds [] [] q K) 269 K q [] (cutAt b3 41) (E3_41 v19 v20 v23 x1 v189) (L3_41 v19 v20 v23 x1 v189)) := by
  intro n
  induction n with
  | zero => exact ⟨fun _ _ _ h => by simp only [R3] at h, fun _ _ _ h => by simp only [R3_3] at h, fun _ _ _ h => by simp only [R3_8] at h, fun _ _ h => by simp only [R3_14] at h, fun _ _ _ _ h => by simp only [R3_9] at h, fun _ _ h => by simp only [R3_18] at h, fun _ _ _ _ h => by simp only [R3_11] at h, fun _ _ h => by simp only [R3_23] at h, fun _ _ _ _ h => by simp only [R3_10] at h, fun _ _ h => by simp only [R3_25] at h, fun _ _ _ _ h => by simp only [R3_27] at h, fun _ _ _ _ h => by simp only [R3_29] at h, fun _ _ h => by simp only [R3_48] at h, fun _ _ _ _ _ h => by simp only [R3_31] at h, fun _ _ _ h => by simp only [R3_49] at h, fun _ _ _ _ _ _ _ h => by simp only [R3_33] at h, fun _ _ _ h => by simp only [R3_51] at h, fun _ _ _ _ _ _ _ h => by simp only [R3_35] at h, fun _ _ _ _ _ h => by simp only [R3_39] at h, fun _ _ _ h => by simp only [R3_50] at h, fun _ _ _ _ _ _ _ h => by simp only [R3_34] at h, fun _ _ _ _ _ _ h => by simp only [R3_40] at h, fun _ _ _ _ _ _ h => by simp only [R3_42] at h, fun _ _ _ _ _ h => by simp only [R3_28] at h, fun _ _ _ _ _ _ h => by simp only [R3_41] at h⟩
  | succ n ih =>
  obtain ⟨ih, ih3, ih8, ih14, ih9, ih18, ih11, ih23, ih10, ih25, ih27, ih29, ih48, ih31, ih49, ih33, ih51, ih35, ih39, ih50, ih34, ih40, ih42, ih28, ih41⟩ := ih
  refine ⟨?_, ?_, ?_, ?_, ?_, ?_, ?_, ?_, ?_, ?_, ?_, ?_, ?_, ?_, ?_, ?_, ?_, ?_, ?_, ?_, ?_, ?_, ?_, ?_, ?_⟩
  · intro x0 x1 ds h K q
    rw [R3] at h
    by_cases b0 : (g4_0 x0) = true
    · rw [if_pos b0] at h
      subst h
      exact AtV.ret Tryz.func3 tabOk ext3Ok mixed false [3, 14, 8, 11, 10, 18, 23, 25, 29, 28, 31, 35, 34, 39, 42, 41, 48, 51, 50] tys3 [true, true] (a1 trivial (a1 b0 (a1 (rfl : Bool.true = Bool.true) trivial))) (by kernel_rfl)
    · rw [if_neg b0] at h
      replace b0 := Bool.eq_false_iff.2 b0
      by_cases b1 : (g4_0 x1) = true
      · rw [if_pos b1] at h
        subst h
        exact AtV.ret Tryz.func3 tabOk ext3Ok mixed false [3, 14, 8, 11, 10, 18, 23, 25, 29, 28, 31, 35, 34, 39, 42, 41, 48, 51, 50] tys3 [false, true] (a1 trivial (a1 b0 (a1 trivial (a1 b1 trivial)))) (by kernel_rfl)
      · rw [if_neg b1] at h
        replace b1 := Bool.eq_false_iff.2 b1
        exact AtV.go tabOk ext3Ok mixed false [3, 14, 8, 11, 10, 18, 23, 25, 29, 28, 31, 35, 34, 39, 42, 41, 48, 51, 50] [] [0, 1] [] [false, false] (a1 trivial (a1 b0 (a1 trivial (a1 b1 trivial)))) (ih3 _ _ _ h K q) (by kernel_rfl)

  · intro x0 x1 ds h K q
    rw [R3_3] at h
    obtain ⟨s0, h⟩ := h
    obtain ⟨s1, h⟩ := h
    by_cases b0 : (g6_1 (g5_0 x0) == 0) = true
    · rw [if_pos b0] at h
      obtain ⟨s2, h⟩ := h
      by_cases b1 : ((↑(List.length (g6_0 (g5_0 x0))) : Int) != (↑(List.length (g5_0 x0)) : Int) + 1) = true
      · rw [if_pos b1] at h
        subst h
        exact AtV.ret Tryz.func3 tabOk ext3Ok mixed false [3, 14, 8, 11, 10, 18, 23, 25, 29, 28, 31, 35, 34, 39, 42, 41, 48, 51, 50] tys3 [true, true, true] (a1 s0 (a1 s1 (a1 b0 (a1 s2 (a1 b1 (a1 (rfl : Bool.true = Bool.true) trivial)))))) (by kernel_rfl)
      · rw [if_neg b1] at h
        replace b1 := Bool.eq_false_iff.2 b1
        by_cases b2 : (!g7_0 (g6_0 (g5_0 x0))) = true
        · rw [if_pos b2] at h
          subst h
          exact AtV.ret Tryz.func3 tabOk ext3Ok mixed false [3, 14, 8, 11, 10, 18, 23, 25, 29, 28, 31, 35, 34, 39, 42, 41, 48, 51, 50] tys3 [true, false, true] (a1 s0 (a1 s1 (a1 b0 (a1 s2 (a1 b1 (a1 trivial (a1 b2 trivial))))))) (by kernel_rfl)
        · rw [if_neg b2] at h
          replace b2 := Bool.eq_false_iff.2 b2
          exact AtV.go tabOk ext3Ok mixed false [3, 14, 8, 11, 10, 18, 23, 25, 29, 28, 31, 35, 34, 39, 42, 41, 48, 51, 50] [] [1, 5, 6] [0, 1] [true, false, false] (a1 s0 (a1 s1 (a1 b0 (a1 s2 (a1 b1 (a1 trivial (a1 b2 trivial))))))) (ih8 _ _ _ h K q) (by kernel_rfl)
    · rw [if_neg b0] at h
      replace b0 := Bool.eq_false_iff.2 b0
      exact AtV.go tabOk ext3Ok mixed false [3, 14, 8, 11, 10, 18, 23, 25, 29, 28, 31, 35, 34, 39, 42, 41, 48, 51, 50] [] [1] [] [false] (a1 s0 (a1 s1 (a1 b0 trivial))) (ih14 _ _ h K q) (by kernel_rfl)

  · intro x1 x0 ds h K q
    rw [R3_8] at h
    exact AtV.go tabOk ext3Ok mixed false [3, 14, 8, 11, 10, 18, 23, 25, 29, 28, 31, 35, 34, 39, 42, 41, 48, 51, 50] [] [1, 5, 6, 8] [0, 1] [] trivial (ih9 _ _ _ _ h K q) (by kernel_rfl)

  · intro x1 ds h K q
    rw [R3_14] at h
    obtain ⟨s0, h⟩ := h
    obtain ⟨s1, h⟩ := h
    by_cases b0 : (g9_1 (g8_0 x1) == 0) = true
    · rw [if_pos b0] at h
      obtain ⟨s2, h⟩ := h
      by_cases b1 : ((↑(List.length (g9_0 (g8_0 x1))) : Int) != (↑(List.length (g8_0 x1)) : Int) + 1) = true
      · rw [if_pos b1] at h
        subst h
        exact AtV.ret Tryz.func3 tabOk ext3Ok mixed false [3, 14, 8, 11, 10, 18, 23, 25, 29, 28, 31, 35, 34, 39, 42, 41, 48, 51, 50] tys3 [true, true, true] (a1 s0 (a1 s1 (a1 b0 (a1 s2 (a1 b1 (a1 (rfl : Bool.true = Bool.true) trivial)))))) (by kernel_rfl)
      · rw [if_neg b1] at h
        replace b1 := Bool.eq_false_iff.2 b1
        by_cases b2 : (!g7_0 (g9_0 (g8_0 x1))) = true
        · rw [if_pos b2] at h
          subst h
          exact AtV.ret Tryz.func3 tabOk ext3Ok mixed false [3, 14, 8, 11, 10, 18, 23, 25, 29, 28, 31, 35, 34, 39, 42, 41, 48, 51, 50] tys3 [true, false, true] (a1 s0 (a1 s1 (a1 b0 (a1 s2 (a1 b1 (a1 trivial (a1 b2 trivial))))))) (by kernel_rfl)
        · rw [if_neg b2] at h
          replace b2 := Bool.eq_false_iff.2 b2
          exact AtV.go tabOk ext3Ok mixed false [3, 14, 8, 11, 10, 18, 23, 25, 29, 28, 31, 35, 34, 39, 42, 41, 48, 51, 50] [] [1] [] [true, false, false] (a1 s0 (a1 s1 (a1 b0 (a1 s2 (a1 b1 (a1 trivial (a1 b2 trivial))))))) (ih18 _ _ h K q) (by kernel_rfl)
    · rw [if_neg b0] at h
      replace b0 := Bool.eq_false_iff.2 b0
      exact AtV.go tabOk ext3Ok mixed false [3, 14, 8, 11, 10, 18, 23, 25, 29, 28, 31, 35, 34, 39, 42, 41, 48, 51, 50] [] [1] [] [false, false] (a1 s0 (a1 s1 (a1 b0 (a1 (rfl : Bool.false = Bool.false) trivial)))) (ih18 _ _ h K q) (by kernel_rfl)

  · intro v8 x1 x0 ds h K q
    rw [R3_9] at h
    by_cases b0 : (Decidable.decide (v8 < (↑(List.length (g5_0 x0)) : Int))) = true
    · rw [if_pos b0] at h
      exact AtV.go tabOk ext3Ok mixed false [3, 14, 8, 11, 10, 18, 23, 25, 29, 28, 31, 35, 34, 39, 42, 41, 48, 51, 50] [] [1, 5, 6, 8] [0, 1] [true] (a1 b0 trivial) (ih11 _ _ _ _ h K q) (by kernel_rfl)
    · rw [if_neg b0] at h
      replace b0 := Bool.eq_false_iff.2 b0
      exact AtV.go tabOk ext3Ok mixed false [3, 14, 8, 11, 10, 18, 23, 25, 29, 28, 31, 35, 34, 39, 42, 41, 48, 51, 50] [] [1] [] [false] (a1 b0 trivial) (ih14 _ _ h K q) (by kernel_rfl)

  · intro x1 ds h K q
    rw [R3_18] at h
    obtain ⟨s0, h⟩ := h
    obtain ⟨s1, h⟩ := h
    obtain ⟨s2, h⟩ := h
    by_cases b0 : (g11_1 (g10_0 x1) != 0) = true
    · rw [if_pos b0] at h
      by_cases b1 : (g12_2 (g10_0 x1) == g11_1 (g10_0 x1)) = true
      · rw [if_pos b1] at h
        subst h
        exact AtV.ret Tryz.func3 tabOk ext3Ok mixed false [3, 14, 8, 11, 10, 18, 23, 25, 29, 28, 31, 35, 34, 39, 42, 41, 48, 51, 50] tys3 [true, true] (a1 s0 (a1 s1 (a1 s2 (a1 b0 (a1 b1 trivial))))) (by kernel_rfl)
      · rw [if_neg b1] at h
        replace b1 := Bool.eq_false_iff.2 b1
        subst h
        exact AtV.ret Tryz.func3 tabOk ext3Ok mixed false [3, 14, 8, 11, 10, 18, 23, 25, 29, 28, 31, 35, 34, 39, 42, 41, 48, 51, 50] tys3 [true, false] (a1 s0 (a1 s1 (a1 s2 (a1 b0 (a1 b1 trivial))))) (by kernel_rfl)
    · rw [if_neg b0] at h
      replace b0 := Bool.eq_false_iff.2 b0
      exact AtV.go tabOk ext3Ok mixed false [3, 14, 8, 11, 10, 18, 23, 25, 29, 28, 31, 35, 34, 39, 42, 41, 48, 51, 50] [] [13, 14, 16, 17, 18] [0, 1, 2, 3] [false] (a1 s0 (a1 s1 (a1 s2 (a1 b0 trivial)))) (ih23 _ _ h K q) (by kernel_rfl)

  · intro x1 v8 x0 ds h K q
    rw [R3_11] at h
    obtain ⟨s0, s1, h⟩ := h
    obtain ⟨s2, h⟩ := h
    obtain ⟨s3, s4, h⟩ := h
    by_cases b0 : (Decidable.decide ((↑(ByteArray.size (List.getD (g6_0 (g5_0 x0)) (Int.toNat (v8 + 1)) ByteArray.empty)) : Int) ≤ (↑(ByteArray.size (Prod.fst (List.getD (g5_0 x0) (Int.toNat v8) (ByteArray.empty, 0, 0, 0, ())))) : Int))) = true
    · rw [if_pos b0] at h
      subst h
      exact AtV.ret Tryz.func3 tabOk ext3Ok mixed false [3, 14, 8, 11, 10, 18, 23, 25, 29, 28, 31, 35, 34, 39, 42, 41, 48, 51, 50] tys3 [true, true] (a1 s0 (a1 s1 (a1 s2 (a1 s3 (a1 s4 (a1 b0 (a1 (rfl : Bool.true = Bool.true) trivial))))))) (by kernel_rfl)
    · rw [if_neg b0] at h
      replace b0 := Bool.eq_false_iff.2 b0
      obtain ⟨s5, h⟩ := h
      obtain ⟨s6, s7, h⟩ := h
      obtain ⟨s8, s9, h⟩ := h
      by_cases b1 : (!ByteArray.toList (ByteArray.extract (List.getD (g6_0 (g5_0 x0)) (Int.toNat (v8 + 1)) ByteArray.empty) 0 (Int.toNat (↑(ByteArray.size (Prod.fst (List.getD (g5_0 x0) (Int.toNat v8) (ByteArray.empty, 0, 0, 0, ())))) : Int))) == ByteArray.toList (Prod.fst (List.getD (g5_0 x0) (Int.toNat v8) (ByteArray.empty, 0, 0, 0, ())))) = true
      · rw [if_pos b1] at h
        subst h
        exact AtV.ret Tryz.func3 tabOk ext3Ok mixed false [3, 14, 8, 11, 10, 18, 23, 25, 29, 28, 31, 35, 34, 39, 42, 41, 48, 51, 50] tys3 [false, true] (a1 s0 (a1 s1 (a1 s2 (a1 s3 (a1 s4 (a1 b0 (a1 s5 (a1 s6 (a1 s7 (a1 s8 (a1 s9 (a1 b1 trivial)))))))))))) (by kernel_rfl)
      · rw [if_neg b1] at h
        replace b1 := Bool.eq_false_iff.2 b1
        exact AtV.go tabOk ext3Ok mixed false [3, 14, 8, 11, 10, 18, 23, 25, 29, 28, 31, 35, 34, 39, 42, 41, 48, 51, 50] [] [1, 5, 6, 8, 74, 75, 76, 77, 78, 79, 80, 81, 82, 83] [0, 1] [false, false] (a1 s0 (a1 s1 (a1 s2 (a1 s3 (a1 s4 (a1 b0 (a1 s5 (a1 s6 (a1 s7 (a1 s8 (a1 s9 (a1 b1 trivial)))))))))))) (ih10 _ _ _ _ h K q) (by kernel_rfl)

  · intro x1 ds h K q
    rw [R3_23] at h
    by_cases b0 : (g12_2 (g10_0 x1) != 0) = true
    · rw [if_pos b0] at h
      subst h
      exact AtV.ret Tryz.func3 tabOk ext3Ok mixed false [3, 14, 8, 11, 10, 18, 23, 25, 29, 28, 31, 35, 34, 39, 42, 41, 48, 51, 50] tys3 [true, true, true, true] (a1 b0 (a1 (rfl : Bool.true = Bool.true) (a1 (rfl : Bool.true = Bool.true) (a1 (rfl : Bool.true = Bool.true) trivial)))) (by kernel_rfl)
    · rw [if_neg b0] at h
      replace b0 := Bool.eq_false_iff.2 b0
      by_cases b1 : ((↑(List.length (g11_0 (g10_0 x1))) : Int) != (↑(List.length (g10_0 x1)) : Int)) = true
      · rw [if_pos b1] at h
        subst h
        exact AtV.ret Tryz.func3 tabOk ext3Ok mixed false [3, 14, 8, 11, 10, 18, 23, 25, 29, 28, 31, 35, 34, 39, 42, 41, 48, 51, 50] tys3 [false, true, true, true] (a1 b0 (a1 b1 (a1 (rfl : Bool.true = Bool.true) (a1 (rfl : Bool.true = Bool.true) trivial)))) (by kernel_rfl)
      · rw [if_neg b1] at h
        replace b1 := Bool.eq_false_iff.2 b1
        by_cases b2 : ((↑(List.length (g12_1 (g10_0 x1))) : Int) != (↑(List.length (g12_0 (g10_0 x1))) : Int)) = true
        · rw [if_pos b2] at h
          subst h
          exact AtV.ret Tryz.func3 tabOk ext3Ok mixed false [3, 14, 8, 11, 10, 18, 23, 25, 29, 28, 31, 35, 34, 39, 42, 41, 48, 51, 50] tys3 [false, false, true, true] (a1 b0 (a1 b1 (a1 b2 (a1 (rfl : Bool.true = Bool.true) trivial)))) (by kernel_rfl)
        · rw [if_neg b2] at h
          replace b2 := Bool.eq_false_iff.2 b2
          obtain ⟨s0, h⟩ := h
          by_cases b3 : (g13_0 (g12_1 (g10_0 x1)) != (↑(List.length (g10_0 x1)) : Int)) = true
          · rw [if_pos b3] at h
            subst h
            exact AtV.ret Tryz.func3 tabOk ext3Ok mixed false [3, 14, 8, 11, 10, 18, 23, 25, 29, 28, 31, 35, 34, 39, 42, 41, 48, 51, 50] tys3 [false, false, false, true] (a1 b0 (a1 b1 (a1 b2 (a1 s0 (a1 b3 trivial))))) (by kernel_rfl)
          · rw [if_neg b3] at h
            replace b3 := Bool.eq_false_iff.2 b3
            exact AtV.go tabOk ext3Ok mixed false [3, 14, 8, 11, 10, 18, 23, 25, 29, 28, 31, 35, 34, 39, 42, 41, 48, 51, 50] [] [13, 14, 16, 17] [0, 1, 2, 3] [false, false, false, false] (a1 b0 (a1 b1 (a1 b2 (a1 s0 (a1 b3 trivial))))) (ih25 _ _ h K q) (by kernel_rfl)

  · intro x1 v8 x0 ds h K q
    rw [R3_10] at h
    obtain ⟨s0, h⟩ := h
    exact AtV.go tabOk ext3Ok mixed false [3, 14, 8, 11, 10, 18, 23, 25, 29, 28, 31, 35, 34, 39, 42, 41, 48, 51, 50] [] [1, 5, 6, 8] [0, 1] [] (a1 s0 trivial) (ih9 _ _ _ _ h K q) (by kernel_rfl)

  · intro x1 ds h K q
    rw [R3_25] at h
    exact AtV.go tabOk ext3Ok mixed false [3, 14, 8, 11, 10, 18, 23, 25, 29, 28, 31, 35, 34, 39, 42, 41, 48, 51, 50] [] [13, 14, 16, 17, 19, 20] [0, 1, 2, 3] [] trivial (ih27 _ _ _ _ h K q) (by kernel_rfl)

  · intro v19 v20 x1 ds h K q
    rw [R3_27] at h
    by_cases b0 : (Decidable.decide (v20 < (↑(List.length (g12_0 (g10_0 x1))) : Int))) = true
    · rw [if_pos b0] at h
      exact AtV.go tabOk ext3Ok mixed false [3, 14, 8, 11, 10, 18, 23, 25, 29, 28, 31, 35, 34, 39, 42, 41, 48, 51, 50] [] [13, 14, 16, 17, 19, 20] [0, 1, 2, 3] [true] (a1 b0 trivial) (ih29 _ _ _ _ h K q) (by kernel_rfl)
    · rw [if_neg b0] at h
      replace b0 := Bool.eq_false_iff.2 b0
      obtain ⟨s0, h⟩ := h
      obtain ⟨s1, h⟩ := h
      by_cases b1 : (!g14_1 (g15_0 (g10_0 x1))) = true
      · rw [if_pos b1] at h
        subst h
        exact AtV.ret Tryz.func3 tabOk ext3Ok mixed false [3, 14, 8, 11, 10, 18, 23, 25, 29, 28, 31, 35, 34, 39, 42, 41, 48, 51, 50] tys3 [false, true, true] (a1 b0 (a1 s0 (a1 s1 (a1 b1 (a1 (rfl : Bool.true = Bool.true) trivial))))) (by kernel_rfl)
      · rw [if_neg b1] at h
        replace b1 := Bool.eq_false_iff.2 b1
        by_cases b2 : ((↑(List.length (g14_0 (g15_0 (g10_0 x1)))) : Int) != (↑(List.length (g10_0 x1)) : Int)) = true
        · rw [if_pos b2] at h
          subst h
          exact AtV.ret Tryz.func3 tabOk ext3Ok mixed false [3, 14, 8, 11, 10, 18, 23, 25, 29, 28, 31, 35, 34, 39, 42, 41, 48, 51, 50] tys3 [false, false, true] (a1 b0 (a1 s0 (a1 s1 (a1 b1 (a1 b2 trivial))))) (by kernel_rfl)
        · rw [if_neg b2] at h
          replace b2 := Bool.eq_false_iff.2 b2
          exact AtV.go tabOk ext3Ok mixed false [3, 14, 8, 11, 10, 18, 23, 25, 29, 28, 31, 35, 34, 39, 42, 41, 48, 51, 50] [] [13, 24] [0, 4] [false, false, false] (a1 b0 (a1 s0 (a1 s1 (a1 b1 (a1 b2 trivial))))) (ih48 _ _ h K q) (by kernel_rfl)

  · intro v19 v20 x1 ds h K q
    rw [R3_29] at h
    obtain ⟨s0, s1, h⟩ := h
    by_cases b0 : (Decidable.decide (List.getD (g12_1 (g10_0 x1)) (Int.toNat v20) 0 < 1)) = true
    · rw [if_pos b0] at h
      subst h
      exact AtV.ret Tryz.func3 tabOk ext3Ok mixed false [3, 14, 8, 11, 10, 18, 23, 25, 29, 28, 31, 35, 34, 39, 42, 41, 48, 51, 50] tys3 [true, true, true] (a1 s0 (a1 s1 (a1 b0 (a1 (rfl : Bool.true = Bool.true) (a1 (rfl : Bool.true = Bool.true) trivial))))) (by kernel_rfl)
    · rw [if_neg b0] at h
      replace b0 := Bool.eq_false_iff.2 b0
      obtain ⟨s2, s3, h⟩ := h
      obtain ⟨s4, h⟩ := h
      by_cases b1 : (Decidable.decide (v19 + List.getD (g12_1 (g10_0 x1)) (Int.toNat v20) 0 > (↑(List.length (g11_0 (g10_0 x1))) : Int))) = true
      · rw [if_pos b1] at h
        subst h
        exact AtV.ret Tryz.func3 tabOk ext3Ok mixed false [3, 14, 8, 11, 10, 18, 23, 25, 29, 28, 31, 35, 34, 39, 42, 41, 48, 51, 50] tys3 [false, true, true] (a1 s0 (a1 s1 (a1 b0 (a1 s2 (a1 s3 (a1 s4 (a1 b1 (a1 (rfl : Bool.true = Bool.true) trivial)))))))) (by kernel_rfl)
      · rw [if_neg b1] at h
        replace b1 := Bool.eq_false_iff.2 b1
        by_cases b2 : (Decidable.decide (v20 > 0)) = true
        · rw [if_pos b2] at h
          obtain ⟨s5, h⟩ := h
          obtain ⟨s6, s7, h⟩ := h
          obtain ⟨s8, s9, h⟩ := h
          by_cases b3 : (!Op.bytesLess (ByteArray.toList (List.getD (g12_0 (g10_0 x1)) (Int.toNat (v20 - 1)) ByteArray.empty)) (ByteArray.toList (List.getD (g12_0 (g10_0 x1)) (Int.toNat v20) ByteArray.empty))) = true
          · rw [if_pos b3] at h
            subst h
            exact AtV.ret Tryz.func3 tabOk ext3Ok mixed false [3, 14, 8, 11, 10, 18, 23, 25, 29, 28, 31, 35, 34, 39, 42, 41, 48, 51, 50] tys3 [false, false, true, true] (a1 s0 (a1 s1 (a1 b0 (a1 s2 (a1 s3 (a1 s4 (a1 b1 (a1 b2 (a1 s5 (a1 s6 (a1 s7 (a1 s8 (a1 s9 (a1 b3 trivial)))))))))))))) (by kernel_rfl)
          · rw [if_neg b3] at h
            replace b3 := Bool.eq_false_iff.2 b3
            exact AtV.go tabOk ext3Ok mixed false [3, 14, 8, 11, 10, 18, 23, 25, 29, 28, 31, 35, 34, 39, 42, 41, 48, 51, 50] [] [13, 14, 16, 17, 19, 20, 165, 166, 167, 168, 169, 170, 171, 172, 173, 176, 177, 178, 189] [0, 1, 2, 3] [false, false, true, false] (a1 s0 (a1 s1 (a1 b0 (a1 s2 (a1 s3 (a1 s4 (a1 b1 (a1 b2 (a1 s5 (a1 s6 (a1 s7 (a1 s8 (a1 s9 (a1 b3 trivial)))))))))))))) (ih31 _ _ _ _ _ h K q) (by kernel_rfl)
        · rw [if_neg b2] at h
          replace b2 := Bool.eq_false_iff.2 b2
          exact AtV.go tabOk ext3Ok mixed false [3, 14, 8, 11, 10, 18, 23, 25, 29, 28, 31, 35, 34, 39, 42, 41, 48, 51, 50] [] [13, 14, 16, 17, 19, 20, 165, 166, 167, 168, 169, 170, 171, 172, 173, 176, 177, 178, 189] [0, 1, 2, 3] [false, false, false, false] (a1 s0 (a1 s1 (a1 b0 (a1 s2 (a1 s3 (a1 s4 (a1 b1 (a1 b2 (a1 (rfl : Bool.false = Bool.false) trivial))))))))) (ih31 _ _ _ _ _ h K q) (by kernel_rfl)

  · intro x1 ds h K q
    rw [R3_48] at h
    exact AtV.go tabOk ext3Ok mixed false [3, 14, 8, 11, 10, 18, 23, 25, 29, 28, 31, 35, 34, 39, 42, 41, 48, 51, 50] [] [13, 24, 26] [0, 1] [] trivial (ih49 _ _ _ h K q) (by kernel_rfl)

  · intro v189 v19 v20 x1 ds h K q
    rw [R3_31] at h
    exact AtV.go tabOk ext3Ok mixed false [3, 14, 8, 11, 10, 18, 23, 25, 29, 28, 31, 35, 34, 39, 42, 41, 48, 51, 50] [] [13, 14, 16, 17, 19, 20, 21, 22, 165, 166, 167, 168, 169, 170, 171, 172, 173, 176, 177, 178, 189] [0, 1, 2, 3] [] trivial (ih33 _ _ _ _ _ _ _ h K q) (by kernel_rfl)

  · intro v26 x1 ds h K q
    rw [R3_49] at h
    by_cases b0 : (Decidable.decide (v26 < (↑(List.length (g10_0 x1)) : Int))) = true
    · rw [if_pos b0] at h
      exact AtV.go tabOk ext3Ok mixed false [3, 14, 8, 11, 10, 18, 23, 25, 29, 28, 31, 35, 34, 39, 42, 41, 48, 51, 50] [] [13, 24, 26] [0, 1] [true] (a1 b0 trivial) (ih51 _ _ _ h K q) (by kernel_rfl)
    · rw [if_neg b0] at h
      replace b0 := Bool.eq_false_iff.2 b0
      subst h
      exact AtV.ret Tryz.func3 tabOk ext3Ok mixed false [3, 14, 8, 11, 10, 18, 23, 25, 29, 28, 31, 35, 34, 39, 42, 41, 48, 51, 50] tys3 [false] (a1 b0 trivial) (by kernel_rfl)

  · intro v21 v22 v19 v20 x1 v189 ds h K q
    rw [R3_33] at h
    by_cases b0 : (Decidable.decide (v22 < (↑(List.length (g10_0 x1)) : Int))) = true
    · rw [if_pos b0] at h
      exact AtV.go tabOk ext3Ok mixed false [3, 14, 8, 11, 10, 18, 23, 25, 29, 28, 31, 35, 34, 39, 42, 41, 48, 51, 50] [] [13, 14, 16, 17, 19, 20, 21, 22, 165, 166, 167, 168, 169, 170, 171, 172, 173, 176, 177, 178, 189] [0, 1, 2, 3] [true] (a1 b0 trivial) (ih35 _ _ _ _ _ _ _ h K q) (by kernel_rfl)
    · rw [if_neg b0] at h
      replace b0 := Bool.eq_false_iff.2 b0
      obtain ⟨s0, s1, h⟩ := h
      by_cases b1 : (v21 != List.getD (g12_1 (g10_0 x1)) (Int.toNat v20) 0) = true
      · rw [if_pos b1] at h
        subst h
        exact AtV.ret Tryz.func3 tabOk ext3Ok mixed false [3, 14, 8, 11, 10, 18, 23, 25, 29, 28, 31, 35, 34, 39, 42, 41, 48, 51, 50] tys3 [false, true] (a1 b0 (a1 s0 (a1 s1 (a1 b1 trivial)))) (by kernel_rfl)
      · rw [if_neg b1] at h
        replace b1 := Bool.eq_false_iff.2 b1
        exact AtV.go tabOk ext3Ok mixed false [3, 14, 8, 11, 10, 18, 23, 25, 29, 28, 31, 35, 34, 39, 42, 41, 48, 51, 50] [] [13, 14, 16, 17, 19, 20, 165, 166, 167, 168, 169, 170, 171, 172, 173, 176, 177, 178, 189] [0, 1, 2, 3] [false, false] (a1 b0 (a1 s0 (a1 s1 (a1 b1 trivial)))) (ih39 _ _ _ _ _ h K q) (by kernel_rfl)

  · intro v26 x1 ds h K q
    rw [R3_51] at h
    obtain ⟨s0, s1, h⟩ := h
    obtain ⟨s2, s3, h⟩ := h
    by_cases b0 : (!ByteArray.toList (List.getD (g14_0 (g15_0 (g10_0 x1))) (Int.toNat v26) ByteArray.empty) == ByteArray.toList (List.getD (g10_0 x1) (Int.toNat v26) ByteArray.empty)) = true
    · rw [if_pos b0] at h
      subst h
      exact AtV.ret Tryz.func3 tabOk ext3Ok mixed false [3, 14, 8, 11, 10, 18, 23, 25, 29, 28, 31, 35, 34, 39, 42, 41, 48, 51, 50] tys3 [true] (a1 s0 (a1 s1 (a1 s2 (a1 s3 (a1 b0 trivial))))) (by kernel_rfl)
    · rw [if_neg b0] at h
      replace b0 := Bool.eq_false_iff.2 b0
      exact AtV.go tabOk ext3Ok mixed false [3, 14, 8, 11, 10, 18, 23, 25, 29, 28, 31, 35, 34, 39, 42, 41, 48, 51, 50] [] [13, 24, 26] [0, 1] [false] (a1 s0 (a1 s1 (a1 s2 (a1 s3 (a1 b0 trivial))))) (ih50 _ _ _ h K q) (by kernel_rfl)

  · intro v19 v20 v21 v22 x1 v189 ds h K q
    rw [R3_35] at h
    obtain ⟨s0, s1, h⟩ := h
    obtain ⟨s2, s3, h⟩ := h
    by_cases b0 : (ByteArray.toList (List.getD (g10_0 x1) (Int.toNat v22) ByteArray.empty) == ByteArray.toList (List.getD (g12_0 (g10_0 x1)) (Int.toNat v20) ByteArray.empty)) = true
    · rw [if_pos b0] at h
      obtain ⟨s4, h⟩ := h
      exact AtV.go tabOk ext3Ok mixed false [3, 14, 8, 11, 10, 18, 23, 25, 29, 28, 31, 35, 34, 39, 42, 41, 48, 51, 50] [] [13, 14, 16, 17, 19, 20, 21, 22, 165, 166, 167, 168, 169, 170, 171, 172, 173, 176, 177, 178, 189] [0, 1, 2, 3] [true] (a1 s0 (a1 s1 (a1 s2 (a1 s3 (a1 b0 (a1 s4 trivial)))))) (ih34 _ _ _ _ _ _ _ h K q) (by kernel_rfl)
    · rw [if_neg b0] at h
      replace b0 := Bool.eq_false_iff.2 b0
      exact AtV.go tabOk ext3Ok mixed false [3, 14, 8, 11, 10, 18, 23, 25, 29, 28, 31, 35, 34, 39, 42, 41, 48, 51, 50] [] [13, 14, 16, 17, 19, 20, 21, 22, 165, 166, 167, 168, 169, 170, 171, 172, 173, 176, 177, 178, 189] [0, 1, 2, 3] [false] (a1 s0 (a1 s1 (a1 s2 (a1 s3 (a1 b0 trivial))))) (ih34 _ _ _ _ _ _ _ h K q) (by kernel_rfl)

  · intro v19 v20 x1 v189 ds h K q
    rw [R3_39] at h
    exact AtV.go tabOk ext3Ok mixed false [3, 14, 8, 11, 10, 18, 23, 25, 29, 28, 31, 35, 34, 39, 42, 41, 48, 51, 50] [] [13, 14, 16, 17, 19, 20, 23, 165, 166, 167, 168, 169, 170, 171, 172, 173, 176, 177, 178, 189] [0, 1, 2, 3] [] trivial (ih40 _ _ _ _ _ _ h K q) (by kernel_rfl)

  · intro v26 x1 ds h K q
    rw [R3_50] at h
    obtain ⟨s0, h⟩ := h
    exact AtV.go tabOk ext3Ok mixed false [3, 14, 8, 11, 10, 18, 23, 25, 29, 28, 31, 35, 34, 39, 42, 41, 48, 51, 50] [] [13, 24, 26] [0, 1] [] (a1 s0 trivial) (ih49 _ _ _ h K q) (by kernel_rfl)

  · intro v21 v19 v20 v22 x1 v189 ds h K q
    rw [R3_34] at h
    obtain ⟨s0, h⟩ := h
    exact AtV.go tabOk ext3Ok mixed false [3, 14, 8, 11, 10, 18, 23, 25, 29, 28, 31, 35, 34, 39, 42, 41, 48, 51, 50] [] [13, 14, 16, 17, 19, 20, 21, 22, 165, 166, 167, 168, 169, 170, 171, 172, 173, 176, 177, 178, 189] [0, 1, 2, 3] [] (a1 s0 trivial) (ih33 _ _ _ _ _ _ _ h K q) (by kernel_rfl)

  · intro v23 v19 v20 x1 v189 ds h K q
    rw [R3_40] at h
    obtain ⟨s0, s1, h⟩ := h
    by_cases b0 : (Decidable.decide (v23 < List.getD (g12_1 (g10_0 x1)) (Int.toNat v20) 0)) = true
    · rw [if_pos b0] at h
      exact AtV.go tabOk ext3Ok mixed false [3, 14, 8, 11, 10, 18, 23, 25, 29, 28, 31, 35, 34, 39, 42, 41, 48, 51, 50] [] [13, 14, 16, 17, 19, 20, 23, 165, 166, 167, 168, 169, 170, 171, 172, 173, 176, 177, 178, 189] [0, 1, 2, 3] [true] (a1 s0 (a1 s1 (a1 b0 trivial))) (ih42 _ _ _ _ _ _ h K q) (by kernel_rfl)
    · rw [if_neg b0] at h
      replace b0 := Bool.eq_false_iff.2 b0
      obtain ⟨s2, s3, h⟩ := h
      obtain ⟨s4, h⟩ := h
      exact AtV.go tabOk ext3Ok mixed false [3, 14, 8, 11, 10, 18, 23, 25, 29, 28, 31, 35, 34, 39, 42, 41, 48, 51, 50] [] [13, 14, 16, 17, 19, 20, 165, 166, 167, 168, 169, 170, 171, 172, 173, 176, 177, 178, 189] [0, 1, 2, 3] [false] (a1 s0 (a1 s1 (a1 b0 (a1 s2 (a1 s3 (a1 s4 trivial)))))) (ih28 _ _ _ _ _ h K q) (by kernel_rfl)

  · intro v19 v20 v23 x1 v189 ds h K q
    rw [R3_42] at h
    obtain ⟨s0, h⟩ := h
    obtain ⟨s1, s2, h⟩ := h
    obtain ⟨s3, s4, h⟩ := h
    by_cases b0 : (!ByteArray.toList (List.getD (g11_0 (g10_0 x1)) (Int.toNat (v19 + v23)) ByteArray.empty) == ByteArray.toList (List.getD (g12_0 (g10_0 x1)) (Int.toNat v20) ByteArray.empty)) = true
    · rw [if_pos b0] at h
      subst h
      exact AtV.ret Tryz.func3 tabOk ext3Ok mixed false [3, 14, 8, 11, 10, 18, 23, 25, 29, 28, 31, 35, 34, 39, 42, 41, 48, 51, 50] tys3 [true] (a1 s0 (a1 s1 (a1 s2 (a1 s3 (a1 s4 (a1 b0 trivial)))))) (by kernel_rfl)
    · rw [if_neg b0] at h
      replace b0 := Bool.eq_false_iff.2 b0
      exact AtV.go tabOk ext3Ok mixed false [3, 14, 8, 11, 10, 18, 23, 25, 29, 28, 31, 35, 34, 39, 42, 41, 48, 51, 50] [] [13, 14, 16, 17, 19, 20, 23, 165, 166, 167, 168, 169, 170, 171, 172, 173, 176, 177, 178, 189] [0, 1, 2, 3] [false] (a1 s0 (a1 s1 (a1 s2 (a1 s3 (a1 s4 (a1 b0 trivial)))))) (ih41 _ _ _ _ _ _ h K q) (by kernel_rfl)

  · intro v19 x1 v20 v189 ds h K q
    rw [R3_28] at h
    obtain ⟨s0, h⟩ := h
    exact AtV.go tabOk ext3Ok mixed false [3, 14, 8, 11, 10, 18, 23, 25, 29, 28, 31, 35, 34, 39, 42, 41, 48, 51, 50] [] [13, 14, 16, 17, 19, 20] [0, 1, 2, 3] [] (a1 s0 trivial) (ih27 _ _ _ _ h K q) (by kernel_rfl)

  · intro v19 v20 v23 x1 v189 ds h K q
    rw [R3_41] at h
    obtain ⟨s0, h⟩ := h
    exact AtV.go tabOk ext3Ok mixed false [3, 14, 8, 11, 10, 18, 23, 25, 29, 28, 31, 35, 34, 39, 42, 41, 48, 51, 50] [] [13, 14, 16, 17, 19, 20, 23, 165, 166, 167, 168, 169, 170, 171, 172, 173, 176, 177, 178, 189] [0, 1, 2, 3] [] (a1 s0 trivial) (ih40 _ _ _ _ _ _ h K q) (by kernel_rfl)



def g3_0 (x0 x1 : List Int) : Bool := true
def P3 (x0 x1 : List Int) : Prop := True

theorem r493 {x1 : List Int} {rows : List ByteArray} (e : g10_0 x1 = rows) (hl : rows.length ≤ 1000) (hb : g14_0 (g15_0 rows) = rows) :
    ∀ (k v : Nat), v + k = rows.length → R3_49 (3 * k + 1) (v : Int) x1 [⟨.bool, true⟩] := by
  intro k
  induction k with
  | zero =>
    intro v hv
    rw [R3_49, e, if_neg (by simp only [decide_eq_true_eq]; omega)]
  | succ k ih =>
    intro v hv
    have e3 : (v : Int) + 1 = ((v + 1 : Nat) : Int) := by omega
    rw [show 3 * (k + 1) + 1 = 3 * k + 1 + 1 + 1 + 1 by omega, R3_49, e, if_pos (by simp only [decide_eq_true_eq]; omega), R3_51, e, hb]
    refine ⟨by omega, by omega, by omega, by omega, ?_⟩
    rw [beq_self_eq_true, if_neg (by decide), R3_50, e3]
    exact ⟨by rw [i64_iff]; omega, ih (v + 1) (by omega)⟩

theorem r403 {x1 : List Int} {rows D : List ByteArray} {C : List Int} (e : g10_0 x1 = rows) (eS : g11_0 rows = sortB rows) (eD : g12_0 rows = D) (eC : g12_1 rows = C) (hl : rows.length ≤ 1000) (hsl : (sortB rows).length = rows.length) (hCD : C.length = D.length)
    {i : Nat} (hi : i < D.length) {b : Bool} (h1 : (runAt C i : Int) + C.getD i 0 ≤ (rows.length : Int)) (h2 : ∀ k : Nat, (k : Int) < C.getD i 0 → (sortB rows).getD (runAt C i + k) ByteArray.empty = D.getD i ByteArray.empty) (M : Nat) (hn : R3_28 M (runAt C i : Int) x1 (i : Int) b [⟨.bool, true⟩]) :
    ∀ (k v : Nat), ((v + k : Nat) : Int) = C.getD i 0 → R3_40 (3 * k + M + 1) (v : Int) (runAt C i : Int) (i : Int) x1 b [⟨.bool, true⟩] := by
  intro k
  induction k with
  | zero =>
    intro v hv
    rw [show 3 * 0 + M + 1 = M + 1 by omega, R3_40, e, eC]
    simp only [Int.toNat_natCast]
    refine ⟨by omega, by omega, ?_⟩
    rw [if_neg (by simp only [decide_eq_true_eq]; omega)]
    exact ⟨by omega, by omega, by rw [i64_iff]; omega, hn⟩
  | succ k ih =>
    intro v hv
    have e3 : (v : Int) + 1 = ((v + 1 : Nat) : Int) := by omega
    have e4 : (runAt C i : Int) + (v : Int) = ((runAt C i + v : Nat) : Int) := by omega
    have hg := h2 v (by omega)
    rw [show 3 * (k + 1) + M + 1 = 3 * k + M + 1 + 1 + 1 + 1 by omega, R3_40, e, eC]
    simp only [Int.toNat_natCast]
    refine ⟨by omega, by omega, ?_⟩
    rw [if_pos (by simp only [decide_eq_true_eq]; omega), R3_42, e, eS, eD, e4]
    simp only [Int.toNat_natCast]
    rw [if_neg (show ¬ (!ByteArray.toList ((sortB rows).getD (runAt C i + v) ByteArray.empty) == ByteArray.toList (D.getD i ByteArray.empty)) = true by rw [hg, beq_self_eq_true]; decide), R3_41, e3]
    exact ⟨by rw [i64_iff]; omega, by omega, by omega, by omega, by omega, by rw [i64_iff]; omega, ih (v + 1) (by omega)⟩

theorem r333 {x1 : List Int} {rows D : List ByteArray} {C : List Int} (e : g10_0 x1 = rows) (eD : g12_0 rows = D) (eC : g12_1 rows = C) (hl : rows.length ≤ 1000) (hCD : C.length = D.length)
    {i : Nat} (hi : i < D.length) {b : Bool} {a : Int} (hc : (rows.countP (isB (D.getD i ByteArray.empty)) : Int) = C.getD i 0) (M : Nat) (hn : R3_39 M a (i : Int) x1 b [⟨.bool, true⟩]) :
    ∀ (k v : Nat), v + k = rows.length → R3_33 (3 * k + M + 1) (((rows.take v).countP (isB (D.getD i ByteArray.empty)) : Nat) : Int) (v : Int) a (i : Int) x1 b [⟨.bool, true⟩] := by
  intro k
  induction k with
  | zero =>
    intro v hv
    rw [show 3 * 0 + M + 1 = M + 1 by omega, R3_33, e, eC, if_neg (by simp only [decide_eq_true_eq]; omega), List.take_of_length_le (by omega), hc]
    simp only [Int.toNat_natCast]
    refine ⟨by omega, by omega, ?_⟩
    rw [if_neg (by simp)]
    exact hn
  | succ k ih =>
    intro v hv
    have hlt : v < rows.length := by omega
    have e3 : (v : Int) + 1 = ((v + 1 : Nat) : Int) := by omega
    have hle : (rows.take v).countP (isB (D.getD i ByteArray.empty)) ≤ v := Nat.le_trans List.countP_le_length (by rw [List.length_take]; omega)
    have hs := take_snoc ByteArray.empty rows v hlt
    have h := ih (v + 1) (by omega)
    rw [hs, List.countP_append] at h
    rw [show 3 * (k + 1) + M + 1 = 3 * k + M + 1 + 1 + 1 + 1 by omega, R3_33, e, if_pos (by simp only [decide_eq_true_eq]; omega), R3_35, e, eD]
    simp only [Int.toNat_natCast]
    refine ⟨by omega, by omega, by omega, by omega, ?_⟩
    by_cases hq : isB (D.getD i ByteArray.empty) (rows.getD v ByteArray.empty) = true
    · rw [if_pos (show (ByteArray.toList (rows.getD v ByteArray.empty) == ByteArray.toList (D.getD i ByteArray.empty)) = true from hq), R3_34, e3]
      rw [List.countP_singleton, if_pos hq] at h
      have e5 : (((rows.take v).countP (isB (D.getD i ByteArray.empty)) : Nat) : Int) + 1 = (((rows.take v).countP (isB (D.getD i ByteArray.empty)) + 1 : Nat) : Int) := by omega
      rw [e5]
      exact ⟨by rw [i64_iff]; omega, by rw [i64_iff]; omega, h⟩
    · rw [if_neg (show ¬ (ByteArray.toList (rows.getD v ByteArray.empty) == ByteArray.toList (D.getD i ByteArray.empty)) = true from hq), R3_34, e3]
      rw [List.countP_singleton, if_neg hq, Nat.add_zero] at h
      exact ⟨by rw [i64_iff]; omega, h⟩

theorem r273 {x1 : List Int} {rows D : List ByteArray} {C : List Int} (e : g10_0 x1 = rows) (eS : g11_0 rows = sortB rows) (eD : g12_0 rows = D) (eC : g12_1 rows = C) (hl : rows.length ≤ 1000) (hsl : (sortB rows).length = rows.length) (hCD : C.length = D.length) (hDl : D.length ≤ rows.length)
    (hrow : ∀ i, i < D.length → (1 ≤ i → sless (D.getD (i - 1) ByteArray.empty) (D.getD i ByteArray.empty) = true) ∧ 1 ≤ C.getD i 0 ∧ (runAt C i : Int) + C.getD i 0 ≤ (rows.length : Int) ∧ (rows.countP (isB (D.getD i ByteArray.empty)) : Int) = C.getD i 0 ∧ (∀ k : Nat, (k : Int) < C.getD i 0 → (sortB rows).getD (runAt C i + k) ByteArray.empty = D.getD i ByteArray.empty) ∧ (runAt C (i + 1) : Int) = runAt C i + C.getD i 0)
    (p15 : P15 rows) (p14 : P14 (g15_0 rows)) (b1 : g14_1 (g15_0 rows) = true) (hb : g14_0 (g15_0 rows) = rows) :
    ∀ (k i : Nat), i + k = D.length → ∃ n, R3_27 n (runAt C i : Int) (i : Int) x1 [⟨.bool, true⟩] := by
  intro k
  induction k with
  | zero =>
    intro i hi
    refine ⟨3 * rows.length + 1 + 1 + 1, ?_⟩
    rw [R3_27, e, eD, if_neg (by simp only [decide_eq_true_eq]; omega), b1, hb, if_neg (by decide), if_neg (by simp), R3_48]
    exact ⟨p15, p14, r493 e hl hb rows.length 0 (by omega)⟩
  | succ k ih =>
    intro i hi
    have hlt : i < D.length := by omega
    obtain ⟨n, hn⟩ := ih (i + 1) (by omega)
    obtain ⟨h1, h2, h3, h4, h5, h6⟩ := hrow i hlt
    have e3 : (i : Int) + 1 = ((i + 1 : Nat) : Int) := by omega
    have h28 : ∀ b, R3_28 (n + 1) (runAt C i : Int) x1 (i : Int) b [⟨.bool, true⟩] := fun b => by
      rw [R3_28, e, eC, e3]
      simp only [Int.toNat_natCast]
      rw [← h6]
      exact ⟨by rw [i64_iff]; omega, hn⟩
    obtain ⟨c, hc⟩ := Int.eq_ofNat_of_zero_le (show 0 ≤ C.getD i 0 by omega)
    have h39 : ∀ b, R3_39 (3 * c + (n + 1) + 1 + 1) (runAt C i : Int) (i : Int) x1 b [⟨.bool, true⟩] := fun b => by
      rw [R3_39]
      exact r403 e eS eD eC hl hsl hCD hlt h3 h5 (n + 1) (h28 b) c 0 (by rw [hc]; omega)
    have h31 : ∀ b, R3_31 (3 * rows.length + (3 * c + (n + 1) + 1 + 1) + 1 + 1) b (runAt C i : Int) (i : Int) x1 [⟨.bool, true⟩] := fun b => by
      rw [R3_31]
      exact r333 e eD eC hl hCD hlt h4 _ (h39 b) rows.length 0 (by omega)
    refine ⟨3 * rows.length + (3 * c + (n + 1) + 1 + 1) + 1 + 1 + 1 + 1, ?_⟩
    rw [R3_27, e, eD, if_pos (by simp only [decide_eq_true_eq]; omega), R3_29, e, eD, eC, eS]
    simp only [Int.toNat_natCast]
    refine ⟨by omega, by omega, ?_⟩
    rw [if_neg (by simp only [decide_eq_true_eq]; omega)]
    refine ⟨by omega, by omega, by rw [i64_iff]; omega, ?_⟩
    rw [if_neg (by simp only [decide_eq_true_eq]; omega)]
    by_cases h0 : i = 0
    · subst h0
      rw [if_neg (by decide)]
      exact h31 _
    · have e5 : ((i : Int) - 1).toNat = i - 1 := by omega
      have hl := h1 (by omega)
      unfold sless at hl
      rw [if_pos (by simp only [decide_eq_true_eq]; omega), e5]
      refine ⟨by rw [i64_iff]; omega, by omega, by omega, by omega, by omega, ?_⟩
      rw [hl, if_neg (by decide)]
      exact h31 _

theorem r183 (x1 : List Int) (hw : Wf (.sl (.int .u8)) x1) : ∃ n, R3_18 n x1 [⟨.bool, true⟩] := by
  have p26 : P26 (g16_0 x1) := (src_start hw).up (by decide)
  obtain ⟨_, ⟨q1, q2⟩, _⟩ := q26 _ p26
  have p10 : P10 x1 := ⟨p26, trivial⟩
  obtain ⟨rows, e⟩ : ∃ r, g10_0 x1 = r := ⟨_, rfl⟩
  have hl : rows.length ≤ 250 := by rw [← e]; exact q1
  have hs : ∀ w ∈ rows, w.size ≤ 200 := by rw [← e]; exact q2
  have p12 : P12 rows := (show rows.length ≤ 1048576 by omega)
  have p11 : P11 rows := by
    unfold P11
    split
    · trivial
    · exact ⟨(show rows.length ≤ 1048576 by omega), (show rows.length ≤ 1048576 by omega), (sortB_perm rows).length_eq, trivial⟩
  by_cases hv : g27_0 rows = true
  · have eS : g11_0 rows = sortB rows := by unfold g11_0; rw [if_neg (by rw [hv]; simp)]; rfl
    have eS1 : g11_1 rows = 0 := by unfold g11_1; rw [if_neg (by rw [hv]; simp)]
    obtain ⟨D, C, hDC, hsl, hCD, hDl, hC, hsum, hrow⟩ := counted_law rows
    have eD : g12_0 rows = D := by unfold g12_0; rw [if_pos hv, hDC]
    have eC : g12_1 rows = C := by unfold g12_1; rw [if_pos hv, hDC]
    have e2 : g12_2 rows = 0 := by unfold g12_2; rw [if_pos hv]
    obtain ⟨p15, p14, b1, hb⟩ := read_back rows hv (by omega) (fun x hx => by have := hs x hx; omega)
    obtain ⟨n, hn⟩ := r273 e eS eD eC (by omega) hsl hCD hDl hrow p15 p14 b1 hb D.length 0 (by omega)
    have e13 : g13_0 C = (rows.length : Int) := hsum
    have p13 : P13 C := ⟨by omega, fun c hc => by have := hC c hc; omega⟩
    refine ⟨n + 1 + 1 + 1, ?_⟩
    rw [R3_18, e, eS1, if_neg (by decide), R3_23, e, e2, if_neg (by decide), eS, hsl, if_neg (by simp), eC, eD, hCD, if_neg (by simp), e13, if_neg (by simp), R3_25]
    have e0 : runAt C 0 = 0 := by cases C <;> rfl
    rw [e0] at hn
    exact ⟨p10, p11, p12, p13, hn⟩
  · have hv := Bool.eq_false_iff.2 hv
    have eS : g11_0 rows = [] := by unfold g11_0; rw [if_pos (by rw [hv]; rfl)]
    have eS1 : g11_1 rows = 1 := by unfold g11_1; rw [if_pos (by rw [hv]; rfl)]
    have e2 : g12_2 rows = 1 := by unfold g12_2; rw [if_neg (by rw [hv]; simp)]
    refine ⟨0 + 1, ?_⟩
    rw [R3_18, e, eS1, e2, eS, if_pos (by decide), if_pos (by decide)]
    exact ⟨p10, p11, p12, rfl⟩

theorem r143 (x1 : List Int) (hw : Wf (.sl (.int .u8)) x1) : ∃ n, R3_14 n x1 [⟨.bool, true⟩] := by
  obtain ⟨n, hn⟩ := r183 x1 hw
  have p23 : P23 (g16_0 x1) := (src_start hw).up (by decide)
  have p8 : P8 x1 := ⟨p23, trivial⟩
  obtain ⟨xs, e⟩ : ∃ r, g8_0 x1 = r := ⟨_, rfl⟩
  have p9 := wear_pre xs
  refine ⟨n + 1, ?_⟩
  rw [R3_14, e]
  by_cases h : g9_1 xs = 0
  · obtain ⟨hl, l1, l2⟩ := wear_lines xs h
    rw [h, if_pos (by decide), l1, if_neg (by simp), l2, if_neg (by decide)]
    exact ⟨p8, p9, by rw [i64_iff]; omega, hn⟩
  · rw [if_neg (by simpa using h)]
    exact ⟨p8, p9, hn⟩

theorem r93 {x0 x1 : List Int} {xs : List (ByteArray × Int × Int × Int × Unit)} (e : g5_0 x0 = xs) (hl : xs.length ≤ 1000) (hlen : (g6_0 xs).length = xs.length + 1)
    (hrow : ∀ i, i < xs.length → ((xs.getD i (ByteArray.empty, (0 : Int), (0 : Int), (0 : Int), ())).1).size < ((g6_0 xs).getD (i + 1) ByteArray.empty).size ∧ ByteArray.extract ((g6_0 xs).getD (i + 1) ByteArray.empty) 0 ((xs.getD i (ByteArray.empty, (0 : Int), (0 : Int), (0 : Int), ())).1).size = (xs.getD i (ByteArray.empty, (0 : Int), (0 : Int), (0 : Int), ())).1)
    (M : Nat) (hn : R3_14 M x1 [⟨.bool, true⟩]) : ∀ (k v : Nat), v + k = xs.length → R3_9 (3 * k + M + 1) (v : Int) x1 x0 [⟨.bool, true⟩] := by
  intro k
  induction k with
  | zero =>
    intro v hv
    rw [show 3 * 0 + M + 1 = M + 1 by omega, R3_9, e, if_neg (by simp only [decide_eq_true_eq]; omega)]
    exact hn
  | succ k ih =>
    intro v hv
    have e3 : (v : Int) + 1 = ((v + 1 : Nat) : Int) := by omega
    obtain ⟨h1, h2⟩ := hrow v (by omega)
    rw [show 3 * (k + 1) + M + 1 = 3 * k + M + 1 + 1 + 1 + 1 by omega, R3_9, e, if_pos (by simp only [decide_eq_true_eq]; omega), R3_11, e, e3]
    simp only [Int.toNat_natCast]
    have hq : ¬ (!ByteArray.toList (ByteArray.extract ((g6_0 xs).getD (v + 1) ByteArray.empty) 0 ((xs.getD v (ByteArray.empty, (0 : Int), (0 : Int), (0 : Int), ())).1).size) == ByteArray.toList ((xs.getD v (ByteArray.empty, (0 : Int), (0 : Int), (0 : Int), ())).1)) = true := by rw [h2, beq_self_eq_true]; decide
    rw [if_neg (by simp only [decide_eq_true_eq]; omega), if_neg hq, R3_10, e3]
    exact ⟨by omega, by omega, by rw [i64_iff]; omega, by omega, by omega, by rw [i64_iff]; omega, by omega, by omega, by omega, by omega, by rw [i64_iff]; omega, ih (v + 1) (by omega)⟩

theorem top3 (x0 x1 : List Int) (w0 : Wf (.sl (.int .u8)) x0) (w1 : Wf (.sl (.int .u8)) x1) : ∃ n, R3 n x0 x1 [⟨.bool, g3_0 x0 x1⟩] := by
  unfold g3_0
  obtain ⟨n, hn⟩ := r143 x1 w1
  have p17 : P17 (g16_0 x0) := (src_start w0).up (by decide)
  have p5 : P5 x0 := ⟨p17, trivial⟩
  obtain ⟨xs, e⟩ : ∃ r, g5_0 x0 = r := ⟨_, rfl⟩
  have p6 := fare_pre xs
  by_cases h : g6_1 xs = 0
  · obtain ⟨hl, l1, l2, l3⟩ := fare_lines xs h
    refine ⟨3 * xs.length + n + 1 + 1 + 1 + 1, ?_⟩
    rw [R3]
    split
    · rfl
    split
    · rfl
    rw [R3_3, e, h, if_pos (by decide), l1, if_neg (by simp), l2, if_neg (by decide), R3_8]
    exact ⟨p5, p6, by rw [i64_iff]; omega, r93 e (by omega) l1 l3 n hn xs.length 0 (by omega)⟩
  · refine ⟨n + 1 + 1, ?_⟩
    rw [R3]
    split
    · rfl
    split
    · rfl
    rw [R3_3, e, if_neg (by simpa using h)]
    exact ⟨p5, p6, hn⟩

def S3 : Am.Spec := { sig := sig3, pre := fun ⟨x0, x1, _⟩ => P3 x0 x1, res := fun ⟨x0, x1, _⟩ => [⟨Ty.bool, g3_0 x0 x1⟩] }
theorem con3 : Contract Tryz.prog 3 S3 := contract_of Tryz.func3 hb3 (Nat.le_of_ble_eq_true (by kernel_rfl)) (fun ⟨x0, x1, _⟩ h hwf K q =>
  let ⟨n, hn⟩ := top3 x0 x1 hwf.1 hwf.2.1
  (snd3 n).1 x0 x1 _ hn K q)

end
end Go.Proofs.YtmbkjhbindikkaaGreatDoor

/- The plain law of FnReports. -/
set_option linter.unusedVariables false
set_option linter.unusedSimpArgs false
set_option maxRecDepth 100000
namespace Go.Proofs.YtmbkjhbindikkaaGreatDoor
open Go Go.Am Go.Proofs

theorem law3 (x0 x1 : List Int) (h0 : Wf (.sl (.int .u8)) x0) (h1 : Wf (.sl (.int .u8)) x1) : P3 x0 x1 ∧ g3_0 x0 x1 = true := ⟨trivial, rfl⟩

end Go.Proofs.YtmbkjhbindikkaaGreatDoor
