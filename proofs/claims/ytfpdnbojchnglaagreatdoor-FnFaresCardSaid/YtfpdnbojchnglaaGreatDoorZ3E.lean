/- Several texts in one: the functions that this law reaches, and their laws. -/
import Derived.Test.YtfpdnbojchnglaaGreatDoorZ3A
import Derived.Test.YtfpdnbojchnglaaGreatDoorZ3B
import Derived.Test.YtfpdnbojchnglaaGreatDoorZ3C
import Derived.Test.YtfpdnbojchnglaaGreatDoorZ3D
import Derived.Lib.ItoaNum
import Derived.Lib.TrimByte
import Derived.Lib.ParseIntBCases

/- Function 14 (spec.DrawExpiredOf): its runs between cut points. Written by a program of this repo (gen). -/
set_option linter.unusedVariables false
set_option linter.unusedSimpArgs false
set_option maxRecDepth 100000
namespace Go.Proofs.YtfpdnbojchnglaaGreatDoor
open Go Go.Am Go.Proofs
noncomputable section
def ext14 : Ext := [(18, S18), (19, S19), (41, S41), (22, S22)]
theorem call14_18 : Callable Tryz.prog 18 := ⟨Tryz.f18, Tryz.func18, by kernel_rfl, by kernel_rfl⟩
theorem call14_19 : Callable Tryz.prog 19 := ⟨Tryz.f19, Tryz.func19, by kernel_rfl, by kernel_rfl⟩
theorem call14_41 : Callable Tryz.prog 41 := ⟨Tryz.f41, Tryz.func41, by kernel_rfl, by kernel_rfl⟩
theorem call14_22 : Callable Tryz.prog 22 := ⟨Tryz.f22, Tryz.func22, by kernel_rfl, by kernel_rfl⟩
theorem ext14Ok : ExtOk Tryz.prog ext14 := ⟨⟨call14_18, con18⟩, ⟨call14_19, con19⟩, ⟨call14_41, con41⟩, ⟨call14_22, con22⟩, trivial⟩

noncomputable def b14 : Code := bodyOf Tryz.f14
theorem hb14 : Tryz.f14.body = some b14 := by kernel_rfl
def sig14 : List AT := [AT.v (Ty.sl (Ty.int IntKind.u8))]
def tys14 : List Ty := [Ty.sl (Ty.cons Ty.str (Ty.cons (Ty.int IntKind.i64) (Ty.cons (Ty.int IntKind.i64) (Ty.cons (Ty.int IntKind.i64) Ty.unit)))), Ty.sl (Ty.cons Ty.str (Ty.cons (Ty.int IntKind.i64) (Ty.cons (Ty.int IntKind.i64) Ty.unit))), Ty.int IntKind.i64]
def kds14 : List RK := []
def oks14 : List AT := owns sig14
def P14 (x0 : List Int) : Prop := ((P19 (g18_0 x0)) ∧ ((P41 (u19_0 (g18_0 x0))) ∧ ((P22 (u41_0 (u19_0 (g18_0 x0)))) ∧ True)))
def g14_0 (x0 : List Int) : List (ByteArray × Int × Int × Int × Unit) := g19_0 (g18_0 x0)
def g14_1 (x0 : List Int) : List (ByteArray × Int × Int × Unit) := g41_0 (u19_0 (g18_0 x0))
def g14_2 (x0 : List Int) : Int := g22_0 (u41_0 (u19_0 (g18_0 x0)))
theorem at14 (x0 : List Int) (h : P14 x0) (K : Ctx) (q : Nat → Value) : AtV Tryz.prog 14 (PostR kds14 oks14 [⟨Ty.sl (Ty.cons Ty.str (Ty.cons (Ty.int IntKind.i64) (Ty.cons (Ty.int IntKind.i64) (Ty.cons (Ty.int IntKind.i64) Ty.unit)))), g14_0 x0⟩, ⟨Ty.sl (Ty.cons Ty.str (Ty.cons (Ty.int IntKind.i64) (Ty.cons (Ty.int IntKind.i64) Ty.unit))), g14_1 x0⟩, ⟨Ty.int IntKind.i64, g14_2 x0⟩] [] [] q K) 18 K q [] [.code b14] (entE 0 0 sig14 (x0, ())) (entL sig14 (x0, ())) := by
  unfold P14 at h
  unfold g14_0 g14_1 g14_2
  obtain ⟨s0, h⟩ := h
  obtain ⟨s1, h⟩ := h
  obtain ⟨s2, h⟩ := h
  exact AtV.ret Tryz.func14 tabOk ext14Ok mixed false [] tys14 [] (a1 trivial (a1 s0 (a1 s1 (a1 s2 trivial)))) (by kernel_rfl)

def S14 : Am.Spec := { sig := sig14, pre := fun ⟨x0, _⟩ => P14 x0, res := fun ⟨x0, _⟩ => [⟨Ty.sl (Ty.cons Ty.str (Ty.cons (Ty.int IntKind.i64) (Ty.cons (Ty.int IntKind.i64) (Ty.cons (Ty.int IntKind.i64) Ty.unit)))), g14_0 x0⟩, ⟨Ty.sl (Ty.cons Ty.str (Ty.cons (Ty.int IntKind.i64) (Ty.cons (Ty.int IntKind.i64) Ty.unit))), g14_1 x0⟩, ⟨Ty.int IntKind.i64, g14_2 x0⟩], kds := kds14 }
theorem con14 : Contract Tryz.prog 14 S14 := contract_of Tryz.func14 hb14 (Nat.le_of_ble_eq_true (by kernel_rfl)) (fun ⟨x0, _⟩ h _ K q => at14 x0 h K q)


end
end Go.Proofs.YtfpdnbojchnglaaGreatDoor

/- Function 42 (impl.soldOf): its runs between cut points. Written by a program of this repo (gen). -/
set_option linter.unusedVariables false
set_option linter.unusedSimpArgs false
set_option maxRecDepth 100000
namespace Go.Proofs.YtfpdnbojchnglaaGreatDoor
open Go Go.Am Go.Proofs
noncomputable section
def ext42 : Ext := [(24, S24), (23, S23)]
theorem call42_24 : Callable Tryz.prog 24 := ⟨Tryz.f24, Tryz.func24, by kernel_rfl, by kernel_rfl⟩
theorem call42_23 : Callable Tryz.prog 23 := ⟨Tryz.f23, Tryz.func23, by kernel_rfl, by kernel_rfl⟩
theorem ext42Ok : ExtOk Tryz.prog ext42 := ⟨⟨call42_24, con24⟩, ⟨call42_23, con23⟩, trivial⟩

noncomputable def b42 : Code := bodyOf Tryz.f42
theorem hb42 : Tryz.f42.body = some b42 := by kernel_rfl
def sig42 : List AT := [AT.v (Ty.sl (Ty.cons Ty.str (Ty.cons (Ty.int IntKind.i64) (Ty.cons (Ty.int IntKind.i64) (Ty.cons (Ty.int IntKind.i64) Ty.unit))))), AT.v (Ty.sl (Ty.cons Ty.str (Ty.cons (Ty.int IntKind.i64) (Ty.cons (Ty.int IntKind.i64) Ty.unit)))), AT.v (Ty.bool)]
def tys42 : List Ty := [Ty.int IntKind.i64]
def kds42 : List RK := []
def oks42 : List AT := owns sig42
def E42_4 (v2 : Bool) (v18 : Int) (h0 : List ByteArray) (x0 : List (ByteArray × Int × Int × Int × Unit)) (x1 : List (ByteArray × Int × Int × Unit)) : Env := [(0, PV.a (Atom.sl (Ty.cons Ty.str (Ty.cons (Ty.int IntKind.i64) (Ty.cons (Ty.int IntKind.i64) (Ty.cons (Ty.int IntKind.i64) Ty.unit)))) x0)), (2, PV.a (Atom.val (Value.bool v2))), (7, PV.a (Atom.osl 0 Option.none)), (16, PV.a (Atom.sl (Ty.cons Ty.str (Ty.cons (Ty.int IntKind.i64) (Ty.cons (Ty.int IntKind.i64) Ty.unit))) x1)), (17, PV.a (Atom.val (Value.int IntKind.i64 (↑(List.length x1) : Int)))), (18, PV.a (Atom.val (Value.int IntKind.i64 v18)))]
def L42_4 (v2 : Bool) (v18 : Int) (h0 : List ByteArray) (x0 : List (ByteArray × Int × Int × Int × Unit)) (x1 : List (ByteArray × Int × Int × Unit)) : Heap := [Option.some (Arr.mk Ty.str h0 Bool.false Option.none Option.none)]
mutual
def R42 : Nat → List (ByteArray × Int × Int × Int × Unit) → List (ByteArray × Int × Int × Unit) → Bool → List Dyn → Prop
  | 0, _, _, _, _ => False
  | n + 1, x0, x1, x2, ds => (if (x2) = true then (R42_4 n (Decidable.decide ((↑(List.length x1) : Int) ≤ 100)) (0) ([]) (x0) (x1) ds) else (R42_4 n (Bool.false) (0) ([]) (x0) (x1) ds))
def R42_4 : Nat → Bool → Int → List ByteArray → List (ByteArray × Int × Int × Int × Unit) → List (ByteArray × Int × Int × Unit) → List Dyn → Prop
  | 0, _, _, _, _, _, _ => False
  | n + 1, v2, v18, h0, x0, x1, ds => (if (Decidable.decide (v18 < (↑(List.length x1) : Int))) = true then ((0 ≤ v18) ∧ (v18 < (↑(List.length x1) : Int)) ∧ (if (v2) = true then (((List.length h0 + 1) * 16 ≤ 140737488355328) ∧ ((InR IntKind.i64 (v18 + 1)) ∧ (R42_4 n (g24_0 (List.getD x1 (Int.toNat v18) (ByteArray.empty, 0, 0, ()))) (v18 + 1) (h0 ++ [Prod.fst (List.getD x1 (Int.toNat v18) (ByteArray.empty, 0, 0, ()))]) (x0) (x1) ds))) else (((List.length h0 + 1) * 16 ≤ 140737488355328) ∧ ((InR IntKind.i64 (v18 + 1)) ∧ (R42_4 n (Bool.false) (v18 + 1) (h0 ++ [Prod.fst (List.getD x1 (Int.toNat v18) (ByteArray.empty, 0, 0, ()))]) (x0) (x1) ds))))) else ((P23 x0 v2 h0) ∧ (ds = [Dyn.mk (Ty.int IntKind.i64) (g23_0 x0 v2 h0)])))
end
theorem snd42 : ∀ n, (∀ (x0 : List (ByteArray × Int × Int × Int × Unit)) (x1 : List (ByteArray × Int × Int × Unit)) (x2 : Bool) ds, R42 n x0 x1 x2 ds → ∀ K q, AtV Tryz.prog 42 (PostR kds42 oks42 ds [] [] q K) 37 K q [] [.code b42] (entE 0 0 sig42 (x0, x1, x2, ())) (entL sig42 (x0, x1, x2, ()))) ∧ (∀ (v2 : Bool) (v18 : Int) (h0 : List ByteArray) (x0 : List (ByteArray × Int × Int × Int × Unit)) (x1 : List (ByteArray × Int × Int × Unit)) ds, R42_4 n v2 v18 h0 x0 x1 ds → ∀ K q, AtV Tryz.prog 42 (PostR kds42 oks42 ds [] [] q K) 37 K q [] (cutAt b42 4) (E42_4 v2 v18 h0 x0 x1) (L42_4 v2 v18 h0 x0 x1)) := by
  intro n
  induction n with
  | zero => exact ⟨fun _ _ _ _ h => by simp only [R42] at h, fun _ _ _ _ _ _ h => by simp only [R42_4] at h⟩
  | succ n ih =>
  obtain ⟨ih, ih4⟩ := ih
  refine ⟨?_, ?_⟩
  · intro x0 x1 x2 ds h K q
    rw [R42] at h
    by_cases b0 : (x2) = true
    · rw [if_pos b0] at h
      exact AtV.go tabOk ext42Ok mixed false [] [(7, Ty.str)] [0, 2, 7, 16, 17, 18] [0] [true] (a1 b0 trivial) (ih4 _ _ _ _ _ _ h K q) (by kernel_rfl)
    · rw [if_neg b0] at h
      replace b0 := Bool.eq_false_iff.2 b0
      exact AtV.go tabOk ext42Ok mixed false [] [(7, Ty.str)] [0, 2, 7, 16, 17, 18] [0] [false] (a1 b0 trivial) (ih4 _ _ _ _ _ _ h K q) (by kernel_rfl)

  · intro v2 v18 h0 x0 x1 ds h K q
    rw [R42_4] at h
    by_cases b0 : (Decidable.decide (v18 < (↑(List.length x1) : Int))) = true
    · rw [if_pos b0] at h
      obtain ⟨s0, s1, h⟩ := h
      by_cases b1 : (v2) = true
      · rw [if_pos b1] at h
        obtain ⟨s2, h⟩ := h
        obtain ⟨s3, h⟩ := h
        exact AtV.go tabOk ext42Ok mixed false [] [(7, Ty.str)] [0, 2, 7, 16, 17, 18] [0] [true, true] (a1 b0 (a1 s0 (a1 s1 (a1 b1 (a1 trivial (a1 s2 (a1 s3 trivial))))))) (ih4 _ _ _ _ _ _ h K q) (by kernel_rfl)
      · rw [if_neg b1] at h
        replace b1 := Bool.eq_false_iff.2 b1
        obtain ⟨s2, h⟩ := h
        obtain ⟨s3, h⟩ := h
        exact AtV.go tabOk ext42Ok mixed false [] [(7, Ty.str)] [0, 2, 7, 16, 17, 18] [0] [true, false] (a1 b0 (a1 s0 (a1 s1 (a1 b1 (a1 s2 (a1 s3 trivial)))))) (ih4 _ _ _ _ _ _ h K q) (by kernel_rfl)
    · rw [if_neg b0] at h
      replace b0 := Bool.eq_false_iff.2 b0
      obtain ⟨s0, h⟩ := h
      subst h
      exact AtV.ret Tryz.func42 tabOk ext42Ok mixed false [] tys42 [false] (a1 b0 (a1 s0 trivial)) (by kernel_rfl)



def g42_0 (x0 : List (ByteArray × Int × Int × Int × Unit)) (x1 : List (ByteArray × Int × Int × Unit)) (x2 : Bool) : Int := g23_0 x0 (x2 && decide ((x1.length : Int) ≤ 100) && x1.all g24_0) (x1.map fun t => t.1)
def P42 (x0 : List (ByteArray × Int × Int × Int × Unit)) (x1 : List (ByteArray × Int × Int × Unit)) (x2 : Bool) : Prop := x1.length ≤ 1048576 ∧ ∀ b, P23 x0 b (x1.map fun t => t.1)

theorem run42 (x0 : List (ByteArray × Int × Int × Int × Unit)) (x1 : List (ByteArray × Int × Int × Unit)) (hl : x1.length ≤ 1048576) (hp : ∀ b, P23 x0 b (x1.map fun t => t.1)) : ∀ (k i : Nat) (b : Bool) (h : List ByteArray), i + k = x1.length → h = (x1.take i).map (fun t => t.1) →
    R42_4 (k + 1) b (i : Int) h x0 x1 [⟨.int .i64, g23_0 x0 (b && (x1.drop i).all g24_0) (x1.map fun t => t.1)⟩] := by
  intro k
  induction k with
  | zero =>
    intro i b h hi hh
    rw [R42_4, if_neg (by simp only [decide_eq_true_eq]; omega), drop_end _ _ (by omega)]
    rw [List.take_of_length_le (by omega)] at hh
    subst hh
    simp only [List.all_nil, Bool.and_true]
    exact ⟨hp b, trivial⟩
  | succ k ih =>
    intro i b h hi hh
    have hlt : i < x1.length := by omega
    have hm : x1.length ≤ maxLen := Nat.le_trans hl (by decide)
    have hlen : h.length ≤ 1048576 := by rw [hh, List.length_map, List.length_take]; omega
    have ht : (x1.take (i + 1)).map (fun t => t.1) = h ++ [(x1.getD i (ByteArray.empty, (0 : Int), (0 : Int), ())).1] := by
      rw [List.take_succ_eq_append_getElem hlt, List.map_append, hh, getD_lt x1 i _ hlt]
      rfl
    rw [R42_4, if_pos (by simp only [decide_eq_true_eq]; omega), drop_get x1 i (ByteArray.empty, (0 : Int), (0 : Int), ()) hlt]
    simp only [Int.toNat_natCast, List.all_cons]
    refine ⟨by omega, by omega, ?_⟩
    cases b with
    | true =>
      have h2 := ih (i + 1) (g24_0 (x1.getD i (ByteArray.empty, (0 : Int), (0 : Int), ()))) _ (by omega) ht.symm
      rw [if_pos rfl, Bool.true_and]
      exact ⟨by omega, inR_up hm hlt, h2⟩
    | false =>
      have h2 := ih (i + 1) false _ (by omega) ht.symm
      rw [if_neg (by simp), Bool.false_and]
      rw [Bool.false_and] at h2
      exact ⟨by omega, inR_up hm hlt, h2⟩

theorem top42 (x0 : List (ByteArray × Int × Int × Int × Unit)) (x1 : List (ByteArray × Int × Int × Unit)) (x2 : Bool) (h : P42 x0 x1 x2) : R42 (x1.length + 1 + 1) x0 x1 x2 [⟨.int .i64, g42_0 x0 x1 x2⟩] := by
  rw [R42]
  have h2 := fun b => run42 x0 x1 h.1 h.2 x1.length 0 b [] (by omega) rfl
  unfold g42_0
  cases x2 with
  | true => rw [if_pos rfl, Bool.true_and]; exact h2 _
  | false => rw [if_neg (by simp), Bool.false_and]; exact h2 false

def S42 : Am.Spec := { sig := sig42, pre := fun ⟨x0, x1, x2, _⟩ => P42 x0 x1 x2, res := fun ⟨x0, x1, x2, _⟩ => [⟨.int .i64, g42_0 x0 x1 x2⟩] }
theorem con42 : Contract Tryz.prog 42 S42 := contract_of Tryz.func42 hb42 (Nat.le_of_ble_eq_true (by kernel_rfl)) (fun ⟨x0, x1, x2, _⟩ h hwf K q =>
  (snd42 _).1 x0 x1 x2 _ (top42 x0 x1 x2 h) K q)

end
end Go.Proofs.YtfpdnbojchnglaaGreatDoor

/- Function 15 (impl.ExpiredOf): its runs between cut points. Written by a program of this repo (gen). -/
set_option linter.unusedVariables false
set_option linter.unusedSimpArgs false
set_option maxRecDepth 100000
namespace Go.Proofs.YtfpdnbojchnglaaGreatDoor
open Go Go.Am Go.Proofs
noncomputable section
def ext15 : Ext := [(25, S25), (42, S42), (26, S26), (27, S27)]
theorem call15_25 : Callable Tryz.prog 25 := ⟨Tryz.f25, Tryz.func25, by kernel_rfl, by kernel_rfl⟩
theorem call15_42 : Callable Tryz.prog 42 := ⟨Tryz.f42, Tryz.func42, by kernel_rfl, by kernel_rfl⟩
theorem call15_26 : Callable Tryz.prog 26 := ⟨Tryz.f26, Tryz.func26, by kernel_rfl, by kernel_rfl⟩
theorem call15_27 : Callable Tryz.prog 27 := ⟨Tryz.f27, Tryz.func27, by kernel_rfl, by kernel_rfl⟩
theorem ext15Ok : ExtOk Tryz.prog ext15 := ⟨⟨call15_25, con25⟩, ⟨call15_42, con42⟩, ⟨call15_26, con26⟩, ⟨call15_27, con27⟩, trivial⟩

noncomputable def b15 : Code := bodyOf Tryz.f15
theorem hb15 : Tryz.f15.body = some b15 := by kernel_rfl
def sig15 : List AT := [AT.v (Ty.sl (Ty.cons Ty.str (Ty.cons (Ty.int IntKind.i64) (Ty.cons (Ty.int IntKind.i64) (Ty.cons (Ty.int IntKind.i64) Ty.unit))))), AT.v (Ty.sl (Ty.cons Ty.str (Ty.cons (Ty.int IntKind.i64) (Ty.cons (Ty.int IntKind.i64) Ty.unit)))), AT.v (Ty.int IntKind.i64)]
def tys15 : List Ty := [Ty.sl (Ty.int IntKind.i64), Ty.int IntKind.i64]
def kds15 : List RK := []
def oks15 : List AT := owns sig15
def E15_6 (v24 : Int) (h0 : List Int) (x0 : List (ByteArray × Int × Int × Int × Unit)) (x2 : Int) (x1 : List (ByteArray × Int × Int × Unit)) : Env := [(0, PV.a (Atom.sl (Ty.cons Ty.str (Ty.cons (Ty.int IntKind.i64) (Ty.cons (Ty.int IntKind.i64) (Ty.cons (Ty.int IntKind.i64) Ty.unit)))) x0)), (2, PV.a (Atom.val (Value.int IntKind.i64 x2))), (9, PV.a (Atom.osl 0 Option.none)), (22, PV.a (Atom.sl (Ty.cons Ty.str (Ty.cons (Ty.int IntKind.i64) (Ty.cons (Ty.int IntKind.i64) Ty.unit))) x1)), (23, PV.a (Atom.val (Value.int IntKind.i64 (↑(List.length x1) : Int)))), (24, PV.a (Atom.val (Value.int IntKind.i64 v24)))]
def L15_6 (v24 : Int) (h0 : List Int) (x0 : List (ByteArray × Int × Int × Int × Unit)) (x2 : Int) (x1 : List (ByteArray × Int × Int × Unit)) : Heap := [Option.some (Arr.mk (Ty.int IntKind.i64) h0 Bool.false Option.none Option.none)]
mutual
def R15 : Nat → List (ByteArray × Int × Int × Int × Unit) → List (ByteArray × Int × Int × Unit) → Int → List Dyn → Prop
  | 0, _, _, _, _ => False
  | n + 1, x0, x1, x2, ds => ((P42 x0 x1 (g25_0 x2)) ∧ (if (g42_0 x0 x1 (g25_0 x2) != 0) = true then (ds = [Dyn.mk (Ty.sl (Ty.int IntKind.i64)) [], Dyn.mk (Ty.int IntKind.i64) (g42_0 x0 x1 (g25_0 x2))]) else (R15_6 n (0) ([]) (x0) (x2) (x1) ds)))
def R15_6 : Nat → Int → List Int → List (ByteArray × Int × Int × Int × Unit) → Int → List (ByteArray × Int × Int × Unit) → List Dyn → Prop
  | 0, _, _, _, _, _, _ => False
  | n + 1, v24, h0, x0, x2, x1, ds => (if (Decidable.decide (v24 < (↑(List.length x1) : Int))) = true then ((0 ≤ v24) ∧ (v24 < (↑(List.length x1) : Int)) ∧ ((P26 x0 (Prod.fst (List.getD x1 (Int.toNat v24) (ByteArray.empty, 0, 0, ())))) ∧ (if (Decidable.decide (Prod.fst (Prod.snd (Prod.snd (List.getD x1 (Int.toNat v24) (ByteArray.empty, 0, 0, ())))) < Prod.fst (Prod.snd (Prod.snd (g26_0 x0 (Prod.fst (List.getD x1 (Int.toNat v24) (ByteArray.empty, 0, 0, ())))))))) = true then (if (Decidable.decide (Prod.fst (Prod.snd (List.getD x1 (Int.toNat v24) (ByteArray.empty, 0, 0, ()))) ≤ x2)) = true then ((P27 (g26_0 x0 (Prod.fst (List.getD x1 (Int.toNat v24) (ByteArray.empty, 0, 0, ())))) (List.getD x1 (Int.toNat v24) (ByteArray.empty, 0, 0, ())) x2) ∧ (if (!g27_0 (g26_0 x0 (Prod.fst (List.getD x1 (Int.toNat v24) (ByteArray.empty, 0, 0, ())))) (List.getD x1 (Int.toNat v24) (ByteArray.empty, 0, 0, ())) x2) = true then (((List.length h0 + 1) * 8 ≤ 140737488355328) ∧ ((InR IntKind.i64 (v24 + 1)) ∧ (R15_6 n (v24 + 1) (h0 ++ [v24]) (x0) (x2) (x1) ds))) else ((InR IntKind.i64 (v24 + 1)) ∧ (R15_6 n (v24 + 1) (h0) (x0) (x2) (x1) ds)))) else ((InR IntKind.i64 (v24 + 1)) ∧ (R15_6 n (v24 + 1) (h0) (x0) (x2) (x1) ds))) else ((InR IntKind.i64 (v24 + 1)) ∧ (R15_6 n (v24 + 1) (h0) (x0) (x2) (x1) ds))))) else (ds = [Dyn.mk (Ty.sl (Ty.int IntKind.i64)) h0, Dyn.mk (Ty.int IntKind.i64) 0]))
end
theorem snd15 : ∀ n, (∀ (x0 : List (ByteArray × Int × Int × Int × Unit)) (x1 : List (ByteArray × Int × Int × Unit)) (x2 : Int) ds, R15 n x0 x1 x2 ds → ∀ K q, AtV Tryz.prog 15 (PostR kds15 oks15 ds [] [] q K) 60 K q [] [.code b15] (entE 0 0 sig15 (x0, x1, x2, ())) (entL sig15 (x0, x1, x2, ()))) ∧ (∀ (v24 : Int) (h0 : List Int) (x0 : List (ByteArray × Int × Int × Int × Unit)) (x2 : Int) (x1 : List (ByteArray × Int × Int × Unit)) ds, R15_6 n v24 h0 x0 x2 x1 ds → ∀ K q, AtV Tryz.prog 15 (PostR kds15 oks15 ds [] [] q K) 60 K q [] (cutAt b15 6) (E15_6 v24 h0 x0 x2 x1) (L15_6 v24 h0 x0 x2 x1)) := by
  intro n
  induction n with
  | zero => exact ⟨fun _ _ _ _ h => by simp only [R15] at h, fun _ _ _ _ _ _ h => by simp only [R15_6] at h⟩
  | succ n ih =>
  obtain ⟨ih, ih6⟩ := ih
  refine ⟨?_, ?_⟩
  · intro x0 x1 x2 ds h K q
    rw [R15] at h
    obtain ⟨s0, h⟩ := h
    by_cases b0 : (g42_0 x0 x1 (g25_0 x2) != 0) = true
    · rw [if_pos b0] at h
      subst h
      exact AtV.ret Tryz.func15 tabOk ext15Ok mixed false [] tys15 [true] (a1 trivial (a1 s0 (a1 b0 trivial))) (by kernel_rfl)
    · rw [if_neg b0] at h
      replace b0 := Bool.eq_false_iff.2 b0
      exact AtV.go tabOk ext15Ok mixed false [] [(9, Ty.int IntKind.i64)] [0, 2, 9, 22, 23, 24] [0] [false] (a1 trivial (a1 s0 (a1 b0 trivial))) (ih6 _ _ _ _ _ _ h K q) (by kernel_rfl)

  · intro v24 h0 x0 x2 x1 ds h K q
    rw [R15_6] at h
    by_cases b0 : (Decidable.decide (v24 < (↑(List.length x1) : Int))) = true
    · rw [if_pos b0] at h
      obtain ⟨s0, s1, h⟩ := h
      obtain ⟨s2, h⟩ := h
      by_cases b1 : (Decidable.decide (Prod.fst (Prod.snd (Prod.snd (List.getD x1 (Int.toNat v24) (ByteArray.empty, 0, 0, ())))) < Prod.fst (Prod.snd (Prod.snd (g26_0 x0 (Prod.fst (List.getD x1 (Int.toNat v24) (ByteArray.empty, 0, 0, ())))))))) = true
      · rw [if_pos b1] at h
        by_cases b2 : (Decidable.decide (Prod.fst (Prod.snd (List.getD x1 (Int.toNat v24) (ByteArray.empty, 0, 0, ()))) ≤ x2)) = true
        · rw [if_pos b2] at h
          obtain ⟨s3, h⟩ := h
          by_cases b3 : (!g27_0 (g26_0 x0 (Prod.fst (List.getD x1 (Int.toNat v24) (ByteArray.empty, 0, 0, ())))) (List.getD x1 (Int.toNat v24) (ByteArray.empty, 0, 0, ())) x2) = true
          · rw [if_pos b3] at h
            obtain ⟨s4, h⟩ := h
            obtain ⟨s5, h⟩ := h
            exact AtV.go tabOk ext15Ok mixed false [] [(9, Ty.int IntKind.i64)] [0, 2, 9, 22, 23, 24] [0] [true, true, true, true] (a1 b0 (a1 s0 (a1 s1 (a1 s2 (a1 b1 (a1 b2 (a1 s3 (a1 b3 (a1 s4 (a1 s5 trivial)))))))))) (ih6 _ _ _ _ _ _ h K q) (by kernel_rfl)
          · rw [if_neg b3] at h
            replace b3 := Bool.eq_false_iff.2 b3
            obtain ⟨s4, h⟩ := h
            exact AtV.go tabOk ext15Ok mixed false [] [(9, Ty.int IntKind.i64)] [0, 2, 9, 22, 23, 24] [0] [true, true, true, false] (a1 b0 (a1 s0 (a1 s1 (a1 s2 (a1 b1 (a1 b2 (a1 s3 (a1 b3 (a1 s4 trivial))))))))) (ih6 _ _ _ _ _ _ h K q) (by kernel_rfl)
        · rw [if_neg b2] at h
          replace b2 := Bool.eq_false_iff.2 b2
          obtain ⟨s3, h⟩ := h
          exact AtV.go tabOk ext15Ok mixed false [] [(9, Ty.int IntKind.i64)] [0, 2, 9, 22, 23, 24] [0] [true, true, false, false] (a1 b0 (a1 s0 (a1 s1 (a1 s2 (a1 b1 (a1 b2 (a1 (rfl : Bool.false = Bool.false) (a1 s3 trivial)))))))) (ih6 _ _ _ _ _ _ h K q) (by kernel_rfl)
      · rw [if_neg b1] at h
        replace b1 := Bool.eq_false_iff.2 b1
        obtain ⟨s3, h⟩ := h
        exact AtV.go tabOk ext15Ok mixed false [] [(9, Ty.int IntKind.i64)] [0, 2, 9, 22, 23, 24] [0] [true, false, false, false] (a1 b0 (a1 s0 (a1 s1 (a1 s2 (a1 b1 (a1 (rfl : Bool.false = Bool.false) (a1 (rfl : Bool.false = Bool.false) (a1 s3 trivial)))))))) (ih6 _ _ _ _ _ _ h K q) (by kernel_rfl)
    · rw [if_neg b0] at h
      replace b0 := Bool.eq_false_iff.2 b0
      subst h
      exact AtV.ret Tryz.func15 tabOk ext15Ok mixed false [] tys15 [false] (a1 b0 trivial) (by kernel_rfl)



abbrev FT15 := ByteArray × Int × Int × Int × Unit
abbrev TT15 := ByteArray × Int × Int × Unit
def hit15 (x0 : List FT15) (x2 : Int) (t : TT15) : Bool := decide (t.2.2.1 < (g26_0 x0 t.1).2.2.1) && (decide (t.2.1 ≤ x2) && !g27_0 (g26_0 x0 t.1) t x2)
def ex15 (x0 : List FT15) (x2 : Int) : Nat → List TT15 → List Int
  | _, [] => []
  | i, t :: r => (if hit15 x0 x2 t = true then [(i : Int)] else []) ++ ex15 x0 x2 (i + 1) r
def g15_0 (x0 : List FT15) (x1 : List TT15) (x2 : Int) : List Int := if g42_0 x0 x1 (g25_0 x2) = 0 then ex15 x0 x2 0 x1 else []
def g15_1 (x0 : List FT15) (x1 : List TT15) (x2 : Int) : Int := g42_0 x0 x1 (g25_0 x2)
def P15 (x0 : List FT15) (x1 : List TT15) (x2 : Int) : Prop := P42 x0 x1 (g25_0 x2) ∧ x1.length ≤ 1048576 ∧ (g42_0 x0 x1 (g25_0 x2) = 0 → ∀ t ∈ x1, P26 x0 t.1 ∧ P27 (g26_0 x0 t.1) t x2)

theorem run15 (x0 : List FT15) (x1 : List TT15) (x2 : Int) (hl : x1.length ≤ 1048576) (hp : ∀ t ∈ x1, P26 x0 t.1 ∧ P27 (g26_0 x0 t.1) t x2) : ∀ (k i : Nat) (h : List Int), i + k = x1.length → h.length ≤ i →
    R15_6 (k + 1) (i : Int) h x0 x2 x1 [⟨.sl (.int .i64), h ++ ex15 x0 x2 i (x1.drop i)⟩, ⟨.int .i64, 0⟩] := by
  intro k
  induction k with
  | zero =>
    intro i h hi hh
    rw [R15_6, if_neg (by simp only [decide_eq_true_eq]; omega), List.drop_of_length_le (by omega)]
    unfold ex15
    rw [List.append_nil]
  | succ k ih =>
    intro i h hi hh
    have hlt : i < x1.length := by omega
    have hup : InR .i64 ((i : Int) + 1) := by rw [i64_iff]; omega
    have e1 : (i : Int) + 1 = ((i + 1 : Nat) : Int) := by omega
    obtain ⟨t, ht⟩ : ∃ t, x1.getD i (ByteArray.empty, 0, 0, ()) = t := ⟨_, rfl⟩
    have hm := mem_getD x1 i (ByteArray.empty, (0 : Int), (0 : Int), ()) hlt
    rw [ht] at hm
    obtain ⟨p1, p2⟩ := hp t hm
    have hd : x1.drop i = t :: x1.drop (i + 1) := by rw [drop_get x1 i (ByteArray.empty, (0 : Int), (0 : Int), ()) hlt, ht]
    have nx := ih (i + 1) h (by omega) (by omega)
    have ny := ih (i + 1) (h ++ [(i : Int)]) (by omega) (by rw [List.length_append, List.length_singleton]; omega)
    rw [R15_6, if_pos (by simp only [decide_eq_true_eq]; omega), hd]
    simp only [Int.toNat_natCast, ht, e1]
    refine ⟨by omega, by omega, p1, ?_⟩
    unfold ex15
    have up : InR .i64 (((i + 1 : Nat) : Int)) := by rw [← e1]; exact hup
    by_cases c1 : t.2.2.1 < (g26_0 x0 t.1).2.2.1
    · rw [if_pos (decide_eq_true c1)]
      by_cases c2 : t.2.1 ≤ x2
      · rw [if_pos (decide_eq_true c2)]
        refine ⟨p2, ?_⟩
        cases c3 : g27_0 (g26_0 x0 t.1) t x2 with
        | false =>
          have eh : hit15 x0 x2 t = true := by unfold hit15; rw [decide_eq_true c1, decide_eq_true c2, c3]; rfl
          rw [if_pos (show (!false) = true from rfl), if_pos eh]
          refine ⟨by omega, up, ?_⟩
          rw [List.append_assoc] at ny
          exact ny
        | true =>
          have eh : ¬ hit15 x0 x2 t = true := by unfold hit15; rw [decide_eq_true c1, decide_eq_true c2, c3]; decide
          rw [if_neg (show ¬ (!true) = true by decide), if_neg eh]
          exact ⟨up, nx⟩
      · have eh : ¬ hit15 x0 x2 t = true := by unfold hit15; rw [decide_eq_true c1, decide_eq_false c2]; simp
        rw [if_neg (by simp only [decide_eq_true_eq]; exact c2), if_neg eh]
        exact ⟨up, nx⟩
    · have eh : ¬ hit15 x0 x2 t = true := by unfold hit15; rw [decide_eq_false c1]; simp
      rw [if_neg (by simp only [decide_eq_true_eq]; exact c1), if_neg eh]
      exact ⟨up, nx⟩

theorem top15 (x0 : List FT15) (x1 : List TT15) (x2 : Int) (h : P15 x0 x1 x2) : R15 (x1.length + 1 + 1) x0 x1 x2 [⟨.sl (.int .i64), g15_0 x0 x1 x2⟩, ⟨.int .i64, g15_1 x0 x1 x2⟩] := by
  obtain ⟨h1, h2, h3⟩ := h
  rw [R15]
  refine ⟨h1, ?_⟩
  unfold g15_0 g15_1
  by_cases hc : g42_0 x0 x1 (g25_0 x2) = 0
  · rw [if_neg (by rw [hc]; decide), if_pos hc, hc]
    have := run15 x0 x1 x2 h2 (h3 hc) x1.length 0 [] (by omega) (Nat.le_refl _)
    exact this
  · rw [if_pos (by simpa using hc), if_neg hc]

def S15 : Am.Spec := { sig := sig15, pre := fun ⟨x0, x1, x2, _⟩ => P15 x0 x1 x2, res := fun ⟨x0, x1, x2, _⟩ => [⟨.sl (.int .i64), g15_0 x0 x1 x2⟩, ⟨.int .i64, g15_1 x0 x1 x2⟩] }
theorem con15 : Contract Tryz.prog 15 S15 := contract_of Tryz.func15 hb15 (Nat.le_of_ble_eq_true (by kernel_rfl)) (fun ⟨x0, x1, x2, _⟩ h hwf K q =>
  (snd15 _).1 x0 x1 x2 _ (top15 x0 x1 x2 h) K q)

end
end Go.Proofs.YtfpdnbojchnglaaGreatDoor

/- Function 16 (laws.b10Rises): its runs between cut points. Written by a program of this repo (gen). -/
set_option linter.unusedVariables false
set_option linter.unusedSimpArgs false
set_option maxRecDepth 100000
namespace Go.Proofs.YtfpdnbojchnglaaGreatDoor
open Go Go.Am Go.Proofs
noncomputable section
def ext16 : Ext := []
theorem ext16Ok : ExtOk Tryz.prog ext16 := trivial

noncomputable def b16 : Code := bodyOf Tryz.f16
theorem hb16 : Tryz.f16.body = some b16 := by kernel_rfl
def sig16 : List AT := [AT.v (Ty.sl (Ty.int IntKind.i64)), AT.v (Ty.int IntKind.i64)]
def tys16 : List Ty := [Ty.bool]
def kds16 : List RK := []
def oks16 : List AT := owns sig16
def E16_2 (v5 : Int) (x0 : List Int) (x1 : Int) : Env := [(0, PV.a (Atom.sl (Ty.int IntKind.i64) x0)), (1, PV.a (Atom.val (Value.int IntKind.i64 x1))), (5, PV.a (Atom.val (Value.int IntKind.i64 v5)))]
def L16_2 (v5 : Int) (x0 : List Int) (x1 : Int) : Heap := []
mutual
def R16 : Nat → List Int → Int → List Dyn → Prop
  | 0, _, _, _ => False
  | n + 1, x0, x1, ds => (R16_2 n (0) (x0) (x1) ds)
def R16_2 : Nat → Int → List Int → Int → List Dyn → Prop
  | 0, _, _, _, _ => False
  | n + 1, v5, x0, x1, ds => (if (Decidable.decide (v5 < (↑(List.length x0) : Int))) = true then ((0 ≤ v5) ∧ (v5 < (↑(List.length x0) : Int)) ∧ (if (Decidable.decide (List.getD x0 (Int.toNat v5) 0 < 0)) = true then (ds = [Dyn.mk Ty.bool Bool.false]) else ((0 ≤ v5) ∧ (v5 < (↑(List.length x0) : Int)) ∧ (if (Decidable.decide (List.getD x0 (Int.toNat v5) 0 ≥ x1)) = true then (ds = [Dyn.mk Ty.bool Bool.false]) else (if (Decidable.decide (v5 > 0)) = true then ((InR IntKind.i64 (v5 - 1)) ∧ ((0 ≤ v5 - 1) ∧ (v5 - 1 < (↑(List.length x0) : Int)) ∧ ((0 ≤ v5) ∧ (v5 < (↑(List.length x0) : Int)) ∧ (if (Decidable.decide (List.getD x0 (Int.toNat (v5 - 1)) 0 ≥ List.getD x0 (Int.toNat v5) 0)) = true then (ds = [Dyn.mk Ty.bool Bool.false]) else ((InR IntKind.i64 (v5 + 1)) ∧ (R16_2 n (v5 + 1) (x0) (x1) ds)))))) else ((InR IntKind.i64 (v5 + 1)) ∧ (R16_2 n (v5 + 1) (x0) (x1) ds))))))) else (ds = [Dyn.mk Ty.bool Bool.true]))
end
theorem snd16 : ∀ n, (∀ (x0 : List Int) (x1 : Int) ds, R16 n x0 x1 ds → ∀ K q, AtV Tryz.prog 16 (PostR kds16 oks16 ds [] [] q K) 41 K q [] [.code b16] (entE 0 0 sig16 (x0, x1, ())) (entL sig16 (x0, x1, ()))) ∧ (∀ (v5 : Int) (x0 : List Int) (x1 : Int) ds, R16_2 n v5 x0 x1 ds → ∀ K q, AtV Tryz.prog 16 (PostR kds16 oks16 ds [] [] q K) 41 K q [] (cutAt b16 2) (E16_2 v5 x0 x1) (L16_2 v5 x0 x1)) := by
  intro n
  induction n with
  | zero => exact ⟨fun _ _ _ h => by simp only [R16] at h, fun _ _ _ _ h => by simp only [R16_2] at h⟩
  | succ n ih =>
  obtain ⟨ih, ih2⟩ := ih
  refine ⟨?_, ?_⟩
  · intro x0 x1 ds h K q
    rw [R16] at h
    exact AtV.go tabOk ext16Ok mixed false [] [] [0, 1, 5] [] [] trivial (ih2 _ _ _ _ h K q) (by kernel_rfl)

  · intro v5 x0 x1 ds h K q
    rw [R16_2] at h
    by_cases b0 : (Decidable.decide (v5 < (↑(List.length x0) : Int))) = true
    · rw [if_pos b0] at h
      obtain ⟨s0, s1, h⟩ := h
      by_cases b1 : (Decidable.decide (List.getD x0 (Int.toNat v5) 0 < 0)) = true
      · rw [if_pos b1] at h
        subst h
        exact AtV.ret Tryz.func16 tabOk ext16Ok mixed false [] tys16 [true, true, true, true] (a1 b0 (a1 s0 (a1 s1 (a1 b1 (a1 (rfl : Bool.true = Bool.true) (a1 (rfl : Bool.true = Bool.true) trivial)))))) (by kernel_rfl)
      · rw [if_neg b1] at h
        replace b1 := Bool.eq_false_iff.2 b1
        obtain ⟨s2, s3, h⟩ := h
        by_cases b2 : (Decidable.decide (List.getD x0 (Int.toNat v5) 0 ≥ x1)) = true
        · rw [if_pos b2] at h
          subst h
          exact AtV.ret Tryz.func16 tabOk ext16Ok mixed false [] tys16 [true, false, true, true] (a1 b0 (a1 s0 (a1 s1 (a1 b1 (a1 s2 (a1 s3 (a1 b2 (a1 (rfl : Bool.true = Bool.true) trivial)))))))) (by kernel_rfl)
        · rw [if_neg b2] at h
          replace b2 := Bool.eq_false_iff.2 b2
          by_cases b3 : (Decidable.decide (v5 > 0)) = true
          · rw [if_pos b3] at h
            obtain ⟨s4, h⟩ := h
            obtain ⟨s5, s6, h⟩ := h
            obtain ⟨s7, s8, h⟩ := h
            by_cases b4 : (Decidable.decide (List.getD x0 (Int.toNat (v5 - 1)) 0 ≥ List.getD x0 (Int.toNat v5) 0)) = true
            · rw [if_pos b4] at h
              subst h
              exact AtV.ret Tryz.func16 tabOk ext16Ok mixed false [] tys16 [true, false, false, true, true] (a1 b0 (a1 s0 (a1 s1 (a1 b1 (a1 s2 (a1 s3 (a1 b2 (a1 b3 (a1 s4 (a1 s5 (a1 s6 (a1 s7 (a1 s8 (a1 b4 trivial)))))))))))))) (by kernel_rfl)
            · rw [if_neg b4] at h
              replace b4 := Bool.eq_false_iff.2 b4
              obtain ⟨s9, h⟩ := h
              exact AtV.go tabOk ext16Ok mixed false [] [] [0, 1, 5] [] [true, false, false, true, false] (a1 b0 (a1 s0 (a1 s1 (a1 b1 (a1 s2 (a1 s3 (a1 b2 (a1 b3 (a1 s4 (a1 s5 (a1 s6 (a1 s7 (a1 s8 (a1 b4 (a1 s9 trivial))))))))))))))) (ih2 _ _ _ _ h K q) (by kernel_rfl)
          · rw [if_neg b3] at h
            replace b3 := Bool.eq_false_iff.2 b3
            obtain ⟨s4, h⟩ := h
            exact AtV.go tabOk ext16Ok mixed false [] [] [0, 1, 5] [] [true, false, false, false, false] (a1 b0 (a1 s0 (a1 s1 (a1 b1 (a1 s2 (a1 s3 (a1 b2 (a1 b3 (a1 (rfl : Bool.false = Bool.false) (a1 s4 trivial)))))))))) (ih2 _ _ _ _ h K q) (by kernel_rfl)
    · rw [if_neg b0] at h
      replace b0 := Bool.eq_false_iff.2 b0
      subst h
      exact AtV.ret Tryz.func16 tabOk ext16Ok mixed false [] tys16 [false] (a1 b0 trivial) (by kernel_rfl)



def ok16 (x0 : List Int) (n : Int) (i : Nat) (x : Int) : Bool := !decide (x < 0) && (!decide (x ≥ n) && (i == 0 || !decide (x0.getD (i - 1) 0 ≥ x)))
def g16_0 (x0 : List Int) (x1 : Int) : Bool := allI (ok16 x0 x1) 0 x0
def P16 (x0 : List Int) (x1 : Int) : Prop := True

theorem step16 (n i : Nat) (x0 : List Int) (x1 : Int) (hm : x0.length ≤ maxLen) (hi : i < x0.length) (ds : List Dyn)
    (h : if ok16 x0 x1 i (x0.getD i 0) = true then R16_2 n ((i : Int) + 1) x0 x1 ds else ds = [⟨.bool, false⟩]) : R16_2 (n + 1) (i : Int) x0 x1 ds := by
  have hu := inR_up hm hi
  have hmx : maxLen ≤ 9223372036854775807 := by decide
  rw [R16_2, if_pos (by simp only [decide_eq_true_eq]; omega)]
  simp only [Int.toNat_natCast]
  refine ⟨by omega, by omega, ?_⟩
  unfold ok16 at h
  by_cases h1 : x0.getD i 0 < 0
  · rw [if_pos (decide_eq_true h1)]
    rw [decide_eq_true h1] at h
    simpa using h
  rw [if_neg (by simpa using h1)]
  rw [decide_eq_false h1] at h
  refine ⟨by omega, by omega, ?_⟩
  by_cases h2 : x0.getD i 0 ≥ x1
  · rw [if_pos (decide_eq_true h2)]
    rw [decide_eq_true h2] at h
    simpa using h
  rw [if_neg (by simpa using h2)]
  rw [decide_eq_false h2] at h
  by_cases h0 : (i : Int) > 0
  case neg =>
    rw [if_neg (by simpa using h0)]
    have hi0 : (i == 0) = true := by simp; omega
    rw [hi0] at h
    exact ⟨hu, by simpa using h⟩
  rw [if_pos (by simpa using h0)]
  have hi0 : (i == 0) = false := by simp; omega
  have e : ((i : Int) - 1).toNat = i - 1 := by omega
  have hd : InR .i64 ((i : Int) - 1) := by rw [i64_iff]; omega
  rw [hi0] at h
  simp only [e]
  refine ⟨hd, by omega, by omega, by omega, by omega, ?_⟩
  by_cases h3 : x0.getD (i - 1) 0 ≥ x0.getD i 0
  · rw [if_pos (decide_eq_true h3)]
    rw [decide_eq_true h3] at h
    simpa using h
  · rw [if_neg (by simpa using h3)]
    rw [decide_eq_false h3] at h
    exact ⟨hu, by simpa using h⟩

theorem top16 (x0 : List Int) (x1 : Int) (hw : x0.length ≤ maxLen) : R16 (x0.length + 1 + 1) x0 x1 [⟨.bool, g16_0 x0 x1⟩] := by
  rw [R16]
  have key := loop_testI x0 0 (ok16 x0 x1) [(⟨.bool, false⟩ : Dyn)] [⟨.bool, true⟩] (fun n i ds => R16_2 n i x0 x1 ds) (fun n => ?_) (fun n i hi hok ds hr => ?_) (fun n i hi hok => ?_)
  · unfold g16_0
    cases h : allI (ok16 x0 x1) 0 x0 with
    | true => rw [if_pos h] at key; simpa using key
    | false => rw [if_neg (by rw [h]; simp)] at key; simpa using key
  · rw [R16_2, if_neg (by simp)]
  · exact step16 n i x0 x1 hw hi ds (by rw [if_pos hok]; exact hr)
  · exact step16 n i x0 x1 hw hi _ (by rw [if_neg (by rw [hok]; simp)])

def S16 : Am.Spec := { sig := sig16, pre := fun ⟨x0, x1, _⟩ => P16 x0 x1, res := fun ⟨x0, x1, _⟩ => [⟨Ty.bool, g16_0 x0 x1⟩] }
theorem con16 : Contract Tryz.prog 16 S16 := contract_of Tryz.func16 hb16 (Nat.le_of_ble_eq_true (by kernel_rfl)) (fun ⟨x0, x1, _⟩ h hwf K q =>
  (snd16 _).1 x0 x1 _ (top16 x0 x1 hwf.1.1) K q)

end
end Go.Proofs.YtfpdnbojchnglaaGreatDoor

/- Function 17 (laws.b10Has): its runs between cut points. Written by a program of this repo (gen). -/
set_option linter.unusedVariables false
set_option linter.unusedSimpArgs false
set_option maxRecDepth 100000
namespace Go.Proofs.YtfpdnbojchnglaaGreatDoor
open Go Go.Am Go.Proofs
noncomputable section
def ext17 : Ext := []
theorem ext17Ok : ExtOk Tryz.prog ext17 := trivial

noncomputable def b17 : Code := bodyOf Tryz.f17
theorem hb17 : Tryz.f17.body = some b17 := by kernel_rfl
def sig17 : List AT := [AT.v (Ty.sl (Ty.int IntKind.i64)), AT.v (Ty.int IntKind.i64)]
def tys17 : List Ty := [Ty.bool]
def kds17 : List RK := []
def oks17 : List AT := owns sig17
def E17_2 (v5 : Int) (x0 : List Int) (x1 : Int) : Env := [(0, PV.a (Atom.sl (Ty.int IntKind.i64) x0)), (1, PV.a (Atom.val (Value.int IntKind.i64 x1))), (5, PV.a (Atom.val (Value.int IntKind.i64 v5)))]
def L17_2 (v5 : Int) (x0 : List Int) (x1 : Int) : Heap := []
mutual
def R17 : Nat → List Int → Int → List Dyn → Prop
  | 0, _, _, _ => False
  | n + 1, x0, x1, ds => (R17_2 n (0) (x0) (x1) ds)
def R17_2 : Nat → Int → List Int → Int → List Dyn → Prop
  | 0, _, _, _, _ => False
  | n + 1, v5, x0, x1, ds => (if (Decidable.decide (v5 < (↑(List.length x0) : Int))) = true then ((0 ≤ v5) ∧ (v5 < (↑(List.length x0) : Int)) ∧ (if (List.getD x0 (Int.toNat v5) 0 == x1) = true then (ds = [Dyn.mk Ty.bool Bool.true]) else ((InR IntKind.i64 (v5 + 1)) ∧ (R17_2 n (v5 + 1) (x0) (x1) ds)))) else (ds = [Dyn.mk Ty.bool Bool.false]))
end
theorem snd17 : ∀ n, (∀ (x0 : List Int) (x1 : Int) ds, R17 n x0 x1 ds → ∀ K q, AtV Tryz.prog 17 (PostR kds17 oks17 ds [] [] q K) 18 K q [] [.code b17] (entE 0 0 sig17 (x0, x1, ())) (entL sig17 (x0, x1, ()))) ∧ (∀ (v5 : Int) (x0 : List Int) (x1 : Int) ds, R17_2 n v5 x0 x1 ds → ∀ K q, AtV Tryz.prog 17 (PostR kds17 oks17 ds [] [] q K) 18 K q [] (cutAt b17 2) (E17_2 v5 x0 x1) (L17_2 v5 x0 x1)) := by
  intro n
  induction n with
  | zero => exact ⟨fun _ _ _ h => by simp only [R17] at h, fun _ _ _ _ h => by simp only [R17_2] at h⟩
  | succ n ih =>
  obtain ⟨ih, ih2⟩ := ih
  refine ⟨?_, ?_⟩
  · intro x0 x1 ds h K q
    rw [R17] at h
    exact AtV.go tabOk ext17Ok mixed false [] [] [0, 1, 5] [] [] trivial (ih2 _ _ _ _ h K q) (by kernel_rfl)

  · intro v5 x0 x1 ds h K q
    rw [R17_2] at h
    by_cases b0 : (Decidable.decide (v5 < (↑(List.length x0) : Int))) = true
    · rw [if_pos b0] at h
      obtain ⟨s0, s1, h⟩ := h
      by_cases b1 : (List.getD x0 (Int.toNat v5) 0 == x1) = true
      · rw [if_pos b1] at h
        subst h
        exact AtV.ret Tryz.func17 tabOk ext17Ok mixed false [] tys17 [true, true] (a1 b0 (a1 s0 (a1 s1 (a1 b1 trivial)))) (by kernel_rfl)
      · rw [if_neg b1] at h
        replace b1 := Bool.eq_false_iff.2 b1
        obtain ⟨s2, h⟩ := h
        exact AtV.go tabOk ext17Ok mixed false [] [] [0, 1, 5] [] [true, false] (a1 b0 (a1 s0 (a1 s1 (a1 b1 (a1 s2 trivial))))) (ih2 _ _ _ _ h K q) (by kernel_rfl)
    · rw [if_neg b0] at h
      replace b0 := Bool.eq_false_iff.2 b0
      subst h
      exact AtV.ret Tryz.func17 tabOk ext17Ok mixed false [] tys17 [false] (a1 b0 trivial) (by kernel_rfl)



def g17_0 (x0 : List Int) (x1 : Int) : Bool := x0.any fun y => y == x1
def P17 (x0 : List Int) (x1 : Int) : Prop := True

theorem top17 (x0 : List Int) (x1 : Int) (hm : x0.length ≤ maxLen) : R17 (x0.length + 1 + 1) x0 x1 [⟨.bool, g17_0 x0 x1⟩] := by
  rw [R17]
  have e : g17_0 x0 x1 = !x0.all fun y => !(y == x1) := by
    unfold g17_0
    induction x0 with
    | nil => rfl
    | cons y r ih => rw [List.any_cons, List.all_cons, Bool.not_and, Bool.not_not, ih (by simp only [List.length_cons] at hm; omega)]
  rw [e]
  have key := loop_test x0 0 (fun y => !(y == x1)) [(⟨.bool, true⟩ : Dyn)] [⟨.bool, false⟩] (fun n i ds => R17_2 n i x0 x1 ds) (fun n => ?_) (fun n i hi hok ds hr => ?_) (fun n i hi hok => ?_)
  · cases h : x0.all fun y => !(y == x1) <;> rw [h] at key <;> simpa using key
  · rw [R17_2, if_neg (by simp)]
  · rw [R17_2, if_pos (by simp; omega)]
    simp only [Int.toNat_natCast]
    refine ⟨by omega, by omega, ?_⟩
    rw [if_neg (by simpa using hok)]
    exact ⟨inR_up hm hi, hr⟩
  · rw [R17_2, if_pos (by simp; omega)]
    simp only [Int.toNat_natCast]
    refine ⟨by omega, by omega, ?_⟩
    rw [if_pos (by simpa using hok)]
    trivial

def S17 : Am.Spec := { sig := sig17, pre := fun ⟨x0, x1, _⟩ => P17 x0 x1, res := fun ⟨x0, x1, _⟩ => [⟨Ty.bool, g17_0 x0 x1⟩] }
theorem con17 : Contract Tryz.prog 17 S17 := contract_of Tryz.func17 hb17 (Nat.le_of_ble_eq_true (by kernel_rfl)) (fun ⟨x0, x1, _⟩ h hwf K q =>
  (snd17 _).1 x0 x1 _ (top17 x0 x1 hwf.1.1) K q)

end
end Go.Proofs.YtfpdnbojchnglaaGreatDoor

/- A law that says how functions of the program and of the specification hang together. -/
set_option linter.unusedVariables false
set_option linter.unusedSimpArgs false
set_option maxRecDepth 100000
namespace Go.Proofs.YtfpdnbojchnglaaGreatDoor
open Go Go.Am Go.Proofs

def Dat (y m d : Int) : Prop := (2000 ≤ y ∧ y ≤ 2099) ∧ (1 ≤ m ∧ m ≤ 12) ∧ (1 ≤ d ∧ d ≤ g66_0 y m)

def bas (y : Int) : Int := (y - 2000) * 365 + (y - 1997) / 4

theorem day_at {y m d : Int} (hy : 2000 ≤ y) : g67_0 y m d = bas y + ms67 y (m - 1).toNat + d - 1 := by
  have e : Int.tdiv (y - 1997) 4 = (y - 1997) / 4 := Int.tdiv_eq_ediv_of_nonneg (by omega)
  unfold g67_0 bs67 bas
  rw [e]; omega

theorem win {x a b : Int} : g40_0 x a b = true ↔ a ≤ x ∧ x ≤ b := by
  unfold g40_0
  by_cases c1 : x ≥ a
  · by_cases c2 : x ≤ b
    · simp [c1, c2]
    · simp [c1, c2]
  · have : ¬ a ≤ x := c1
    simp [c1, this]

theorem inum {y m d : Int} (h : Dat y m d) : g53_0 y m d = g67_0 y m d ∧ g53_1 y m d = 0 := by
  obtain ⟨h0, h1, h2⟩ := h
  unfold g53_0 g53_1
  rw [win.2 h0, win.2 h1, win.2 h2]
  exact ⟨rfl, rfl⟩

theorem idat {y m d : Int} (h : g53_1 y m d = 0) : Dat y m d := by
  unfold g53_1 at h
  cases h0 : g40_0 y 2000 2099 with
  | false => rw [h0] at h; simp at h
  | true =>
    cases h1 : g40_0 m 1 12 with
    | false => rw [h0, h1] at h; simp at h
    | true =>
      cases h2 : g40_0 d 1 (g66_0 y m) with
      | false => rw [h0, h1, h2] at h; simp at h
      | true => exact ⟨win.1 h0, win.1 h1, win.1 h2⟩

theorem ms_mono {y : Int} (hy : 2000 ≤ y ∧ y ≤ 2099) (i : Nat) : ∀ j, ms67 y i ≤ ms67 y (i + j)
  | 0 => Int.le_refl _
  | j + 1 => by
    have := ms_mono hy i j
    have := (len67 hy (m := ((i + j : Nat) : Int) + 1)).2.1
    rw [← Nat.add_assoc]
    simp only [ms67]
    omega

theorem ms_year {y : Int} (hy : 2000 ≤ y ∧ y ≤ 2099) : bas y + ms67 y 12 = bas (y + 1) := by
  have et : Int.tmod y 4 = y % 4 := Int.tmod_eq_emod_of_nonneg (by omega)
  have e : ms67 y 12 = if y % 4 = 0 then 366 else 365 := by
    by_cases hz : y % 4 = 0 <;> simp [ms67, g66_0, et, hz]
  rw [e]
  unfold bas
  split <;> omega

theorem year_back {y day : Int} (hy : 2000 ≤ y ∧ y ≤ 2099) (h1 : bas y ≤ day) (h2 : day < bas (y + 1)) : ∀ (k : Nat) (z : Int), z + k = 2099 → 2000 ≤ z → z ≤ y → yr57 day k z = y := by
  have e1 : ∀ z : Int, 2000 ≤ z → g67_0 z 1 1 = bas z := fun z hz => by
    rw [day_at hz]
    show bas z + 0 + 1 - 1 = bas z
    omega
  intro k
  induction k with
  | zero => intro z hz _ hle; show z = y; omega
  | succ k ih =>
    intro z hz h0 hle
    unfold yr57
    rw [e1 (z + 1) (by omega)]
    by_cases hlt : z < y
    · rw [if_pos (by have : bas (z + 1) ≤ bas y := by unfold bas; omega
                     omega)]
      exact ih (z + 1) (by omega) (by omega) (by omega)
    · have : z = y := by omega
      subst this
      rw [if_neg (by omega)]

theorem month_back {y m day : Int} (hy : 2000 ≤ y ∧ y ≤ 2099) (hm : 1 ≤ m ∧ m ≤ 12) (h1 : bas y + ms67 y (m - 1).toNat ≤ day) (h2 : day < bas y + ms67 y m.toNat) : ∀ (k : Nat) (z : Int), z + k = 12 → 1 ≤ z → z ≤ m → mo57 day y k z = m := by
  intro k
  induction k with
  | zero => intro z hz _ hle; show z = m; omega
  | succ k ih =>
    intro z hz h0 hle
    unfold mo57
    rw [day_at hy.1, show z + 1 - 1 = z by omega]
    by_cases hlt : z < m
    · rw [if_pos (by
        have := ms_mono hy z.toNat ((m - 1).toNat - z.toNat)
        rw [show z.toNat + ((m - 1).toNat - z.toNat) = (m - 1).toNat by omega] at this
        omega)]
      exact ih (z + 1) (by omega) (by omega) (by omega)
    · have : z = m := by omega
      subst this
      rw [if_neg (by omega)]

theorem date_back {y m d : Int} (h : Dat y m d) : (0 ≤ g67_0 y m d ∧ g67_0 y m d ≤ 36524) ∧ g57_0 (g67_0 y m d) = y ∧ g57_1 (g67_0 y m d) = m ∧ g57_2 (g67_0 y m d) = d := by
  obtain ⟨h0, h1, h2⟩ := h
  have ed := day_at (m := m) (d := d) h0.1
  have hb := msb67 h0 (m - 1).toNat
  have hms : ms67 y m.toNat = ms67 y (m - 1).toNat + g66_0 y m := by
    obtain ⟨k, hk⟩ : ∃ k : Nat, m = (k : Int) + 1 := ⟨(m - 1).toNat, by omega⟩
    subst hk
    rw [show ((k : Int) + 1).toNat = k + 1 by omega, show ((k : Int) + 1 - 1).toNat = k by omega]
    rfl
  have hy12 := ms_year h0
  have hmono := ms_mono h0 m.toNat (12 - m.toNat)
  rw [show m.toNat + (12 - m.toNat) = 12 by omega] at hmono
  have hbas : 0 ≤ bas y ∧ bas (y + 1) ≤ 36525 := by unfold bas; omega
  have a0 : g57_0 (g67_0 y m d) = y := year_back h0 (by omega) (by omega) 99 2000 (by omega) (by omega) (by omega)
  have a1 : g57_1 (g67_0 y m d) = m := by
    unfold g57_1
    rw [a0]
    exact month_back h0 h1 (by omega) (by omega) 11 1 (by omega) (by omega) (by omega)
  refine ⟨by omega, a0, a1, ?_⟩
  unfold g57_2
  rw [a0, a1, day_at (m := m) (d := 1) h0.1]
  omega

end Go.Proofs.YtfpdnbojchnglaaGreatDoor

/- A law that says how functions of the program and of the specification hang together. -/
set_option linter.unusedVariables false
set_option linter.unusedSimpArgs false
set_option maxRecDepth 100000
namespace Go.Proofs.YtfpdnbojchnglaaGreatDoor
open Go Go.Am Go.Proofs

def D10 (a : Nat) : UInt8 := UInt8.ofNat (48 + a)
theorem D10_nat {a : Nat} (h : a < 10) : (D10 a).toNat = 48 + a := by unfold D10; rw [UInt8.toNat_ofNat']; omega
theorem num_one {n : Nat} (h : n < 10) : numB (n : Int) = ⟨⟨[D10 n]⟩⟩ := by
  unfold numB Lib.itoa
  rw [if_neg (by omega), Int.toNat_natCast, Lib.decDigits_one h]
  rfl
theorem num_two {n : Nat} (h1 : 10 ≤ n) (h : n < 100) : numB (n : Int) = ⟨⟨[D10 (n / 10), D10 (n % 10)]⟩⟩ := by
  unfold numB Lib.itoa
  rw [if_neg (by omega), Int.toNat_natCast, Lib.decDigits_two (by omega) h]
  rfl

theorem pad_two {n : Nat} (h : n < 100) : P58 (n : Int) 2 ∧ g58_0 (n : Int) 2 = ⟨⟨[D10 (n / 10), D10 (n % 10)]⟩⟩ := by
  unfold P58 g58_0
  have e : g32_0 (n : Int) = numB (n : Int) := rfl
  rw [e]
  by_cases h1 : n < 10
  · rw [num_one h1]
    have e0 : n / 10 = 0 := by omega
    have e1 : n % 10 = n := by omega
    rw [e0, e1]
    have e2 : (ByteArray.mk (Array.mk [D10 n])).size = 1 := rfl
    rw [e2]
    exact ⟨⟨⟨rfl, trivial⟩, by rw [i64_iff]; decide, ⟨by decide, by decide⟩, by show 1 + 1 ≤ _; decide, trivial⟩, rfl⟩
  · rw [num_two (by omega) h]
    have e2 : (ByteArray.mk (Array.mk [D10 (n / 10), D10 (n % 10)])).size = 2 := rfl
    rw [e2]
    exact ⟨⟨⟨rfl, trivial⟩, by rw [i64_iff]; decide, ⟨by decide, by decide⟩, by show 0 + 2 ≤ _; decide, trivial⟩, rfl⟩

theorem number_two {a b : Nat} (ha : a < 10) (hb : b < 10) : g54_0 ⟨⟨[D10 a, D10 b]⟩⟩ = ((10 * a + b : Nat) : Int) := by
  unfold g54_0
  rw [if_neg (by show ¬ (2 < 1 ∨ 12 < 2); omega)]
  show num54 [D10 a, D10 b] 0 = _
  simp only [num54, D10_nat ha, D10_nat hb, decide_eq_true_eq, Bool.and_eq_true]
  rw [if_pos (by omega), if_pos (by omega)]
  omega


end Go.Proofs.YtfpdnbojchnglaaGreatDoor

/- A law that says how functions of the program and of the specification hang together. -/
set_option linter.unusedVariables false
set_option linter.unusedSimpArgs false
set_option maxRecDepth 100000
namespace Go.Proofs.YtfpdnbojchnglaaGreatDoor
open Go Go.Am Go.Proofs

def isD (b : UInt8) : Prop := 48 ≤ b.toNat ∧ b.toNat ≤ 57
def dval : List UInt8 → Nat → Nat
  | [], n => n
  | b :: r, n => dval r (10 * n + (b.toNat - 48))
theorem dval_append : ∀ (l : List UInt8) (b : UInt8) (n : Nat), dval (l ++ [b]) n = 10 * dval l n + (b.toNat - 48)
  | [], _, _ => rfl
  | c :: r, b, n => dval_append r b _
theorem dsign_nat {a : Nat} (h : a < 10) : (UInt8.ofNat (48 + a)).toNat = 48 + a := by rw [UInt8.toNat_ofNat']; omega

theorem dec_facts (n : Nat) : (∀ b ∈ Lib.decDigits n, isD b) ∧ dval (Lib.decDigits n) 0 = n ∧ 0 < (Lib.decDigits n).length ∧ (1 ≤ n → ((Lib.decDigits n).getD 0 0).toNat ≠ 48) := by
  induction n using Nat.strongRecOn with
  | _ n ih =>
    by_cases h : n < 10
    · rw [Lib.decDigits, dif_pos h]
      have e := dsign_nat h
      refine ⟨fun b hb => ?_, ?_, by simp, fun h1 => ?_⟩
      · rw [List.mem_singleton.1 hb]; unfold isD; omega
      · show 10 * 0 + ((UInt8.ofNat (48 + n)).toNat - 48) = n; omega
      · show (UInt8.ofNat (48 + n)).toNat ≠ 48; omega
    · rw [Lib.decDigits, dif_neg h]
      obtain ⟨i1, i2, i3, i4⟩ := ih (n / 10) (by omega)
      have e := dsign_nat (a := n % 10) (by omega)
      refine ⟨fun b hb => ?_, ?_, by simp, fun h1 => ?_⟩
      · rcases List.mem_append.1 hb with hb | hb
        · exact i1 b hb
        · rw [List.mem_singleton.1 hb]; unfold isD; omega
      · rw [dval_append, i2, e]; omega
      · have i4 := i4 (by omega)
        cases hd : Lib.decDigits (n / 10) with
        | nil => rw [hd] at i3; simp at i3
        | cons c r => rw [hd] at i4; exact i4

theorem dec_len : ∀ (k n : Nat), n < 10 ^ (k + 1) → (Lib.decDigits n).length ≤ k + 1
  | 0, n, h => by rw [Lib.decDigits, dif_pos (by simpa using h)]; simp
  | k + 1, n, h => by
    rw [Lib.decDigits]
    split
    · simp
    · have := dec_len k (n / 10) (by rw [Nat.pow_succ] at h; omega)
      simp; omega


end Go.Proofs.YtfpdnbojchnglaaGreatDoor

/- A law that says how functions of the program and of the specification hang together. -/
set_option linter.unusedVariables false
set_option linter.unusedSimpArgs false
set_option maxRecDepth 100000
namespace Go.Proofs.YtfpdnbojchnglaaGreatDoor
open Go Go.Am Go.Proofs

theorem number_dec {n : Nat} (h : n < 1000000000000) : g54_0 ⟨⟨Lib.decDigits n⟩⟩ = (n : Int) := by
  have key : ∀ (l : List UInt8) (m : Nat), (∀ b ∈ l, isD b) → num54 l (m : Int) = (dval l m : Nat) := by
    intro l
    induction l with
    | nil => intro m _; rfl
    | cons b r ih =>
      intro m hd
      have hb : isD b := hd b (List.mem_cons_self ..)
      unfold isD at hb
      unfold num54
      rw [if_pos (by simpa using hb)]
      have e1 : 10 * (m : Int) + ((b.toNat : Int) - 48) = ((10 * m + (b.toNat - 48) : Nat) : Int) := by omega
      rw [e1]
      exact ih _ (fun c hc => hd c (List.mem_cons_of_mem _ hc))
  obtain ⟨d1, d2, d3, _⟩ := dec_facts n
  have hl := dec_len 11 n (by omega)
  have hs : (ByteArray.mk ⟨Lib.decDigits n⟩).size = (Lib.decDigits n).length := rfl
  unfold g54_0
  rw [if_neg (by omega)]
  have := key (Lib.decDigits n) 0 d1
  rw [d2] at this
  exact this

end Go.Proofs.YtfpdnbojchnglaaGreatDoor

/- A law that says how functions of the program and of the specification hang together. -/
set_option linter.unusedVariables false
set_option linter.unusedSimpArgs false
set_option maxRecDepth 100000
namespace Go.Proofs.YtfpdnbojchnglaaGreatDoor
open Go Go.Am Go.Proofs

def y4 (y : Nat) : List UInt8 := [50, 48, D10 (y % 100 / 10), D10 (y % 10)]
def dT (y m d : Nat) : ByteArray := ⟨⟨y4 y ++ 45 :: ([D10 (m / 10), D10 (m % 10)] ++ 45 :: [D10 (d / 10), D10 (d % 10)])⟩⟩

theorem dec_y4 {y : Nat} (h : 2000 ≤ y ∧ y ≤ 2099) : Lib.decDigits y = y4 y := by
  have e1 : y / 10 / 10 = 20 := by omega
  have e2 : y / 10 % 10 = y % 100 / 10 := by omega
  rw [Lib.decDigits, dif_neg (by omega), Lib.decDigits, dif_neg (by omega), e1, e2, Lib.decDigits, dif_neg (by decide), Lib.decDigits, dif_pos (by decide)]
  rfl

theorem dec_big {y : Nat} (h : 2000 ≤ y ∧ y ≤ 2099) : g32_0 (y : Int) = ⟨⟨y4 y⟩⟩ := by
  rw [← dec_y4 h]
  show numB _ = _
  unfold numB Lib.itoa
  rw [if_neg (by omega), Int.toNat_natCast]

theorem D10_ne {a : Nat} (h : a < 10) : D10 a ≠ 45 := fun e => by
  have := congrArg UInt8.toNat e
  have e45 : (45 : UInt8).toNat = 45 := rfl
  rw [D10_nat h] at this
  omega

theorem two_free {a b : Nat} (ha : a < 10) (hb : b < 10) : (45 : UInt8) ∉ [D10 a, D10 b] := fun hm => by
  simp only [List.mem_cons, List.mem_nil_iff, or_false] at hm
  rcases hm with e | e
  · exact D10_ne ha e.symm
  · exact D10_ne hb e.symm

theorem y4_free (y : Nat) : (45 : UInt8) ∉ y4 y := fun hm => by
  unfold y4 at hm
  simp only [List.mem_cons, List.mem_nil_iff, or_false] at hm
  rcases hm with e | e | e | e
  · cases e
  · cases e
  · exact D10_ne (by omega) e.symm
  · exact D10_ne (by omega) e.symm

theorem dt_split {y m d : Nat} (hm : m < 100) (hd : d < 100) : g28_0 (dT y m d) (ByteArray.mk #[45]) = [⟨⟨y4 y⟩⟩, ⟨⟨[D10 (m / 10), D10 (m % 10)]⟩⟩, ⟨⟨[D10 (d / 10), D10 (d % 10)]⟩⟩] := by
  have e : g28_0 (dT y m d) (ByteArray.mk #[45]) = bss (splitC 45 (dT y m d).data.toList) := splitB_one 45 (dT y m d)
  rw [e]
  show bss (splitC 45 (y4 y ++ 45 :: ([D10 (m / 10), D10 (m % 10)] ++ 45 :: [D10 (d / 10), D10 (d % 10)]))) = _
  rw [splitC_hit 45 _ (y4_free y), splitC_hit 45 _ (two_free (by omega) (by omega)), splitC_free 45 (two_free (by omega) (by omega))]
  rfl

theorem date_nat {y m d : Int} (h : Dat y m d) : ∃ a b c : Nat, y = (a : Int) ∧ m = (b : Int) ∧ d = (c : Int) ∧ (2000 ≤ a ∧ a ≤ 2099) ∧ (1 ≤ b ∧ b ≤ 12) ∧ (1 ≤ c ∧ c ≤ 31) := by
  obtain ⟨h0, h1, h2⟩ := h
  have := (len67 h0 (m := m)).2.2
  exact ⟨y.toNat, m.toNat, d.toNat, by omega, by omega, by omega, by omega, by omega, by omega⟩

theorem date_text {a b c : Nat} (h : Dat (a : Int) (b : Int) (c : Int)) (ha : 2000 ≤ a ∧ a ≤ 2099) (hb : b ≤ 12) (hc : c ≤ 31) : g31_0 (g67_0 (a : Int) (b : Int) (c : Int)) = dT a b c := by
  obtain ⟨hd, e0, e1, e2⟩ := date_back h
  have hi : g25_0 (g67_0 (a : Int) (b : Int) (c : Int)) = true := win.2 hd
  unfold g31_0
  rw [hi, e0, e1, e2, dec_big ha, (pad_two (n := b) (by omega)).2, (pad_two (n := c) (by omega)).2]
  apply ByteArray.ext
  apply Array.ext'
  simp [ByteArray.data_append, dT]

theorem text_pre {y m d : Int} (h : Dat y m d) : P31 (g67_0 y m d) := by
  obtain ⟨a, b, c, rfl, rfl, rfl, ha, hb, hc⟩ := date_nat h
  obtain ⟨hd, e0, e1, e2⟩ := date_back h
  unfold P31
  rw [e0, e1, e2, dec_big ha]
  obtain ⟨p1, q1⟩ := pad_two (n := b) (by omega)
  obtain ⟨p2, q2⟩ := pad_two (n := c) (by omega)
  rw [q1, q2]
  have s4 : (ByteArray.mk ⟨y4 a⟩).size = 4 := rfl
  have s1 : (ByteArray.mk #[45]).size = 1 := rfl
  have s2 : ∀ u v : UInt8, (ByteArray.mk ⟨[u, v]⟩).size = 2 := fun _ _ => rfl
  by_cases hc : (!g25_0 (g67_0 (a : Int) (b : Int) (c : Int))) = true
  · rw [if_pos hc]; trivial
  · rw [if_neg hc]
    simp only [ByteArray.size_append, s4, s1, s2]
    exact ⟨⟨by omega, by omega⟩, ⟨rfl, trivial⟩, by omega, p1, by omega, by omega, p2, by omega, trivial⟩

theorem number_y4 {y : Nat} (h : 2000 ≤ y ∧ y ≤ 2099) : g54_0 ⟨⟨y4 y⟩⟩ = (y : Int) := by
  rw [← dec_y4 h]
  exact number_dec (by omega)

theorem date_i1 {a b c : Nat} (h : Dat (a : Int) (b : Int) (c : Int)) (ha : 2000 ≤ a ∧ a ≤ 2099) (hb : b ≤ 12) (hc : c ≤ 31) : g29_0 (dT a b c) = g67_0 (a : Int) (b : Int) (c : Int) ∧ g29_1 (dT a b c) = true := by
  have n1 := number_y4 ha
  have n2 : g54_0 ⟨⟨[D10 (b / 10), D10 (b % 10)]⟩⟩ = (b : Int) := by rw [number_two (by omega) (by omega)]; omega
  have n3 : g54_0 ⟨⟨[D10 (c / 10), D10 (c % 10)]⟩⟩ = (c : Int) := by rw [number_two (by omega) (by omega)]; omega
  obtain ⟨i0, i1⟩ := inum h
  unfold g29_0 g29_1
  rw [dt_split (by omega) (by omega)]
  have g0 : List.getD [(⟨⟨y4 a⟩⟩ : ByteArray), ⟨⟨[D10 (b / 10), D10 (b % 10)]⟩⟩, ⟨⟨[D10 (c / 10), D10 (c % 10)]⟩⟩] 0 ByteArray.empty = ⟨⟨y4 a⟩⟩ := rfl
  have g1 : List.getD [(⟨⟨y4 a⟩⟩ : ByteArray), ⟨⟨[D10 (b / 10), D10 (b % 10)]⟩⟩, ⟨⟨[D10 (c / 10), D10 (c % 10)]⟩⟩] 1 ByteArray.empty = ⟨⟨[D10 (b / 10), D10 (b % 10)]⟩⟩ := rfl
  have g2 : List.getD [(⟨⟨y4 a⟩⟩ : ByteArray), ⟨⟨[D10 (b / 10), D10 (b % 10)]⟩⟩, ⟨⟨[D10 (c / 10), D10 (c % 10)]⟩⟩] 2 ByteArray.empty = ⟨⟨[D10 (c / 10), D10 (c % 10)]⟩⟩ := rfl
  have gl : (([(⟨⟨y4 a⟩⟩ : ByteArray), ⟨⟨[D10 (b / 10), D10 (b % 10)]⟩⟩, ⟨⟨[D10 (c / 10), D10 (c % 10)]⟩⟩].length : Nat) : Int) = 3 := rfl
  simp only [g0, g1, g2, gl, n1, n2, n3, i0, i1, date_text h ha hb hc, bne_self_eq_false, beq_self_eq_true, Bool.not_true, Bool.false_eq_true, if_false, and_self]

theorem date_ip (x : ByteArray) (h : x.size ≤ 1048576) : P29 x := by
  have ifT3 : ∀ {c : Prop} [Decidable c] {Q : Prop}, (¬ c → Q) → if c then True else Q := by
    intro c _ Q h
    by_cases hc : c
    · rw [if_pos hc]; trivial
    · rw [if_neg hc]; exact h hc
  unfold P29
  refine ⟨⟨by omega, Nat.le_refl 1⟩, ifT3 fun h0 => ?_⟩
  have hl : (((g28_0 x (ByteArray.mk #[45])).length : Nat) : Int) = 3 := by simpa using h0
  generalize g54_0 (List.getD (g28_0 x (ByteArray.mk #[45])) 0 ByteArray.empty) = y
  generalize g54_0 (List.getD (g28_0 x (ByteArray.mk #[45])) 1 ByteArray.empty) = m
  generalize g54_0 (List.getD (g28_0 x (ByteArray.mk #[45])) 2 ByteArray.empty) = d
  refine ⟨by omega, by omega, by omega, ?_, ifT3 fun h1 => ?_⟩
  · unfold P53
    refine ifT3 fun a1 => ifT3 fun a2 => ?_
    have a1' := win.1 (show g40_0 y 2000 2099 = true by simpa using a1)
    have a2' := win.1 (show g40_0 m 1 12 = true by simpa using a2)
    obtain ⟨l0, l1, l2⟩ := len67 a1' (m := m)
    refine ⟨l0, ifT3 fun a3 => ?_⟩
    have a3' := win.1 (show g40_0 d 1 (g66_0 y m) = true by simpa using a3)
    exact ⟨⟨a1', a2', by omega⟩, trivial⟩
  · have hD : Dat y m d := idat (by simpa using h1)
    rw [(inum hD).1]
    exact ⟨text_pre hD, trivial⟩

end Go.Proofs.YtfpdnbojchnglaaGreatDoor

/- A law that says how functions of the program and of the specification hang together. -/
set_option linter.unusedVariables false
set_option linter.unusedSimpArgs false
set_option maxRecDepth 100000
namespace Go.Proofs.YtfpdnbojchnglaaGreatDoor
open Go Go.Am Go.Proofs

theorem bas_first : bas 2000 = 0 := by decide

theorem date_fwd {day : Int} (h : 0 ≤ day ∧ day ≤ 36524) : ∃ y m d : Int, Dat y m d ∧ g67_0 y m d = day := by
  have hy : ∀ k : Nat, day < bas (2000 + (k : Int)) → ∃ y : Int, (2000 ≤ y ∧ y < 2000 + (k : Int)) ∧ bas y ≤ day ∧ day < bas (y + 1) := by
    intro k
    induction k with
    | zero => intro hk; have : bas (2000 + ((0 : Nat) : Int)) = 0 := bas_first; omega
    | succ k ih =>
      intro hk
      by_cases hc : day < bas (2000 + (k : Int))
      · obtain ⟨y, h1, h2⟩ := ih hc
        exact ⟨y, by omega, h2⟩
      · exact ⟨2000 + (k : Int), by omega, by omega, by rw [Int.add_assoc]; simpa using hk⟩
  obtain ⟨y, hy1, hy2, hy3⟩ := hy 100 (by have : bas (2000 + ((100 : Nat) : Int)) = 36525 := by decide
                                          omega)
  have hyr : 2000 ≤ y ∧ y ≤ 2099 := by omega
  have hm : ∀ k : Nat, day < bas y + ms67 y k → ∃ j : Nat, j < k ∧ bas y + ms67 y j ≤ day ∧ day < bas y + ms67 y (j + 1) := by
    intro k
    induction k with
    | zero => intro hk; simp only [ms67] at hk; omega
    | succ k ih =>
      intro hk
      by_cases hc : day < bas y + ms67 y k
      · obtain ⟨j, h1, h2⟩ := ih hc
        exact ⟨j, by omega, h2⟩
      · exact ⟨k, by omega, by omega, hk⟩
  obtain ⟨j, hj, hj1, hj2⟩ := hm 12 (by rw [ms_year hyr]; exact hy3)
  simp only [ms67] at hj2
  refine ⟨y, (j : Int) + 1, day - (bas y + ms67 y j) + 1, ⟨hyr, by omega, by omega, by omega⟩, ?_⟩
  rw [day_at hyr.1]
  have e : ((j : Int) + 1 - 1).toNat = j := by omega
  rw [e]; omega

end Go.Proofs.YtfpdnbojchnglaaGreatDoor

/- A law that says how functions of the program and of the specification hang together. -/
set_option linter.unusedVariables false
set_option linter.unusedSimpArgs false
set_option maxRecDepth 100000
namespace Go.Proofs.YtfpdnbojchnglaaGreatDoor
open Go Go.Am Go.Proofs

theorem dval_lt : ∀ (l : List UInt8) (m : Nat), (∀ b ∈ l, isD b) → dval l m < (m + 1) * 10 ^ l.length
  | [], m, _ => by simp [dval]
  | b :: r, m, hd => by
    have hb : isD b := hd b (List.mem_cons_self ..)
    unfold isD at hb
    have ih := dval_lt r (10 * m + (b.toNat - 48)) (fun c hc => hd c (List.mem_cons_of_mem _ hc))
    show dval r (10 * m + (b.toNat - 48)) < _
    rw [List.length_cons, Nat.pow_succ]
    have h1 : (10 * m + (b.toNat - 48) + 1) * 10 ^ r.length ≤ (10 * (m + 1)) * 10 ^ r.length := Nat.mul_le_mul_right _ (by omega)
    have h2 : (10 * (m + 1)) * 10 ^ r.length = (m + 1) * (10 ^ r.length * 10) := by
      rw [Nat.mul_comm 10 (m + 1), Nat.mul_assoc, Nat.mul_comm 10]
    omega

theorem dval_le : ∀ (l : List UInt8) (m : Nat), m ≤ dval l m
  | [], m => Nat.le_refl _
  | b :: r, m => by
    have := dval_le r (10 * m + (b.toNat - 48))
    show m ≤ dval r (10 * m + (b.toNat - 48))
    omega

def N18 (n : Int) : Prop := -1000000000000000000 < n ∧ n < 1000000000000000000

theorem n18_len {n : Nat} : (Lib.decDigits n).length ≤ 18 ↔ n < 1000000000000000000 := by
  constructor
  · intro h
    obtain ⟨d1, d2, _⟩ := dec_facts n
    have := dval_lt (Lib.decDigits n) 0 d1
    rw [d2] at this
    have hp : 10 ^ (Lib.decDigits n).length ≤ 10 ^ 18 := Nat.pow_le_pow_right (by decide) h
    have e : (10 : Nat) ^ 18 = 1000000000000000000 := by decide
    rw [e] at hp
    omega
  · intro h
    exact dec_len 17 n (by omega)

theorem numB_neg {n : Int} (h : n < 0) : numB n = ⟨⟨45 :: Lib.decDigits n.natAbs⟩⟩ := by unfold numB Lib.itoa; rw [if_pos h]
theorem numB_pos {n : Int} (h : ¬ n < 0) : numB n = ⟨⟨Lib.decDigits n.toNat⟩⟩ := by unfold numB Lib.itoa; rw [if_neg h]

theorem dec_head {n : Nat} : ∃ b r, Lib.decDigits n = b :: r ∧ isD b ∧ (b.toNat = 48 → r = []) := by
  obtain ⟨d1, d2, d3, d4⟩ := dec_facts n
  have hz : Lib.decDigits 0 = [48] := by rw [Lib.decDigits, dif_pos (by decide)]; rfl
  cases hd : Lib.decDigits n with
  | nil => rw [hd] at d3; simp at d3
  | cons b r =>
    refine ⟨b, r, rfl, ?_, fun h48 => ?_⟩
    · rw [hd] at d1; exact d1 b (List.mem_cons_self ..)
    · rcases Nat.eq_zero_or_pos n with rfl | hn
      · rw [hz] at hd; cases hd; rfl
      · have := d4 hn
        rw [hd] at this
        exact absurd h48 this

theorem uint_dval : ∀ (l : List UInt8) (m : Nat), (∀ b ∈ l, isD b) → dval l m < 1000000000000000000 → Lib.parseUintM 18446744073709551615 m l = .ok (dval l m)
  | [], _, _, _ => rfl
  | b :: r, m, hd, h => by
    have hb : isD b := hd b (List.mem_cons_self ..)
    unfold isD at hb
    have hle := dval_le r (10 * m + (b.toNat - 48))
    have h' : dval r (10 * m + (b.toNat - 48)) < 1000000000000000000 := h
    unfold Lib.parseUintM
    rw [if_pos hb, if_neg (by omega), if_neg (by omega), Nat.mul_comm m 10]
    exact uint_dval r _ (fun c hc => hd c (List.mem_cons_of_mem _ hc)) h'

theorem uint_dec {n : Nat} (h : n < 1000000000000000000) : Lib.parseUintB 64 (Lib.decDigits n) = .ok n := by
  obtain ⟨d1, d2, d3, _⟩ := dec_facts n
  unfold Lib.parseUintB
  rw [if_neg (fun e => by rw [e] at d3; simp at d3)]
  have e : (2 : Nat) ^ 64 - 1 = 18446744073709551615 := by decide
  have := uint_dval (Lib.decDigits n) 0 d1 (by rw [d2]; exact h)
  rw [d2] at this
  rw [e]; exact this

theorem parse_dec {n : Int} (h : N18 n) : Lib.parseIntB 64 (numB n).data.toList = .ok n := by
  obtain ⟨h1, h2⟩ := h
  have e63 : (2 : Nat) ^ (64 - 1) = 9223372036854775808 := by decide
  by_cases hn : n < 0
  · rw [numB_neg hn]
    show Lib.parseIntB 64 (45 :: Lib.decDigits n.natAbs) = _
    rw [Lib.parseIntB_minus, uint_dec (by omega), e63]
    unfold Lib.signedC
    simp only
    rw [if_neg (by omega)]
    congr 1
    omega
  · rw [numB_pos hn]
    show Lib.parseIntB 64 (Lib.decDigits n.toNat) = _
    have hu := uint_dec (n := n.toNat) (by omega)
    obtain ⟨b, r, hd, hb, _⟩ := dec_head (n := n.toNat)
    unfold isD at hb
    rw [hd] at hu ⊢
    rw [Lib.parseIntB_plain _ _ _ (by omega) (by omega), hu, e63]
    unfold Lib.signlessC
    simp only
    rw [if_neg (by omega)]
    congr 1
    omega

theorem trim_dec {n : Int} : (g55_0 (numB n) ⟨#[45]⟩).size = (Lib.decDigits n.natAbs).length := by
  unfold g55_0
  show (Lib.trimPrefix (numB n).data.toList [45]).length = _
  unfold Lib.trimPrefix Lib.hasPrefix
  by_cases hn : n < 0
  · rw [numB_neg hn]
    rfl
  · rw [numB_pos hn]
    obtain ⟨b, r, hd, hb, _⟩ := dec_head (n := n.toNat)
    unfold isD at hb
    have hne : (45 : UInt8) ≠ b := fun e => by rw [← e] at hb; exact absurd hb (by decide)
    have e : n.natAbs = n.toNat := by omega
    rw [e, hd]
    have : ([45] : List UInt8).isPrefixOf (b :: r) = false := by simp [List.isPrefixOf, hne]
    show (if ([45] : List UInt8).isPrefixOf (b :: r) = true then _ else (b :: r)).length = _
    rw [this]
    rfl

theorem rd_i1 {n : Int} (h : N18 n) : g30_0 (numB n) = n ∧ g30_1 (numB n) = true := by
  have hl := (n18_len (n := n.natAbs)).2 (by unfold N18 at h; omega)
  have h0 := (dec_facts n.natAbs).2.2.1
  have e : rd30 (numB n) = some n := by
    unfold rd30 long30
    rw [trim_dec, if_neg (by rw [Bool.or_eq_true, decide_eq_true_eq, decide_eq_true_eq]; omega), parse_dec h]
    simp
  unfold g30_0 g30_1
  rw [e]
  exact ⟨rfl, rfl⟩

theorem num_free {n : Int} {k : UInt8} (h1 : ¬ isD k) (h2 : k ≠ 45) : k ∉ (numB n).data.toList := by
  intro hm
  by_cases hn : n < 0
  · rw [numB_neg hn] at hm
    rcases List.mem_cons.1 hm with h | h
    · exact h2 h
    · exact h1 ((dec_facts _).1 _ h)
  · rw [numB_pos hn] at hm
    exact h1 ((dec_facts _).1 _ hm)

end Go.Proofs.YtfpdnbojchnglaaGreatDoor

/- A law that says how functions of the program and of the specification hang together. -/
set_option linter.unusedVariables false
set_option linter.unusedSimpArgs false
set_option maxRecDepth 100000
namespace Go.Proofs.YtfpdnbojchnglaaGreatDoor
open Go Go.Am Go.Proofs

theorem app_list (a b : ByteArray) : (a ++ b).data.toList = a.data.toList ++ b.data.toList := by
  rw [ByteArray.data_append, Array.toList_append]

theorem bytes_ext {a b : ByteArray} (h : a.data.toList = b.data.toList) : a = b := by
  obtain ⟨⟨l⟩⟩ := a
  obtain ⟨⟨m⟩⟩ := b
  simp at h
  rw [h]

theorem split_of_three {k : UInt8} {a b c : List UInt8} (ha : k ∉ a) (hb : k ∉ b) (hc : k ∉ c) : splitC k (a ++ k :: (b ++ k :: c)) = [a, b, c] := by
  rw [splitC_hit k _ ha, splitC_hit k _ hb, splitC_free k hc]

end Go.Proofs.YtfpdnbojchnglaaGreatDoor

/- A law that says how functions of the program and of the specification hang together. -/
set_option linter.unusedVariables false
set_option linter.unusedSimpArgs false
set_option maxRecDepth 100000
namespace Go.Proofs.YtfpdnbojchnglaaGreatDoor
open Go Go.Am Go.Proofs

theorem bl_asym {x y : List UInt8} (h : Op.bytesLess x y = true) : Op.bytesLess y x = false := by
  cases h2 : Op.bytesLess y x with
  | false => rfl
  | true =>
    have := bl_trans x y x h h2
    rw [bl_irrefl] at this
    cases this

theorem le_not (a b : ByteArray) : (!(Op.bytesLess (ByteArray.toList a) (ByteArray.toList b) || ByteArray.toList a == ByteArray.toList b)) = Op.bytesLess (ByteArray.toList b) (ByteArray.toList a) := by
  generalize ByteArray.toList a = x
  generalize ByteArray.toList b = y
  cases h1 : Op.bytesLess x y with
  | true => rw [bl_asym h1]; rfl
  | false =>
    cases h2 : (x == y) with
    | true =>
      have : x = y := by simpa using h2
      subst this
      rw [bl_irrefl]; rfl
    | false =>
      cases h3 : Op.bytesLess y x with
      | true => rfl
      | false =>
        have := bl_tri x y h1 h3
        subst this
        simp at h2

theorem allI_mem {α : Type} {p : Nat → α → Bool} : ∀ (l : List α) (i : Nat), allI p i l = true → ∀ x ∈ l, ∃ j, p j x = true
  | [], _, _, x, hx => by cases hx
  | y :: r, i, h, x, hx => by
    simp only [allI, Bool.and_eq_true] at h
    rcases List.mem_cons.1 hx with rfl | hx
    · exact ⟨i, h.1⟩
    · exact allI_mem r (i + 1) h.2 x hx

end Go.Proofs.YtfpdnbojchnglaaGreatDoor

/- A law that says how functions of the program and of the specification hang together. -/
set_option linter.unusedVariables false
set_option linter.unusedSimpArgs false
set_option maxRecDepth 100000
namespace Go.Proofs.YtfpdnbojchnglaaGreatDoor
open Go Go.Am Go.Proofs

theorem dT_size (a b c : Nat) : (dT a b c).size = 10 := rfl
theorem dT_free {a b c : Nat} {k : UInt8} (h1 : ¬ (48 ≤ k.toNat ∧ k.toNat ≤ 57)) (h2 : k ≠ 45) (hb : b < 100) (hc : c < 100) : k ∉ (dT a b c).data.toList := by
  have hD : ∀ n, n < 10 → k ≠ D10 n := fun n hn e => by
    have := congrArg UInt8.toNat e
    rw [D10_nat hn] at this
    omega
  have h50 : k ≠ 50 := fun e => by rw [e] at h1; exact h1 (by decide)
  have h48 : k ≠ 48 := fun e => by rw [e] at h1; exact h1 (by decide)
  show k ∉ [50, 48, D10 (a % 100 / 10), D10 (a % 10)] ++ 45 :: ([D10 (b / 10), D10 (b % 10)] ++ 45 :: [D10 (c / 10), D10 (c % 10)])
  simp only [List.mem_cons, List.mem_append, List.mem_nil_iff, or_false, not_or]
  exact ⟨⟨h50, h48, hD _ (by omega), hD _ (by omega)⟩, h2, ⟨hD _ (by omega), hD _ (by omega)⟩, h2, hD _ (by omega), hD _ (by omega)⟩

abbrev FRT := ByteArray × Int × Int × Int × Unit
abbrev TKT := ByteArray × Int × Int × Unit
abbrev FRD : FRT := (ByteArray.empty, (0 : Int), (0 : Int), (0 : Int), ())

theorem wnF {x a b : Int} : g40_0 x a b = true ↔ a ≤ x ∧ x ≤ b := by
  unfold g40_0
  by_cases h : x ≥ a
  · rw [if_pos (decide_eq_true h), decide_eq_true_eq]; omega
  · rw [if_neg (by simp only [decide_eq_true_eq]; exact h)]
    constructor
    · intro hh; cases hh
    · intro hh; omega

theorem fare_one {f : FRT} (h : g62_0 f = true) : (0 ≤ f.2.1 ∧ f.2.1 ≤ 100000) ∧ (1 ≤ f.2.2.1 ∧ f.2.2.1 ≤ 1000) ∧ (1 ≤ f.2.2.2.1 ∧ f.2.2.2.1 ≤ 400) := by
  unfold g62_0 at h
  split at h
  · split at h
    · rename_i h1
      split at h
      · rename_i h2
        exact ⟨wnF.1 h1, wnF.1 h2, wnF.1 h⟩
      · cases h
    · cases h
  · cases h

theorem allI_getF {α : Type} {p : Nat → α → Bool} (d : α) : ∀ (l : List α) (k : Nat), allI p k l = true → ∀ i, i < l.length → p (k + i) (l.getD i d) = true
  | [], _, _, i, hi => absurd hi (Nat.not_lt_zero _)
  | x :: r, k, h, i, hi => by
    simp only [allI, Bool.and_eq_true] at h
    cases i with
    | zero => exact h.1
    | succ i =>
      have := allI_getF d r (k + 1) h.2 i (by simpa using hi)
      rw [List.getD_cons_succ, show k + (i + 1) = k + 1 + i by omega]
      exact this

theorem fares_all {l : List FRT} (h : g48_0 l = true) : l.length ≤ 8 ∧ (∀ f ∈ l, g62_0 f = true) ∧ ∀ (n i : Nat), i + (n + 1) < l.length → Op.bytesLess (ByteArray.toList (l.getD i FRD).1) (ByteArray.toList (l.getD (i + (n + 1)) FRD).1) = true := by
  unfold g48_0 at h
  rw [Bool.and_eq_true, decide_eq_true_eq] at h
  have hk := allI_getF FRD l 0 h.1
  have st : ∀ i, i + 1 < l.length → Op.bytesLess (ByteArray.toList (l.getD i FRD).1) (ByteArray.toList (l.getD (i + 1) FRD).1) = true := fun i hi => by
    have := hk (i + 1) hi
    unfold ok48 at this
    rw [Bool.and_eq_true] at this
    have h2 := this.2
    rw [Nat.zero_add, show (i + 1 == 0) = false from rfl, Bool.false_or, Nat.add_sub_cancel, le_not] at h2
    exact h2
  refine ⟨h.2, fun f hf => ?_, ?_⟩
  · obtain ⟨j, hj⟩ := allI_mem l 0 h.1 f hf
    unfold ok48 at hj
    exact (Bool.and_eq_true _ _ ▸ hj).1
  · intro n
    induction n with
    | zero => intro i hi; exact st i hi
    | succ n ih =>
      intro i hi
      exact bl_trans _ _ _ (ih i (by omega)) (st (i + (n + 1)) (by omega))

theorem fare_uniq {l : List FRT} (h : g48_0 l = true) {f g : FRT} (hf : f ∈ l) (hg : g ∈ l) (e : f.1 = g.1) : f = g := by
  obtain ⟨i, hi, rfl⟩ := List.mem_iff_getElem.1 hf
  obtain ⟨j, hj, rfl⟩ := List.mem_iff_getElem.1 hg
  have hs := (fares_all h).2.2
  have key : ∀ a b : Nat, a < b → b < l.length → (l.getD a FRD).1 ≠ (l.getD b FRD).1 := fun a b hab hb hh => by
    have := hs (b - a - 1) a (by omega)
    rw [show a + (b - a - 1 + 1) = b by omega, hh, bl_irrefl] at this
    cases this
  rcases Nat.lt_trichotomy i j with h1 | h1 | h1
  · have := key i j h1 hj
    rw [getD_lt l i FRD hi, getD_lt l j FRD hj] at this
    exact absurd e this
  · subst h1; rfl
  · have := key j i h1 hi
    rw [getD_lt l i FRD hi, getD_lt l j FRD hj] at this
    exact absurd e.symm this

theorem fare_of (l : List FRT) (id : ByteArray) : P26 l id ∧ (g26_1 l id = true → g26_0 l id ∈ l ∧ (g26_0 l id).1 = id) := by
  unfold P26 g26_1 g26_0 g50c51_0
  cases hx : l.findIdx? (fun x => g51_0 x id) with
  | none =>
    have e : decide (idx none < 0) = true := rfl
    simp only [e, if_true, Bool.false_eq_true, false_implies, and_true]
  | some k =>
    obtain ⟨hk, hq, _⟩ := List.findIdx?_eq_some_iff_getElem.1 hx
    have e : decide (idx (some k) < 0) = false := decide_eq_false (by show ¬ ((k : Int) < 0); omega)
    have e2 : Int.toNat (idx (some k)) = k := by show Int.toNat (k : Int) = k; omega
    simp only [e, e2, Bool.false_eq_true, if_false, true_implies]
    refine ⟨⟨by show (0 : Int) ≤ (k : Int); omega, by show (k : Int) < _; omega, trivial⟩, mem_getD l k FRD hk, ?_⟩
    have hq2 : g51_0 l[k] id = true := hq
    unfold g51_0 at hq2
    have := (bytes_eq _ _).1 hq2
    show (l.getD k FRD).1 = id
    rw [getD_lt l k FRD hk]
    exact this

theorem fared_pre (l : List FRT) (b : Bool) (ids : List ByteArray) : P23 l b ids := fun y _ => (fare_of l y).1

theorem fared_one (l : List FRT) (b : Bool) (id : ByteArray) : g23_0 l b [id] = 0 ↔ g48_0 l = true ∧ b = true ∧ g26_1 l id = true := by
  unfold g23_0
  cases g48_0 l with
  | false => simp
  | true =>
    cases b with
    | false => simp
    | true =>
      simp only [List.all_cons, List.all_nil, Bool.and_true]
      cases g26_1 l id with
      | false => simp
      | true => simp

theorem tick_parts {t : TKT} (h : g24_0 t = true) : g49_0 t.1 = true ∧ (0 ≤ t.2.1 ∧ t.2.1 ≤ 36524) ∧ (0 ≤ t.2.2.1 ∧ t.2.2.1 ≤ 1000) := by
  unfold g24_0 at h
  split at h
  · rename_i h1
    split at h
    · rename_i h2
      exact ⟨h1, wnF.1 h2, wnF.1 h⟩
    · cases h
  · cases h

theorem good_iff (f : FRT) (t : TKT) (d : Int) : g27_0 f t d = true ↔ t.2.1 ≤ d ∧ d - t.2.1 < f.2.2.2.1 ∧ t.2.2.1 < f.2.2.1 := by
  unfold g27_0
  by_cases h1 : d ≥ t.2.1
  · rw [if_pos (decide_eq_true h1)]
    by_cases h2 : d - t.2.1 < f.2.2.2.1
    · rw [if_pos (decide_eq_true h2), decide_eq_true_eq]
      exact ⟨fun h => ⟨h1, h2, h⟩, fun h => h.2.2⟩
    · rw [if_neg (by simp only [decide_eq_true_eq]; exact h2)]
      exact ⟨fun h => (by cases h), fun h => absurd h.2.1 h2⟩
  · rw [if_neg (by simp only [decide_eq_true_eq]; exact h1)]
    exact ⟨fun h => (by cases h), fun h => absurd h.1 h1⟩

theorem good_pre (f : FRT) {t : TKT} {d : Int} (h1 : 0 ≤ t.2.1 ∧ t.2.1 ≤ 36524) (h2 : 0 ≤ d ∧ d ≤ 36524) : P27 f t d := by
  unfold P27
  split
  · exact ⟨by rw [i64_iff]; omega, trivial⟩
  · trivial

theorem use_law (l : List FRT) (t : TKT) (d : Int) : P6 l t d ∧ P7 l t d ∧
    ((g6_1 l t d = 0 ∧ g24_0 t = true ∧ (0 ≤ d ∧ d ≤ 36524) ∧ g48_0 l = true ∧ g26_1 l t.1 = true ∧ g27_0 (g26_0 l t.1) t d = true ∧ g6_0 l t d = (t.1, t.2.1, t.2.2.1 + 1, ()) ∧ g7_1 l t d = 0 ∧ g7_0 l t d = (g26_0 l t.1).2.2.1 - t.2.2.1)
    ∨ (g6_1 l t d ≠ 0 ∧ g7_0 l t d = 0)) ∧
    (g24_0 t = true → (0 ≤ d ∧ d ≤ 36524) → g48_0 l = true → g26_1 l t.1 = true → g7_1 l t d = 0 ∧ g7_0 l t d = if g27_0 (g26_0 l t.1) t d = true then (g26_0 l t.1).2.2.1 - t.2.2.1 else 0) := by
  have pf := fun b => fared_pre l b [t.1]
  have po := (fare_of l t.1).1
  unfold P6 P7 g6_1 g6_0 g7_1 g7_0
  cases ht : g24_0 t with
  | false =>
    have hc : g23_0 l false [t.1] ≠ 0 := fun h => by have := ((fared_one l false t.1).1 h).2.1; cases this
    have hb : (g23_0 l false [t.1] != 0) = true := by simpa using hc
    simp only [hb, Bool.false_eq_true, if_false, if_true, pf, and_self, true_and]
    exact ⟨.inr ⟨hc, trivial⟩, fun h => absurd h (by decide)⟩
  | true =>
    obtain ⟨n1, n2, n3⟩ := tick_parts ht
    by_cases hc : g23_0 l (g25_0 d) [t.1] = 0
    · obtain ⟨hv, hd, hf⟩ := (fared_one l _ t.1).1 hc
      have hd2 : 0 ≤ d ∧ d ≤ 36524 := wnF.1 hd
      have hb : (g23_0 l (g25_0 d) [t.1] != 0) = false := by rw [hc]; rfl
      have pg := good_pre (g26_0 l t.1) n2 hd2
      have fm := fare_one ((fares_all hv).2.1 _ ((fare_of l t.1).2 hf).1)
      have i1 : InR .i64 (t.2.2.1 + 1) := by rw [i64_iff]; omega
      have i2 : InR .i64 ((g26_0 l t.1).2.2.1 - t.2.2.1) := by rw [i64_iff]; omega
      cases hg : g27_0 (g26_0 l t.1) t d with
      | true =>
        simp only [hb, if_true, pf, po, pg, i1, i2, Bool.not_true, Bool.false_eq_true, if_false, and_self, true_and, hd2, hv, hf]
        exact ⟨.inl trivial, fun _ _ _ _ => trivial⟩
      | false =>
        simp only [hb, if_true, pf, po, pg, Bool.not_false, Bool.false_eq_true, if_false, and_self, true_and]
        exact ⟨.inr ⟨by decide, trivial⟩, fun _ _ _ _ => trivial⟩
    · have hb : (g23_0 l (g25_0 d) [t.1] != 0) = true := by simpa using hc
      simp only [hb, if_true, pf, and_self, true_and]
      refine ⟨.inr ⟨hc, trivial⟩, fun _ h2 h3 h4 => absurd ((fared_one l _ t.1).2 ⟨h3, wnF.2 h2, h4⟩) hc⟩

theorem name_freeF {x : ByteArray} (h : g49_0 x = true) : (32 : UInt8) ∉ x.data.toList := fun hm => by
  unfold g49_0 at h
  rw [Bool.and_eq_true] at h
  obtain ⟨j, hj⟩ := allI_mem _ 0 h.2 ((32 : UInt8).toNat : Int) (List.mem_map.2 ⟨32, hm, rfl⟩)
  unfold ok49 at hj
  simp at hj

theorem name_sizeF {x : ByteArray} (h : g49_0 x = true) : x.size ≤ 10 := by
  unfold g49_0 at h
  simp only [Bool.and_eq_true, decide_eq_true_eq] at h
  omega

theorem dec_rangeF (x : ByteArray) (h : x.size ≤ 100) : P30 x := (show x.size ≤ 281474976710656 from by omega)

end Go.Proofs.YtfpdnbojchnglaaGreatDoor

/- A law that says how functions of the program and of the specification hang together. -/
set_option linter.unusedVariables false
set_option linter.unusedSimpArgs false
set_option maxRecDepth 100000
namespace Go.Proofs.YtfpdnbojchnglaaGreatDoor
open Go Go.Am Go.Proofs

theorem near_law {x : Int} (h : 0 ≤ x ∧ x ≤ 100000000) : P38 x 1000 ∧ 0 ≤ g38_0 x 1000 ∧ g38_0 x 1000 ≤ 100001 := by
  have t1 : Int.tdiv x 1000 = x / 1000 := Int.tdiv_eq_ediv_of_nonneg h.1
  have t2 : Int.tmod x 1000 = x % 1000 := Int.tmod_eq_emod_of_nonneg h.1
  have a1 : g60_0 1000 = 1000 := by decide
  have a2 : g60_0 (x % 1000) = x % 1000 := by
    unfold g60_0
    rw [if_neg (by simp only [decide_eq_true_eq]; omega)]
  have p1 : P60 1000 := by
    unfold P60
    rw [if_neg (by decide)]
    trivial
  have p2 : P60 (x % 1000) := by
    unfold P60
    rw [if_neg (by simp only [decide_eq_true_eq]; omega)]
    trivial
  have c0 : decide (x < 0) = false := decide_eq_false (by omega)
  have c1 : decide ((1000 : Int) < 0) = false := by decide
  unfold P38 g38_0
  rw [t1, t2, a1, a2, c0, c1]
  have i1 : InR .i64 (x / 1000) := by rw [i64_iff]; omega
  have i2 : InR .i64 (x % 1000) := by rw [i64_iff]; omega
  have i3 : InR .i64 (1000 - x % 1000) := by rw [i64_iff]; omega
  have i4 : InR .i64 (x / 1000 + 1) := by rw [i64_iff]; omega
  have hn : ¬ (!(false == false)) = true := by decide
  by_cases hc : x % 1000 ≥ 1000 - x % 1000
  · rw [if_pos (decide_eq_true hc), if_pos (decide_eq_true hc), if_neg hn, if_neg hn]
    exact ⟨⟨by decide, i1, by decide, i2, p2, p1, i3, i4, trivial⟩, by omega, by omega⟩
  · rw [if_neg (by simp only [decide_eq_true_eq]; exact hc), if_neg (by simp only [decide_eq_true_eq]; exact hc)]
    exact ⟨⟨by decide, i1, by decide, i2, p2, p1, i3, trivial⟩, by omega, by omega⟩

theorem mul_range {a b m n : Int} (ha : 0 ≤ a ∧ a ≤ m) (hb : 0 ≤ b ∧ b ≤ n) : 0 ≤ a * b ∧ a * b ≤ m * n :=
  ⟨Int.mul_nonneg ha.1 hb.1, Int.mul_le_mul ha.2 hb.2 hb.1 (Int.le_trans ha.1 ha.2)⟩

theorem group_law (l : List FRT) (id : ByteArray) (a c s : Int) : P11 l id a c s ∧
    ((g11_1 l id a c s = 0 ∧ (0 ≤ a ∧ a ≤ 100) ∧ (0 ≤ c ∧ c ≤ 100) ∧ (0 ≤ s ∧ s ≤ 1000) ∧ g48_0 l = true ∧ g26_1 l id = true ∧ g11_0 l id a c s = a * (g26_0 l id).2.1 + c * g38_0 ((g26_0 l id).2.1 * s) 1000 ∧ 0 ≤ a * (g26_0 l id).2.1 ∧ a * (g26_0 l id).2.1 ≤ 10000000 ∧ 0 ≤ c * g38_0 ((g26_0 l id).2.1 * s) 1000 ∧ c * g38_0 ((g26_0 l id).2.1 * s) 1000 ≤ 10000100)
    ∨ (g11_1 l id a c s ≠ 0 ∧ g11_0 l id a c s = 0 ∧ ¬ ((0 ≤ a ∧ a ≤ 100) ∧ (0 ≤ c ∧ c ≤ 100) ∧ (0 ≤ s ∧ s ≤ 1000) ∧ g48_0 l = true ∧ g26_1 l id = true))) := by
  have pf := fun b => fared_pre l b [id]
  have po := (fare_of l id).1
  have hF : g23_0 l false [id] ≠ 0 := fun h => by have := ((fared_one l false id).1 h).2.1; cases this
  have hFb : (g23_0 l false [id] != 0) = true := by simpa using hF
  unfold P11 g11_1 g11_0
  by_cases ha : g36_0 a = true
  case neg =>
    simp only [if_neg ha, hFb, if_true, pf, and_self, true_and]
    exact .inr ⟨hF, fun h => ha (wnF.2 h.1)⟩
  by_cases hc : g36_0 c = true
  case neg =>
    simp only [if_pos ha, if_neg hc, hFb, if_true, pf, and_self, true_and]
    exact .inr ⟨hF, fun h => hc (wnF.2 h.2.1)⟩
  simp only [if_pos ha, if_pos hc]
  by_cases h0 : g23_0 l (g37_0 s) [id] = 0
  · obtain ⟨hv, hd, hf⟩ := (fared_one l _ id).1 h0
    have hb : (g23_0 l (g37_0 s) [id] != 0) = false := by rw [h0]; rfl
    have b1 : 0 ≤ a ∧ a ≤ 100 := wnF.1 ha
    have b2 : 0 ≤ c ∧ c ≤ 100 := wnF.1 hc
    have b3 : 0 ≤ s ∧ s ≤ 1000 := wnF.1 hd
    have fm := (fare_one ((fares_all hv).2.1 _ ((fare_of l id).2 hf).1)).1
    have m1 := mul_range b1 fm
    have m2 := mul_range fm b3
    obtain ⟨q1, q2, q3⟩ := near_law (x := (g26_0 l id).2.1 * s) ⟨m2.1, by omega⟩
    have m3 := mul_range b2 ⟨q2, q3⟩
    have i1 : InR .i64 (a * (g26_0 l id).2.1) := by rw [i64_iff]; omega
    have i2 : InR .i64 ((g26_0 l id).2.1 * s) := by rw [i64_iff]; omega
    have i3 : InR .i64 (c * g38_0 ((g26_0 l id).2.1 * s) 1000) := by rw [i64_iff]; omega
    have i4 : InR .i64 (a * (g26_0 l id).2.1 + c * g38_0 ((g26_0 l id).2.1 * s) 1000) := by rw [i64_iff]; omega
    simp only [hb, Bool.false_eq_true, if_false]
    exact ⟨⟨pf _, po, i1, i2, q1, i3, i4, trivial⟩, .inl ⟨trivial, b1, b2, b3, hv, hf, trivial, m1.1, by omega, m3.1, by omega⟩⟩
  · have hb : (g23_0 l (g37_0 s) [id] != 0) = true := by simpa using h0
    simp only [hb, if_true]
    exact ⟨⟨pf _, trivial⟩, .inr ⟨h0, trivial, fun h => h0 ((fared_one l _ id).2 ⟨h.2.2.2.1, wnF.2 h.2.2.1, h.2.2.2.2⟩)⟩⟩

theorem each_law (l : List FRT) (id : ByteArray) : P12 l id ∧ (g48_0 l = true → g26_1 l id = true → g12_1 l id = 0 ∧ 0 ≤ g12_0 l id ∧ g12_0 l id ≤ 101000 ∧ (g26_0 l id).2.1 ≤ g12_0 l id * (g26_0 l id).2.2.1 ∧ (g12_0 l id - 1) * (g26_0 l id).2.2.1 < (g26_0 l id).2.1 ∧ g12_0 l id * (g26_0 l id).2.2.1 ≤ 101000 ∧ -1000 ≤ (g12_0 l id - 1) * (g26_0 l id).2.2.1) := by
  have pf := fared_pre l true [id]
  have po := (fare_of l id).1
  unfold P12 g12_1 g12_0
  by_cases h0 : g23_0 l true [id] = 0
  · obtain ⟨hv, _, hf⟩ := (fared_one l _ id).1 h0
    have hb : (g23_0 l true [id] != 0) = false := by rw [h0]; rfl
    obtain ⟨f1, f2, _⟩ := fare_one ((fares_all hv).2.1 _ ((fare_of l id).2 hf).1)
    generalize (g26_0 l id).2.1 = C at *
    generalize (g26_0 l id).2.2.1 = R at *
    have t1 : Int.tdiv (C + R - 1) R = (C + R - 1) / R := Int.tdiv_eq_ediv_of_nonneg (by omega)
    have e1 := Int.mul_ediv_add_emod (C + R - 1) R
    have e2 := Int.emod_nonneg (C + R - 1) (b := R) (by omega)
    have e3 := Int.emod_lt_of_pos (C + R - 1) (b := R) (by omega)
    have e4 : 0 ≤ (C + R - 1) / R := Int.ediv_nonneg (by omega) (by omega)
    have e5 : (C + R - 1) / R ≤ C + R - 1 := Int.ediv_le_self R (by omega)
    simp only [hb, Bool.false_eq_true, if_false]
    unfold P39 g39_0
    rw [t1]
    generalize (C + R - 1) / R = q at *
    generalize (C + R - 1) % R = m at *
    rw [Int.mul_comm] at e1
    have e6 : (q - 1) * R = q * R - R := by rw [Int.sub_mul, Int.one_mul]
    rw [e6]
    generalize q * R = z at *
    exact ⟨⟨pf, po, ⟨by rw [i64_iff]; omega, by rw [i64_iff]; omega, by omega, by rw [i64_iff]; omega, trivial⟩, trivial⟩, fun _ _ => ⟨trivial, e4, by omega, by omega, by omega, by omega, by omega⟩⟩
  · have hb : (g23_0 l true [id] != 0) = true := by simpa using h0
    simp only [hb, if_true]
    exact ⟨⟨pf, trivial⟩, fun h2 h3 => absurd ((fared_one l _ id).2 ⟨h2, rfl, h3⟩) h0⟩

theorem pay_law (l : List FRT) (id : ByteArray) {a : Int} (ha : 0 ≤ a ∧ a ≤ 100) (hv : g48_0 l = true) (hf : g26_1 l id = true) : P13 l id a 100 0 ∧ g13_1 l id a 100 0 = 0 ∧ g13_0 l id a 100 0 = a * (g26_0 l id).2.1 := by
  have w1 : g36_0 a = true := wnF.2 ha
  have w2 : g40_0 100 2 100 = true := by decide
  have w3 : g40_0 0 0 100 = true := by decide
  have h0 : g23_0 l true [id] = 0 := (fared_one l true id).2 ⟨hv, rfl, hf⟩
  have hb : (g23_0 l true [id] != 0) = false := by rw [h0]; rfl
  have fm := (fare_one ((fares_all hv).2.1 _ ((fare_of l id).2 hf).1)).1
  have m1 := mul_range ha fm
  have t1 : Int.tdiv a 100 = a / 100 := Int.tdiv_eq_ediv_of_nonneg ha.1
  have e : a - a / 100 * 0 = a := by rw [Int.mul_zero, Int.sub_zero]
  unfold P13 g13_1 g13_0
  simp only [w1, w2, w3, hb, if_true, Bool.false_eq_true, if_false, t1, e]
  refine ⟨⟨fared_pre l true [id], (fare_of l id).1, by decide, by rw [i64_iff]; omega, by rw [Int.mul_zero, i64_iff]; omega, by rw [i64_iff]; omega, by rw [i64_iff]; omega, trivial⟩, trivial, trivial⟩

theorem ticket_back {t : TKT} (h : g24_0 t = true) : P9 t ∧ P8 (g9_0 t) ∧ g8_1 (g9_0 t) = true ∧ g8_0 (g9_0 t) = t := by
  obtain ⟨n1, n2, n3⟩ := tick_parts h
  obtain ⟨y, m, d, hd, hday⟩ := date_fwd n2
  obtain ⟨a, b, c, rfl, rfl, rfl, ha, hb, hc⟩ := date_nat hd
  have hdt := date_text hd ha (by omega) (by omega)
  have hdp := text_pre hd
  obtain ⟨r0, r1⟩ := date_i1 hd ha (by omega) (by omega)
  rw [hday] at hdt hdp r0
  have hN : N18 t.2.2.1 := by unfold N18; omega
  obtain ⟨u0, u1⟩ := rd_i1 hN
  have eD : g32_0 t.2.2.1 = numB t.2.2.1 := rfl
  have hz := numB_size t.2.2.1 (by omega) (by omega)
  have e1 : (ByteArray.mk #[32]).size = 1 := rfl
  have hs := name_sizeF n1
  have hT : g9_0 t = ⟨⟨t.1.data.toList ++ 32 :: ((dT a b c).data.toList ++ 32 :: (numB t.2.2.1).data.toList)⟩⟩ := by
    unfold g9_0
    rw [if_neg (by rw [h]; simp)]
    refine bytes_ext ?_
    simp only [hdt, eD, app_list, List.append_assoc]
    rfl
  have pT : P9 t := by
    unfold P9
    rw [if_neg (by rw [h]; simp)]
    simp only [hdt, eD, ByteArray.size_append, dT_size, e1]
    exact ⟨by omega, hdp, by omega, by omega, ⟨rfl, trivial⟩, by omega, trivial⟩
  have hsp : g28_0 (g9_0 t) (ByteArray.mk #[32]) = [t.1, dT a b c, numB t.2.2.1] := by
    refine (splitB_one 32 _).trans ?_
    rw [hT]
    show bss (splitC 32 (t.1.data.toList ++ 32 :: ((dT a b c).data.toList ++ 32 :: (numB t.2.2.1).data.toList))) = _
    rw [split_of_three (name_freeF n1) (dT_free (by decide) (by decide) (by omega) (by omega)) (num_free (by unfold isD; decide) (by decide))]
    rfl
  have hsz : (g9_0 t).size ≤ 60 := by
    rw [hT]
    show (t.1.data.toList ++ 32 :: ((dT a b c).data.toList ++ 32 :: (numB t.2.2.1).data.toList)).length ≤ 60
    have s1 : t.1.data.toList.length = t.1.size := rfl
    have s2 : (dT a b c).data.toList.length = 10 := rfl
    have s3 : (numB t.2.2.1).data.toList.length = (numB t.2.2.1).size := rfl
    simp only [List.length_append, List.length_cons, s1, s2, s3]
    omega
  have n0 : ((([t.1, dT a b c, numB t.2.2.1].length : Nat) : Int) != 3) = false := rfl
  have d0 : List.getD [t.1, dT a b c, numB t.2.2.1] 0 ByteArray.empty = t.1 := rfl
  have d1 : List.getD [t.1, dT a b c, numB t.2.2.1] 1 ByteArray.empty = dT a b c := rfl
  have d2 : List.getD [t.1, dT a b c, numB t.2.2.1] 2 ByteArray.empty = numB t.2.2.1 := rfl
  have l0 : (0 : Int) < (([t.1, dT a b c, numB t.2.2.1].length : Nat) : Int) := by show (0 : Int) < 3; decide
  have l1 : (1 : Int) < (([t.1, dT a b c, numB t.2.2.1].length : Nat) : Int) := by show (1 : Int) < 3; decide
  have l2 : (2 : Int) < (([t.1, dT a b c, numB t.2.2.1].length : Nat) : Int) := by show (2 : Int) < 3; decide
  have et : (t.1, t.2.1, t.2.2.1, ()) = t := rfl
  have pS : P28 (g9_0 t) (ByteArray.mk #[32]) := ⟨by omega, Nat.le_refl 1⟩
  have pR : P29 (dT a b c) := date_ip _ (by rw [dT_size]; omega)
  have pD : P30 (numB t.2.2.1) := dec_rangeF _ (by omega)
  unfold P8 g8_1 g8_0
  rw [hsp]
  simp only [n0, d0, d1, d2, l0, l1, l2, r0, u0, et, beq_self_eq_true, Bool.not_true, Bool.false_eq_true, if_false, and_self, and_true, true_and]
  exact ⟨pT, pS, pR, pD, pT⟩

end Go.Proofs.YtfpdnbojchnglaaGreatDoor

/- A law that says how functions of the program and of the specification hang together. -/
set_option linter.unusedVariables false
set_option linter.unusedSimpArgs false
set_option maxRecDepth 100000
namespace Go.Proofs.YtfpdnbojchnglaaGreatDoor
open Go Go.Am Go.Proofs

theorem draw_dayF {n : Int} {s : (List Int × Int × Int × Unit)} (h : SrcOk n s) (hn : n ≤ 4000000000000000000) : P22 s := by
  obtain ⟨p1, s1⟩ := one_ok h 10 (by omega)
  obtain ⟨p2, s2, _⟩ := among_ok s1 [-1, 0, 36524, 36525] (by decide) (by omega)
  obtain ⟨p3, s3, a3, b3, _⟩ := pick_ok s1 60 (by omega)
  have b3 := b3 (by decide)
  unfold P22
  refine ⟨p1, ?_⟩
  split
  · exact ⟨p2, trivial⟩
  · exact ⟨p3, by rw [i64_iff]; omega, trivial⟩

theorem draw_people {n : Int} {s : (List Int × Int × Int × Unit)} (h : SrcOk n s) (hn : n ≤ 4000000000000000000) : P34 s ∧ SrcOk (n + 2) (u34_0 s) := by
  obtain ⟨p1, s1, _⟩ := among_ok h [0, 1, 2, 5, 11, 40, 100, 101, -1] (by decide) (by omega)
  exact ⟨⟨p1, trivial⟩, s1⟩

end Go.Proofs.YtfpdnbojchnglaaGreatDoor

/- Function 3 (laws.FnFares): its runs between cut points. Written by a program of this repo (gen). -/
set_option linter.unusedVariables false
set_option linter.unusedSimpArgs false
set_option maxRecDepth 100000
namespace Go.Proofs.YtfpdnbojchnglaaGreatDoor
open Go Go.Am Go.Proofs
noncomputable section
def ext3 : Ext := [(4, S4), (5, S5), (6, S6), (7, S7), (9, S9), (8, S8), (10, S10), (11, S11), (12, S12), (13, S13), (14, S14), (15, S15), (16, S16), (17, S17)]
theorem call3_4 : Callable Tryz.prog 4 := ⟨Tryz.f4, Tryz.func4, by kernel_rfl, by kernel_rfl⟩
theorem call3_5 : Callable Tryz.prog 5 := ⟨Tryz.f5, Tryz.func5, by kernel_rfl, by kernel_rfl⟩
theorem call3_6 : Callable Tryz.prog 6 := ⟨Tryz.f6, Tryz.func6, by kernel_rfl, by kernel_rfl⟩
theorem call3_7 : Callable Tryz.prog 7 := ⟨Tryz.f7, Tryz.func7, by kernel_rfl, by kernel_rfl⟩
theorem call3_9 : Callable Tryz.prog 9 := ⟨Tryz.f9, Tryz.func9, by kernel_rfl, by kernel_rfl⟩
theorem call3_8 : Callable Tryz.prog 8 := ⟨Tryz.f8, Tryz.func8, by kernel_rfl, by kernel_rfl⟩
theorem call3_10 : Callable Tryz.prog 10 := ⟨Tryz.f10, Tryz.func10, by kernel_rfl, by kernel_rfl⟩
theorem call3_11 : Callable Tryz.prog 11 := ⟨Tryz.f11, Tryz.func11, by kernel_rfl, by kernel_rfl⟩
theorem call3_12 : Callable Tryz.prog 12 := ⟨Tryz.f12, Tryz.func12, by kernel_rfl, by kernel_rfl⟩
theorem call3_13 : Callable Tryz.prog 13 := ⟨Tryz.f13, Tryz.func13, by kernel_rfl, by kernel_rfl⟩
theorem call3_14 : Callable Tryz.prog 14 := ⟨Tryz.f14, Tryz.func14, by kernel_rfl, by kernel_rfl⟩
theorem call3_15 : Callable Tryz.prog 15 := ⟨Tryz.f15, Tryz.func15, by kernel_rfl, by kernel_rfl⟩
theorem call3_16 : Callable Tryz.prog 16 := ⟨Tryz.f16, Tryz.func16, by kernel_rfl, by kernel_rfl⟩
theorem call3_17 : Callable Tryz.prog 17 := ⟨Tryz.f17, Tryz.func17, by kernel_rfl, by kernel_rfl⟩
theorem ext3Ok : ExtOk Tryz.prog ext3 := ⟨⟨call3_4, con4⟩, ⟨call3_5, con5⟩, ⟨call3_6, con6⟩, ⟨call3_7, con7⟩, ⟨call3_9, con9⟩, ⟨call3_8, con8⟩, ⟨call3_10, con10⟩, ⟨call3_11, con11⟩, ⟨call3_12, con12⟩, ⟨call3_13, con13⟩, ⟨call3_14, con14⟩, ⟨call3_15, con15⟩, ⟨call3_16, con16⟩, ⟨call3_17, con17⟩, trivial⟩

noncomputable def b3 : Code := bodyOf Tryz.f3
theorem hb3 : Tryz.f3.body = some b3 := by kernel_rfl
def sig3 : List AT := [AT.v (Ty.sl (Ty.int IntKind.u8)), AT.v (Ty.sl (Ty.int IntKind.u8))]
def tys3 : List Ty := [Ty.bool]
def kds3 : List RK := []
def oks3 : List AT := owns sig3
def E3_3 (x0 : List Int) (x1 : List Int) : Env := [(0, PV.a (Atom.sl (Ty.int IntKind.u8) x0)), (1, PV.a (Atom.sl (Ty.int IntKind.u8) x1))]
def L3_3 (x0 : List Int) (x1 : List Int) : Heap := []
def E3_8 (x0 : List Int) (x1 : List Int) : Env := [(0, PV.a (Atom.sl (Ty.int IntKind.u8) x0)), (1, PV.a (Atom.sl (Ty.int IntKind.u8) x1)), (5, PV.a (Atom.osl 0 Option.none)), (6, PV.a (Atom.optr 1 0 [])), (7, PV.a (Atom.val (Value.int IntKind.i64 (g5_2 x0)))), (8, PV.a (Atom.optr 2 0 [])), (9, PV.a (Atom.val (Value.int IntKind.i64 (g6_1 (g5_0 x0) (g5_1 x0) (g5_2 x0))))), (10, PV.a (Atom.val (Value.int IntKind.i64 (g7_0 (g5_0 x0) (g5_1 x0) (g5_2 x0)))))]
def L3_8 (x0 : List Int) (x1 : List Int) : Heap := [Option.some (Arr.mk (Ty.cons Ty.str (Ty.cons (Ty.int IntKind.i64) (Ty.cons (Ty.int IntKind.i64) (Ty.cons (Ty.int IntKind.i64) Ty.unit)))) (g5_0 x0) Bool.false Option.none Option.none), Option.some (Arr.mk (Ty.cons Ty.str (Ty.cons (Ty.int IntKind.i64) (Ty.cons (Ty.int IntKind.i64) Ty.unit))) [g5_1 x0] Bool.true Option.none (Option.some Bool.false)), Option.some (Arr.mk (Ty.cons Ty.str (Ty.cons (Ty.int IntKind.i64) (Ty.cons (Ty.int IntKind.i64) Ty.unit))) [g6_0 (g5_0 x0) (g5_1 x0) (g5_2 x0)] Bool.true Option.none (Option.some Bool.false))]
def E3_13 (x0 : List Int) (x1 : List Int) : Env := [(0, PV.a (Atom.sl (Ty.int IntKind.u8) x0)), (1, PV.a (Atom.sl (Ty.int IntKind.u8) x1))]
def L3_13 (x0 : List Int) (x1 : List Int) : Heap := []
def E3_22 (x0 : List Int) (x1 : List Int) : Env := [(0, PV.a (Atom.sl (Ty.int IntKind.u8) x0)), (16, PV.a (Atom.osl 0 Option.none)), (17, PV.a (Atom.val (Value.string (g10_1 x1)))), (18, PV.a (Atom.val (Value.int IntKind.i64 (g10_2 x1)))), (23, PV.a (Atom.val (Value.int IntKind.i64 (g12_0 (g10_0 x1) (g10_1 x1))))), (25, PV.a (Atom.val (Value.int IntKind.i64 (g11_0 (g10_0 x1) (g10_1 x1) (g10_2 x1) 0 (g10_4 x1)))))]
def L3_22 (x0 : List Int) (x1 : List Int) : Heap := [Option.some (Arr.mk (Ty.cons Ty.str (Ty.cons (Ty.int IntKind.i64) (Ty.cons (Ty.int IntKind.i64) (Ty.cons (Ty.int IntKind.i64) Ty.unit)))) (g10_0 x1) Bool.false Option.none Option.none)]
def E3_29 (x0 : List Int) : Env := [(0, PV.a (Atom.sl (Ty.int IntKind.u8) x0))]
def L3_29 (x0 : List Int) : Heap := []
def E3_23 (v31 : Int) (x0 : List Int) (x1 : List Int) : Env := [(0, PV.a (Atom.sl (Ty.int IntKind.u8) x0)), (16, PV.a (Atom.osl 0 Option.none)), (17, PV.a (Atom.val (Value.string (g10_1 x1)))), (18, PV.a (Atom.val (Value.int IntKind.i64 (g10_2 x1)))), (23, PV.a (Atom.val (Value.int IntKind.i64 (g12_0 (g10_0 x1) (g10_1 x1))))), (25, PV.a (Atom.val (Value.int IntKind.i64 (g11_0 (g10_0 x1) (g10_1 x1) (g10_2 x1) 0 (g10_4 x1))))), (31, PV.a (Atom.val (Value.int IntKind.i64 v31)))]
def L3_23 (v31 : Int) (x0 : List Int) (x1 : List Int) : Heap := [Option.some (Arr.mk (Ty.cons Ty.str (Ty.cons (Ty.int IntKind.i64) (Ty.cons (Ty.int IntKind.i64) (Ty.cons (Ty.int IntKind.i64) Ty.unit)))) (g10_0 x1) Bool.false Option.none Option.none)]
def E3_33 (x0 : List Int) : Env := [(32, PV.a (Atom.osl 0 Option.none)), (33, PV.a (Atom.osl 1 Option.none)), (34, PV.a (Atom.val (Value.int IntKind.i64 (g14_2 x0)))), (35, PV.a (Atom.osl 2 Option.none))]
def L3_33 (x0 : List Int) : Heap := [Option.some (Arr.mk (Ty.cons Ty.str (Ty.cons (Ty.int IntKind.i64) (Ty.cons (Ty.int IntKind.i64) (Ty.cons (Ty.int IntKind.i64) Ty.unit)))) (g14_0 x0) Bool.false Option.none Option.none), Option.some (Arr.mk (Ty.cons Ty.str (Ty.cons (Ty.int IntKind.i64) (Ty.cons (Ty.int IntKind.i64) Ty.unit))) (g14_1 x0) Bool.false Option.none Option.none), Option.some (Arr.mk (Ty.int IntKind.i64) (g15_0 (g14_0 x0) (g14_1 x0) (g14_2 x0)) Bool.false Option.none Option.none)]
def E3_25 (x0 : List Int) (x1 : List Int) (v31 : Int) : Env := [(0, PV.a (Atom.sl (Ty.int IntKind.u8) x0)), (16, PV.a (Atom.osl 0 Option.none)), (17, PV.a (Atom.val (Value.string (g10_1 x1)))), (18, PV.a (Atom.val (Value.int IntKind.i64 (g10_2 x1)))), (23, PV.a (Atom.val (Value.int IntKind.i64 (g12_0 (g10_0 x1) (g10_1 x1))))), (25, PV.a (Atom.val (Value.int IntKind.i64 (g11_0 (g10_0 x1) (g10_1 x1) (g10_2 x1) 0 (g10_4 x1))))), (31, PV.a (Atom.val (Value.int IntKind.i64 v31)))]
def L3_25 (x0 : List Int) (x1 : List Int) (v31 : Int) : Heap := [Option.some (Arr.mk (Ty.cons Ty.str (Ty.cons (Ty.int IntKind.i64) (Ty.cons (Ty.int IntKind.i64) (Ty.cons (Ty.int IntKind.i64) Ty.unit)))) (g10_0 x1) Bool.false Option.none Option.none)]
def E3_35 (x0 : List Int) : Env := [(32, PV.a (Atom.osl 0 Option.none)), (33, PV.a (Atom.osl 1 Option.none)), (34, PV.a (Atom.val (Value.int IntKind.i64 (g14_2 x0)))), (35, PV.a (Atom.osl 2 Option.none))]
def L3_35 (x0 : List Int) : Heap := [Option.some (Arr.mk (Ty.cons Ty.str (Ty.cons (Ty.int IntKind.i64) (Ty.cons (Ty.int IntKind.i64) (Ty.cons (Ty.int IntKind.i64) Ty.unit)))) (g14_0 x0) Bool.false Option.none Option.none), Option.some (Arr.mk (Ty.cons Ty.str (Ty.cons (Ty.int IntKind.i64) (Ty.cons (Ty.int IntKind.i64) Ty.unit))) (g14_1 x0) Bool.false Option.none Option.none), Option.some (Arr.mk (Ty.int IntKind.i64) (g15_0 (g14_0 x0) (g14_1 x0) (g14_2 x0)) Bool.false Option.none Option.none)]
def E3_24 (x0 : List Int) (x1 : List Int) (v31 : Int) : Env := [(0, PV.a (Atom.sl (Ty.int IntKind.u8) x0)), (16, PV.a (Atom.osl 0 Option.none)), (17, PV.a (Atom.val (Value.string (g10_1 x1)))), (18, PV.a (Atom.val (Value.int IntKind.i64 (g10_2 x1)))), (23, PV.a (Atom.val (Value.int IntKind.i64 (g12_0 (g10_0 x1) (g10_1 x1))))), (25, PV.a (Atom.val (Value.int IntKind.i64 (g11_0 (g10_0 x1) (g10_1 x1) (g10_2 x1) 0 (g10_4 x1))))), (31, PV.a (Atom.val (Value.int IntKind.i64 v31)))]
def L3_24 (x0 : List Int) (x1 : List Int) (v31 : Int) : Heap := [Option.some (Arr.mk (Ty.cons Ty.str (Ty.cons (Ty.int IntKind.i64) (Ty.cons (Ty.int IntKind.i64) (Ty.cons (Ty.int IntKind.i64) Ty.unit)))) (g10_0 x1) Bool.false Option.none Option.none)]
def E3_36 (v37 : Int) (x0 : List Int) : Env := [(32, PV.a (Atom.osl 0 Option.none)), (33, PV.a (Atom.osl 1 Option.none)), (34, PV.a (Atom.val (Value.int IntKind.i64 (g14_2 x0)))), (35, PV.a (Atom.osl 2 Option.none)), (37, PV.a (Atom.val (Value.int IntKind.i64 v37)))]
def L3_36 (v37 : Int) (x0 : List Int) : Heap := [Option.some (Arr.mk (Ty.cons Ty.str (Ty.cons (Ty.int IntKind.i64) (Ty.cons (Ty.int IntKind.i64) (Ty.cons (Ty.int IntKind.i64) Ty.unit)))) (g14_0 x0) Bool.false Option.none Option.none), Option.some (Arr.mk (Ty.cons Ty.str (Ty.cons (Ty.int IntKind.i64) (Ty.cons (Ty.int IntKind.i64) Ty.unit))) (g14_1 x0) Bool.false Option.none Option.none), Option.some (Arr.mk (Ty.int IntKind.i64) (g15_0 (g14_0 x0) (g14_1 x0) (g14_2 x0)) Bool.false Option.none Option.none)]
def E3_38 (x0 : List Int) (v37 : Int) : Env := [(32, PV.a (Atom.osl 0 Option.none)), (33, PV.a (Atom.osl 1 Option.none)), (34, PV.a (Atom.val (Value.int IntKind.i64 (g14_2 x0)))), (35, PV.a (Atom.osl 2 Option.none)), (37, PV.a (Atom.val (Value.int IntKind.i64 v37)))]
def L3_38 (x0 : List Int) (v37 : Int) : Heap := [Option.some (Arr.mk (Ty.cons Ty.str (Ty.cons (Ty.int IntKind.i64) (Ty.cons (Ty.int IntKind.i64) (Ty.cons (Ty.int IntKind.i64) Ty.unit)))) (g14_0 x0) Bool.false Option.none Option.none), Option.some (Arr.mk (Ty.cons Ty.str (Ty.cons (Ty.int IntKind.i64) (Ty.cons (Ty.int IntKind.i64) Ty.unit))) (g14_1 x0) Bool.false Option.none Option.none), Option.some (Arr.mk (Ty.int IntKind.i64) (g15_0 (g14_0 x0) (g14_1 x0) (g14_2 x0)) Bool.false Option.none Option.none)]
def E3_40 (v38 : Bool) (v39 : Int) (x0 : List Int) (v37 : Int) : Env := [(32, PV.a (Atom.osl 0 Option.none)), (33, PV.a (Atom.osl 1 Option.none)), (34, PV.a (Atom.val (Value.int IntKind.i64 (g14_2 x0)))), (35, PV.a (Atom.osl 2 Option.none)), (37, PV.a (Atom.val (Value.int IntKind.i64 v37))), (38, PV.a (Atom.val (Value.bool v38))), (39, PV.a (Atom.val (Value.int IntKind.i64 v39)))]
def L3_40 (v38 : Bool) (v39 : Int) (x0 : List Int) (v37 : Int) : Heap := [Option.some (Arr.mk (Ty.cons Ty.str (Ty.cons (Ty.int IntKind.i64) (Ty.cons (Ty.int IntKind.i64) (Ty.cons (Ty.int IntKind.i64) Ty.unit)))) (g14_0 x0) Bool.false Option.none Option.none), Option.some (Arr.mk (Ty.cons Ty.str (Ty.cons (Ty.int IntKind.i64) (Ty.cons (Ty.int IntKind.i64) Ty.unit))) (g14_1 x0) Bool.false Option.none Option.none), Option.some (Arr.mk (Ty.int IntKind.i64) (g15_0 (g14_0 x0) (g14_1 x0) (g14_2 x0)) Bool.false Option.none Option.none)]
def E3_42 (x0 : List Int) (v37 : Int) (v38 : Bool) (v39 : Int) : Env := [(32, PV.a (Atom.osl 0 Option.none)), (33, PV.a (Atom.osl 1 Option.none)), (34, PV.a (Atom.val (Value.int IntKind.i64 (g14_2 x0)))), (35, PV.a (Atom.osl 2 Option.none)), (37, PV.a (Atom.val (Value.int IntKind.i64 v37))), (38, PV.a (Atom.val (Value.bool v38))), (39, PV.a (Atom.val (Value.int IntKind.i64 v39)))]
def L3_42 (x0 : List Int) (v37 : Int) (v38 : Bool) (v39 : Int) : Heap := [Option.some (Arr.mk (Ty.cons Ty.str (Ty.cons (Ty.int IntKind.i64) (Ty.cons (Ty.int IntKind.i64) (Ty.cons (Ty.int IntKind.i64) Ty.unit)))) (g14_0 x0) Bool.false Option.none Option.none), Option.some (Arr.mk (Ty.cons Ty.str (Ty.cons (Ty.int IntKind.i64) (Ty.cons (Ty.int IntKind.i64) Ty.unit))) (g14_1 x0) Bool.false Option.none Option.none), Option.some (Arr.mk (Ty.int IntKind.i64) (g15_0 (g14_0 x0) (g14_1 x0) (g14_2 x0)) Bool.false Option.none Option.none)]
def E3_37 (x0 : List Int) (v37 : Int) : Env := [(32, PV.a (Atom.osl 0 Option.none)), (33, PV.a (Atom.osl 1 Option.none)), (34, PV.a (Atom.val (Value.int IntKind.i64 (g14_2 x0)))), (35, PV.a (Atom.osl 2 Option.none)), (37, PV.a (Atom.val (Value.int IntKind.i64 v37)))]
def L3_37 (x0 : List Int) (v37 : Int) : Heap := [Option.some (Arr.mk (Ty.cons Ty.str (Ty.cons (Ty.int IntKind.i64) (Ty.cons (Ty.int IntKind.i64) (Ty.cons (Ty.int IntKind.i64) Ty.unit)))) (g14_0 x0) Bool.false Option.none Option.none), Option.some (Arr.mk (Ty.cons Ty.str (Ty.cons (Ty.int IntKind.i64) (Ty.cons (Ty.int IntKind.i64) Ty.unit))) (g14_1 x0) Bool.false Option.none Option.none), Option.some (Arr.mk (Ty.int IntKind.i64) (g15_0 (g14_0 x0) (g14_1 x0) (g14_2 x0)) Bool.false Option.none Option.none)]
def E3_41 (v38 : Bool) (x0 : List Int) (v37 : Int) (v39 : Int) : Env := [(32, PV.a (Atom.osl 0 Option.none)), (33, PV.a (Atom.osl 1 Option.none)), (34, PV.a (Atom.val (Value.int IntKind.i64 (g14_2 x0)))), (35, PV.a (Atom.osl 2 Option.none)), (37, PV.a (Atom.val (Value.int IntKind.i64 v37))), (38, PV.a (Atom.val (Value.bool v38))), (39, PV.a (Atom.val (Value.int IntKind.i64 v39)))]
def L3_41 (v38 : Bool) (x0 : List Int) (v37 : Int) (v39 : Int) : Heap := [Option.some (Arr.mk (Ty.cons Ty.str (Ty.cons (Ty.int IntKind.i64) (Ty.cons (Ty.int IntKind.i64) (Ty.cons (Ty.int IntKind.i64) Ty.unit)))) (g14_0 x0) Bool.false Option.none Option.none), Option.some (Arr.mk (Ty.cons Ty.str (Ty.cons (Ty.int IntKind.i64) (Ty.cons (Ty.int IntKind.i64) Ty.unit))) (g14_1 x0) Bool.false Option.none Option.none), Option.some (Arr.mk (Ty.int IntKind.i64) (g15_0 (g14_0 x0) (g14_1 x0) (g14_2 x0)) Bool.false Option.none Option.none)]
mutual
def R3 : Nat → List Int → List Int → List Dyn → Prop
  | 0, _, _, _ => False
  | n + 1, x0, x1, ds => (if (g4_0 x0) = true then (ds = [Dyn.mk Ty.bool Bool.true]) else (if (g4_0 x1) = true then (ds = [Dyn.mk Ty.bool Bool.true]) else (R3_3 n (x0) (x1) ds)))
def R3_3 : Nat → List Int → List Int → List Dyn → Prop
  | 0, _, _, _ => False
  | n + 1, x0, x1, ds => ((P5 x0) ∧ ((P6 (g5_0 x0) (g5_1 x0) (g5_2 x0)) ∧ ((P7 (g5_0 x0) (g5_1 x0) (g5_2 x0)) ∧ (if (g7_1 (g5_0 x0) (g5_1 x0) (g5_2 x0) == 0) = true then (if (!(g6_1 (g5_0 x0) (g5_1 x0) (g5_2 x0) == 0) == Decidable.decide (g7_0 (g5_0 x0) (g5_1 x0) (g5_2 x0) > 0)) = true then (ds = [Dyn.mk Ty.bool Bool.false]) else (if (Decidable.decide (g7_0 (g5_0 x0) (g5_1 x0) (g5_2 x0) < 0)) = true then (ds = [Dyn.mk Ty.bool Bool.false]) else (R3_8 n (x0) (x1) ds))) else (if (!(g6_1 (g5_0 x0) (g5_1 x0) (g5_2 x0) == 0) == Bool.false) = true then (ds = [Dyn.mk Ty.bool Bool.false]) else (if (Decidable.decide (g7_0 (g5_0 x0) (g5_1 x0) (g5_2 x0) < 0)) = true then (ds = [Dyn.mk Ty.bool Bool.false]) else (R3_8 n (x0) (x1) ds)))))))
def R3_8 : Nat → List Int → List Int → List Dyn → Prop
  | 0, _, _, _ => False
  | n + 1, x0, x1, ds => (if (g6_1 (g5_0 x0) (g5_1 x0) (g5_2 x0) == 0) = true then ((P7 (g5_0 x0) (g6_0 (g5_0 x0) (g5_1 x0) (g5_2 x0)) (g5_2 x0)) ∧ ((P9 (g5_1 x0)) ∧ ((P8 (g9_0 (g5_1 x0))) ∧ ((InR IntKind.i64 (Prod.fst (Prod.snd (Prod.snd (g5_1 x0))) + 1)) ∧ (if (Prod.fst (Prod.snd (Prod.snd (g6_0 (g5_0 x0) (g5_1 x0) (g5_2 x0)))) != Prod.fst (Prod.snd (Prod.snd (g5_1 x0))) + 1) = true then (ds = [Dyn.mk Ty.bool Bool.false]) else (if (!ByteArray.toList (Prod.fst (g6_0 (g5_0 x0) (g5_1 x0) (g5_2 x0))) == ByteArray.toList (Prod.fst (g5_1 x0))) = true then (ds = [Dyn.mk Ty.bool Bool.false]) else (if (Prod.fst (Prod.snd (g6_0 (g5_0 x0) (g5_1 x0) (g5_2 x0))) != Prod.fst (Prod.snd (g5_1 x0))) = true then (ds = [Dyn.mk Ty.bool Bool.false]) else (if (g7_1 (g5_0 x0) (g6_0 (g5_0 x0) (g5_1 x0) (g5_2 x0)) (g5_2 x0) != 0) = true then (ds = [Dyn.mk Ty.bool Bool.false]) else ((InR IntKind.i64 (g7_0 (g5_0 x0) (g5_1 x0) (g5_2 x0) - 1)) ∧ (if (g7_0 (g5_0 x0) (g6_0 (g5_0 x0) (g5_1 x0) (g5_2 x0)) (g5_2 x0) != g7_0 (g5_0 x0) (g5_1 x0) (g5_2 x0) - 1) = true then (ds = [Dyn.mk Ty.bool Bool.false]) else (if (!g8_1 (g9_0 (g5_1 x0))) = true then (ds = [Dyn.mk Ty.bool Bool.false]) else (if (!eqD (Ty.cons Ty.str (Ty.cons (Ty.int IntKind.i64) (Ty.cons (Ty.int IntKind.i64) Ty.unit))) (g8_0 (g9_0 (g5_1 x0))) (g5_1 x0)) = true then (ds = [Dyn.mk Ty.bool Bool.false]) else (R3_13 n (x0) (x1) ds))))))))))))) else (R3_13 n (x0) (x1) ds))
def R3_13 : Nat → List Int → List Int → List Dyn → Prop
  | 0, _, _, _ => False
  | n + 1, x0, x1, ds => ((P10 x1) ∧ ((P11 (g10_0 x1) (g10_1 x1) (g10_2 x1) (g10_3 x1) (g10_4 x1)) ∧ ((P12 (g10_0 x1) (g10_1 x1)) ∧ (if (g11_1 (g10_0 x1) (g10_1 x1) (g10_2 x1) (g10_3 x1) (g10_4 x1) == 0) = true then ((P11 (g10_0 x1) (g10_1 x1) (g10_2 x1) 0 (g10_4 x1)) ∧ ((P11 (g10_0 x1) (g10_1 x1) 0 (g10_3 x1) (g10_4 x1)) ∧ ((P13 (g10_0 x1) (g10_1 x1) (g10_2 x1) 100 0) ∧ (if (g12_1 (g10_0 x1) (g10_1 x1) != 0) = true then (ds = [Dyn.mk Ty.bool Bool.false]) else (if (Decidable.decide (g12_0 (g10_0 x1) (g10_1 x1) < 0)) = true then (ds = [Dyn.mk Ty.bool Bool.false]) else (if (g11_1 (g10_0 x1) (g10_1 x1) (g10_2 x1) 0 (g10_4 x1) != 0) = true then (ds = [Dyn.mk Ty.bool Bool.false]) else (if (g11_1 (g10_0 x1) (g10_1 x1) 0 (g10_3 x1) (g10_4 x1) != 0) = true then (ds = [Dyn.mk Ty.bool Bool.false]) else ((InR IntKind.i64 (g11_0 (g10_0 x1) (g10_1 x1) (g10_2 x1) 0 (g10_4 x1) + g11_0 (g10_0 x1) (g10_1 x1) 0 (g10_3 x1) (g10_4 x1))) ∧ (if (g11_0 (g10_0 x1) (g10_1 x1) (g10_2 x1) 0 (g10_4 x1) + g11_0 (g10_0 x1) (g10_1 x1) 0 (g10_3 x1) (g10_4 x1) != g11_0 (g10_0 x1) (g10_1 x1) (g10_2 x1) (g10_3 x1) (g10_4 x1)) = true then (ds = [Dyn.mk Ty.bool Bool.false]) else (if (g13_1 (g10_0 x1) (g10_1 x1) (g10_2 x1) 100 0 != 0) = true then (ds = [Dyn.mk Ty.bool Bool.false]) else (if (g13_0 (g10_0 x1) (g10_1 x1) (g10_2 x1) 100 0 != g11_0 (g10_0 x1) (g10_1 x1) (g10_2 x1) 0 (g10_4 x1)) = true then (ds = [Dyn.mk Ty.bool Bool.false]) else (R3_22 n (x0) (x1) ds)))))))))))) else (if (g11_0 (g10_0 x1) (g10_1 x1) (g10_2 x1) (g10_3 x1) (g10_4 x1) != 0) = true then (ds = [Dyn.mk Ty.bool Bool.false]) else (R3_29 n (x0) ds))))))
def R3_22 : Nat → List Int → List Int → List Dyn → Prop
  | 0, _, _, _ => False
  | n + 1, x0, x1, ds => (R3_23 n (0) (x0) (x1) ds)
def R3_29 : Nat → List Int → List Dyn → Prop
  | 0, _, _ => False
  | n + 1, x0, ds => ((P14 x0) ∧ ((P15 (g14_0 x0) (g14_1 x0) (g14_2 x0)) ∧ (if (g15_1 (g14_0 x0) (g14_1 x0) (g14_2 x0) != 0) = true then (ds = [Dyn.mk Ty.bool ((↑(List.length (g15_0 (g14_0 x0) (g14_1 x0) (g14_2 x0))) : Int) == 0)]) else (R3_33 n (x0) ds))))
def R3_23 : Nat → Int → List Int → List Int → List Dyn → Prop
  | 0, _, _, _, _ => False
  | n + 1, v31, x0, x1, ds => (if (Decidable.decide (v31 < (↑(List.length (g10_0 x1)) : Int))) = true then (R3_25 n (x0) (x1) (v31) ds) else (R3_29 n (x0) ds))
def R3_33 : Nat → List Int → List Dyn → Prop
  | 0, _, _ => False
  | n + 1, x0, ds => (if (!g16_0 (g15_0 (g14_0 x0) (g14_1 x0) (g14_2 x0)) (↑(List.length (g14_1 x0)) : Int)) = true then (ds = [Dyn.mk Ty.bool Bool.false]) else (R3_35 n (x0) ds))
def R3_25 : Nat → List Int → List Int → Int → List Dyn → Prop
  | 0, _, _, _, _ => False
  | n + 1, x0, x1, v31, ds => ((0 ≤ v31) ∧ (v31 < (↑(List.length (g10_0 x1)) : Int)) ∧ (if (ByteArray.toList (Prod.fst (List.getD (g10_0 x1) (Int.toNat v31) (ByteArray.empty, 0, 0, 0, ()))) == ByteArray.toList (g10_1 x1)) = true then ((0 ≤ v31) ∧ (v31 < (↑(List.length (g10_0 x1)) : Int)) ∧ ((InR IntKind.i64 (g10_2 x1 * Prod.fst (Prod.snd (List.getD (g10_0 x1) (Int.toNat v31) (ByteArray.empty, 0, 0, 0, ()))))) ∧ (if (g11_0 (g10_0 x1) (g10_1 x1) (g10_2 x1) 0 (g10_4 x1) != g10_2 x1 * Prod.fst (Prod.snd (List.getD (g10_0 x1) (Int.toNat v31) (ByteArray.empty, 0, 0, 0, ())))) = true then (ds = [Dyn.mk Ty.bool Bool.false]) else ((0 ≤ v31) ∧ (v31 < (↑(List.length (g10_0 x1)) : Int)) ∧ ((InR IntKind.i64 (g12_0 (g10_0 x1) (g10_1 x1) * Prod.fst (Prod.snd (Prod.snd (List.getD (g10_0 x1) (Int.toNat v31) (ByteArray.empty, 0, 0, 0, ())))))) ∧ ((0 ≤ v31) ∧ (v31 < (↑(List.length (g10_0 x1)) : Int)) ∧ (if (Decidable.decide (g12_0 (g10_0 x1) (g10_1 x1) * Prod.fst (Prod.snd (Prod.snd (List.getD (g10_0 x1) (Int.toNat v31) (ByteArray.empty, 0, 0, 0, ())))) < Prod.fst (Prod.snd (List.getD (g10_0 x1) (Int.toNat v31) (ByteArray.empty, 0, 0, 0, ()))))) = true then (ds = [Dyn.mk Ty.bool Bool.false]) else ((InR IntKind.i64 (g12_0 (g10_0 x1) (g10_1 x1) - 1)) ∧ ((0 ≤ v31) ∧ (v31 < (↑(List.length (g10_0 x1)) : Int)) ∧ ((InR IntKind.i64 ((g12_0 (g10_0 x1) (g10_1 x1) - 1) * Prod.fst (Prod.snd (Prod.snd (List.getD (g10_0 x1) (Int.toNat v31) (ByteArray.empty, 0, 0, 0, ())))))) ∧ ((0 ≤ v31) ∧ (v31 < (↑(List.length (g10_0 x1)) : Int)) ∧ (if (Decidable.decide ((g12_0 (g10_0 x1) (g10_1 x1) - 1) * Prod.fst (Prod.snd (Prod.snd (List.getD (g10_0 x1) (Int.toNat v31) (ByteArray.empty, 0, 0, 0, ())))) ≥ Prod.fst (Prod.snd (List.getD (g10_0 x1) (Int.toNat v31) (ByteArray.empty, 0, 0, 0, ()))))) = true then (if (Decidable.decide (g12_0 (g10_0 x1) (g10_1 x1) > 0)) = true then (ds = [Dyn.mk Ty.bool Bool.false]) else (R3_24 n (x0) (x1) (v31) ds)) else (R3_24 n (x0) (x1) (v31) ds))))))))))))) else (R3_24 n (x0) (x1) (v31) ds)))
def R3_35 : Nat → List Int → List Dyn → Prop
  | 0, _, _ => False
  | n + 1, x0, ds => (R3_36 n (0) (x0) ds)
def R3_24 : Nat → List Int → List Int → Int → List Dyn → Prop
  | 0, _, _, _, _ => False
  | n + 1, x0, x1, v31, ds => ((InR IntKind.i64 (v31 + 1)) ∧ (R3_23 n (v31 + 1) (x0) (x1) ds))
def R3_36 : Nat → Int → List Int → List Dyn → Prop
  | 0, _, _, _ => False
  | n + 1, v37, x0, ds => (if (Decidable.decide (v37 < (↑(List.length (g14_1 x0)) : Int))) = true then (R3_38 n (x0) (v37) ds) else (ds = [Dyn.mk Ty.bool Bool.true]))
def R3_38 : Nat → List Int → Int → List Dyn → Prop
  | 0, _, _, _ => False
  | n + 1, x0, v37, ds => (R3_40 n (Bool.false) (0) (x0) (v37) ds)
def R3_40 : Nat → Bool → Int → List Int → Int → List Dyn → Prop
  | 0, _, _, _, _, _ => False
  | n + 1, v38, v39, x0, v37, ds => (if (Decidable.decide (v39 < (↑(List.length (g14_0 x0)) : Int))) = true then (R3_42 n (x0) (v37) (v38) (v39) ds) else (if (!g17_0 (g15_0 (g14_0 x0) (g14_1 x0) (g14_2 x0)) v37 == v38) = true then (ds = [Dyn.mk Ty.bool Bool.false]) else (R3_37 n (x0) (v37) ds)))
def R3_42 : Nat → List Int → Int → Bool → Int → List Dyn → Prop
  | 0, _, _, _, _, _ => False
  | n + 1, x0, v37, v38, v39, ds => ((0 ≤ v39) ∧ (v39 < (↑(List.length (g14_0 x0)) : Int)) ∧ ((0 ≤ v37) ∧ (v37 < (↑(List.length (g14_1 x0)) : Int)) ∧ (if (ByteArray.toList (Prod.fst (List.getD (g14_0 x0) (Int.toNat v39) (ByteArray.empty, 0, 0, 0, ()))) == ByteArray.toList (Prod.fst (List.getD (g14_1 x0) (Int.toNat v37) (ByteArray.empty, 0, 0, ())))) = true then ((0 ≤ v37) ∧ (v37 < (↑(List.length (g14_1 x0)) : Int)) ∧ ((0 ≤ v39) ∧ (v39 < (↑(List.length (g14_0 x0)) : Int)) ∧ (if (Decidable.decide (Prod.fst (Prod.snd (Prod.snd (List.getD (g14_1 x0) (Int.toNat v37) (ByteArray.empty, 0, 0, ())))) < Prod.fst (Prod.snd (Prod.snd (List.getD (g14_0 x0) (Int.toNat v39) (ByteArray.empty, 0, 0, 0, ())))))) = true then ((0 ≤ v37) ∧ (v37 < (↑(List.length (g14_1 x0)) : Int)) ∧ ((InR IntKind.i64 (g14_2 x0 - Prod.fst (Prod.snd (List.getD (g14_1 x0) (Int.toNat v37) (ByteArray.empty, 0, 0, ()))))) ∧ ((0 ≤ v39) ∧ (v39 < (↑(List.length (g14_0 x0)) : Int)) ∧ (R3_41 n (Decidable.decide (g14_2 x0 - Prod.fst (Prod.snd (List.getD (g14_1 x0) (Int.toNat v37) (ByteArray.empty, 0, 0, ()))) ≥ Prod.fst (Prod.snd (Prod.snd (Prod.snd (List.getD (g14_0 x0) (Int.toNat v39) (ByteArray.empty, 0, 0, 0, ()))))))) (x0) (v37) (v39) ds)))) else (R3_41 n (Bool.false) (x0) (v37) (v39) ds)))) else (R3_41 n (v38) (x0) (v37) (v39) ds))))
def R3_37 : Nat → List Int → Int → List Dyn → Prop
  | 0, _, _, _ => False
  | n + 1, x0, v37, ds => ((InR IntKind.i64 (v37 + 1)) ∧ (R3_36 n (v37 + 1) (x0) ds))
def R3_41 : Nat → Bool → List Int → Int → Int → List Dyn → Prop
  | 0, _, _, _, _, _ => False
  | n + 1, v38, x0, v37, v39, ds => ((InR IntKind.i64 (v39 + 1)) ∧ (R3_40 n (v38) (v39 + 1) (x0) (v37) ds))
end
theorem snd3 : ∀ n, (∀ (x0 : List Int) (x1 : List Int) ds, R3 n x0 x1 ds → ∀ K q, AtV Tryz.prog 3 (PostR kds3 oks3 ds [] [] q K) 349 K q [] [.code b3] (entE 0 0 sig3 (x0, x1, ())) (entL sig3 (x0, x1, ()))) ∧ (∀ (x0 : List Int) (x1 : List Int) ds, R3_3 n x0 x1 ds → ∀ K q, AtV Tryz.prog 3 (PostR kds3 oks3 ds [] [] q K) 349 K q [] (cutAt b3 3) (E3_3 x0 x1) (L3_3 x0 x1)) ∧ (∀ (x0 : List Int) (x1 : List Int) ds, R3_8 n x0 x1 ds → ∀ K q, AtV Tryz.prog 3 (PostR kds3 oks3 ds [] [] q K) 349 K q [] (cutAt b3 8) (E3_8 x0 x1) (L3_8 x0 x1)) ∧ (∀ (x0 : List Int) (x1 : List Int) ds, R3_13 n x0 x1 ds → ∀ K q, AtV Tryz.prog 3 (PostR kds3 oks3 ds [] [] q K) 349 K q [] (cutAt b3 13) (E3_13 x0 x1) (L3_13 x0 x1)) ∧ (∀ (x0 : List Int) (x1 : List Int) ds, R3_22 n x0 x1 ds → ∀ K q, AtV Tryz.prog 3 (PostR kds3 oks3 ds [] [] q K) 349 K q [] (cutAt b3 22) (E3_22 x0 x1) (L3_22 x0 x1)) ∧ (∀ (x0 : List Int) ds, R3_29 n x0 ds → ∀ K q, AtV Tryz.prog 3 (PostR kds3 oks3 ds [] [] q K) 349 K q [] (cutAt b3 29) (E3_29 x0) (L3_29 x0)) ∧ (∀ (v31 : Int) (x0 : List Int) (x1 : List Int) ds, R3_23 n v31 x0 x1 ds → ∀ K q, AtV Tryz.prog 3 (PostR kds3 oks3 ds [] [] q K) 349 K q [] (cutAt b3 23) (E3_23 v31 x0 x1) (L3_23 v31 x0 x1)) ∧ (∀ (x0 : List Int) ds, R3_33 n x0 ds → ∀ K q, AtV Tryz.prog 3 (PostR kds3 oks3 ds [] [] q K) 349 K q [] (cutAt b3 33) (E3_33 x0) (L3_33 x0)) ∧ (∀ (x0 : List Int) (x1 : List Int) (v31 : Int) ds, R3_25 n x0 x1 v31 ds → ∀ K q, AtV Tryz.prog 3 (PostR kds3 oks3 ds [] [] q K) 349 K q [] (cutAt b3 25) (E3_25 x0 x1 v31) (L3_25 x0 x1 v31)) ∧ (∀ (x0 : List Int) ds, R3_35 n x0 ds → ∀ K q, AtV Tryz.prog 3 (PostR kds3 oks3 ds [] [] q K) 349 K q [] (cutAt b3 35) (E3_35 x0) (L3_35 x0)) ∧ (∀ (x0 : List Int) (x1 : List Int) (v31 : Int) ds, R3_24 n x0 x1 v31 ds → ∀ K q, AtV Tryz.prog 3 (PostR kds3 oks3 ds [] [] q K) 349 K q [] (cutAt b3 24) (E3_24 x0 x1 v31) (L3_24 x0 x1 v31)) ∧ (∀ (v37 : Int) (x0 : List Int) ds, R3_36 n v37 x0 ds → ∀ K q, AtV Tryz.prog 3 (PostR kds3 oks3 ds [] [] q K) 349 K q [] (cutAt b3 36) (E3_36 v37 x0) (L3_36 v37 x0)) ∧ (∀ (x0 : List Int) (v37 : Int) ds, R3_38 n x0 v37 ds → ∀ K q, AtV Tryz.prog 3 (PostR kds3 oks3 ds [] [] q K) 349 K q [] (cutAt b3 38) (E3_38 x0 v37) (L3_38 x0 v37)) ∧ (∀ (v38 : Bool) (v39 : Int) (x0 : List Int) (v37 : Int) ds, R3_40 n v38 v39 x0 v37 ds → ∀ K q, AtV Tryz.prog 3 (PostR kds3 oks3 ds [] [] q K) 349 K q [] (cutAt b3 40) (E3_40 v38 v39 x0 v37) (L3_40 v38 v39 x0 v37)) ∧ (∀ (x0 : List Int) (v37 : Int) (v38 : Bool) (v39 : Int) ds, R3_42 n x0 v37 v38 v39 ds → ∀ K q, AtV Tryz.prog 3 (PostR kds3 oks3 ds [] [] q K) 349 K q [] (cutAt b3 42) (E3_42 x0 v37 v38 v39) (L3_42 x0 v37 v38 v39)) ∧ (∀ (x0 : List Int) (v37 : Int) ds, R3_37 n x0 v37 ds → ∀ K q, AtV Tryz.prog 3 (PostR kds3 oks3 ds [] [] q K) 349 K q [] (cutAt b3 37) (E3_37 x0 v37) (L3_37 x0 v37)) ∧ (∀ (v38 : Bool) (x0 : List Int) (v37 : Int) (v39 : Int) ds, R3_41 n v38 x0 v37 v39 ds → ∀ K q, AtV Tryz.prog 3 (PostR kds3 oks3 ds [] [] q K) 349 K q [] (cutAt b3 41) (E3_41 v38 x0 v37 v39) (L3_41 v38 x0 v37 v39)) := by
  intro n
  induction n with
  | zero => exact ⟨fun _ _ _ h => by simp only [R3] at h, fun _ _ _ h => by simp only [R3_3] at h, fun _ _ _ h => by simp only [R3_8] at h, fun _ _ _ h => by simp only [R3_13] at h, fun _ _ _ h => by simp only [R3_22] at h, fun _ _ h => by simp only [R3_29] at h, fun _ _ _ _ h => by simp only [R3_23] at h, fun _ _ h => by simp only [R3_33] at h, fun _ _ _ _ h => by simp only [R3_25] at h, fun _ _ h => by simp only [R3_35] at h, fun _ _ _ _ h => by simp only [R3_24] at h, fun _ _ _ h => by simp only [R3_36] at h, fun _ _ _ h => by simp only [R3_38] at h, fun _ _ _ _ _ h => by simp only [R3_40] at h, fun _ _ _ _ _ h => by simp only [R3_42] at h, fun _ _ _ h => by simp only [R3_37] at h, fun _ _ _ _ _ h => by simp only [R3_41] at h⟩
  | succ n ih =>
  obtain ⟨ih, ih3, ih8, ih13, ih22, ih29, ih23, ih33, ih25, ih35, ih24, ih36, ih38, ih40, ih42, ih37, ih41⟩ := ih
  refine ⟨?_, ?_, ?_, ?_, ?_, ?_, ?_, ?_, ?_, ?_, ?_, ?_, ?_, ?_, ?_, ?_, ?_⟩
  · intro x0 x1 ds h K q
    rw [R3] at h
    by_cases b0 : (g4_0 x0) = true
    · rw [if_pos b0] at h
      subst h
      exact AtV.ret Tryz.func3 tabOk ext3Ok mixed false [3, 8, 13, 29, 22, 25, 24, 33, 35, 38, 37, 42, 41] tys3 [true, true] (a1 trivial (a1 b0 (a1 (rfl : Bool.true = Bool.true) trivial))) (by kernel_rfl)
    · rw [if_neg b0] at h
      replace b0 := Bool.eq_false_iff.2 b0
      by_cases b1 : (g4_0 x1) = true
      · rw [if_pos b1] at h
        subst h
        exact AtV.ret Tryz.func3 tabOk ext3Ok mixed false [3, 8, 13, 29, 22, 25, 24, 33, 35, 38, 37, 42, 41] tys3 [false, true] (a1 trivial (a1 b0 (a1 trivial (a1 b1 trivial)))) (by kernel_rfl)
      · rw [if_neg b1] at h
        replace b1 := Bool.eq_false_iff.2 b1
        exact AtV.go tabOk ext3Ok mixed false [3, 8, 13, 29, 22, 25, 24, 33, 35, 38, 37, 42, 41] [] [0, 1] [] [false, false] (a1 trivial (a1 b0 (a1 trivial (a1 b1 trivial)))) (ih3 _ _ _ h K q) (by kernel_rfl)

  · intro x0 x1 ds h K q
    rw [R3_3] at h
    obtain ⟨s0, h⟩ := h
    obtain ⟨s1, h⟩ := h
    obtain ⟨s2, h⟩ := h
    by_cases b0 : (g7_1 (g5_0 x0) (g5_1 x0) (g5_2 x0) == 0) = true
    · rw [if_pos b0] at h
      by_cases b1 : (!(g6_1 (g5_0 x0) (g5_1 x0) (g5_2 x0) == 0) == Decidable.decide (g7_0 (g5_0 x0) (g5_1 x0) (g5_2 x0) > 0)) = true
      · rw [if_pos b1] at h
        subst h
        exact AtV.ret Tryz.func3 tabOk ext3Ok mixed false [3, 8, 13, 29, 22, 25, 24, 33, 35, 38, 37, 42, 41] tys3 [true, true, true] (a1 s0 (a1 s1 (a1 s2 (a1 b0 (a1 b1 (a1 (rfl : Bool.true = Bool.true) trivial)))))) (by kernel_rfl)
      · rw [if_neg b1] at h
        replace b1 := Bool.eq_false_iff.2 b1
        by_cases b2 : (Decidable.decide (g7_0 (g5_0 x0) (g5_1 x0) (g5_2 x0) < 0)) = true
        · rw [if_pos b2] at h
          subst h
          exact AtV.ret Tryz.func3 tabOk ext3Ok mixed false [3, 8, 13, 29, 22, 25, 24, 33, 35, 38, 37, 42, 41] tys3 [true, false, true] (a1 s0 (a1 s1 (a1 s2 (a1 b0 (a1 b1 (a1 b2 trivial)))))) (by kernel_rfl)
        · rw [if_neg b2] at h
          replace b2 := Bool.eq_false_iff.2 b2
          exact AtV.go tabOk ext3Ok mixed false [3, 8, 13, 29, 22, 25, 24, 33, 35, 38, 37, 42, 41] [] [0, 1, 5, 6, 7, 8, 9, 10] [0, 1, 2] [true, false, false] (a1 s0 (a1 s1 (a1 s2 (a1 b0 (a1 b1 (a1 b2 trivial)))))) (ih8 _ _ _ h K q) (by kernel_rfl)
    · rw [if_neg b0] at h
      replace b0 := Bool.eq_false_iff.2 b0
      by_cases b1 : (!(g6_1 (g5_0 x0) (g5_1 x0) (g5_2 x0) == 0) == Bool.false) = true
      · rw [if_pos b1] at h
        subst h
        exact AtV.ret Tryz.func3 tabOk ext3Ok mixed false [3, 8, 13, 29, 22, 25, 24, 33, 35, 38, 37, 42, 41] tys3 [false, true, true] (a1 s0 (a1 s1 (a1 s2 (a1 b0 (a1 b1 (a1 (rfl : Bool.true = Bool.true) trivial)))))) (by kernel_rfl)
      · rw [if_neg b1] at h
        replace b1 := Bool.eq_false_iff.2 b1
        by_cases b2 : (Decidable.decide (g7_0 (g5_0 x0) (g5_1 x0) (g5_2 x0) < 0)) = true
        · rw [if_pos b2] at h
          subst h
          exact AtV.ret Tryz.func3 tabOk ext3Ok mixed false [3, 8, 13, 29, 22, 25, 24, 33, 35, 38, 37, 42, 41] tys3 [false, false, true] (a1 s0 (a1 s1 (a1 s2 (a1 b0 (a1 b1 (a1 b2 trivial)))))) (by kernel_rfl)
        · rw [if_neg b2] at h
          replace b2 := Bool.eq_false_iff.2 b2
          exact AtV.go tabOk ext3Ok mixed false [3, 8, 13, 29, 22, 25, 24, 33, 35, 38, 37, 42, 41] [] [0, 1, 5, 6, 7, 8, 9, 10] [0, 1, 2] [false, false, false] (a1 s0 (a1 s1 (a1 s2 (a1 b0 (a1 b1 (a1 b2 trivial)))))) (ih8 _ _ _ h K q) (by kernel_rfl)

  · intro x0 x1 ds h K q
    rw [R3_8] at h
    by_cases b0 : (g6_1 (g5_0 x0) (g5_1 x0) (g5_2 x0) == 0) = true
    · rw [if_pos b0] at h
      obtain ⟨s0, h⟩ := h
      obtain ⟨s1, h⟩ := h
      obtain ⟨s2, h⟩ := h
      obtain ⟨s3, h⟩ := h
      by_cases b1 : (Prod.fst (Prod.snd (Prod.snd (g6_0 (g5_0 x0) (g5_1 x0) (g5_2 x0)))) != Prod.fst (Prod.snd (Prod.snd (g5_1 x0))) + 1) = true
      · rw [if_pos b1] at h
        subst h
        exact AtV.ret Tryz.func3 tabOk ext3Ok mixed false [3, 8, 13, 29, 22, 25, 24, 33, 35, 38, 37, 42, 41] tys3 [true, true, true, true, true, true, true, true] (a1 b0 (a1 s0 (a1 s1 (a1 s2 (a1 s3 (a1 b1 (a1 (rfl : Bool.true = Bool.true) (a1 (rfl : Bool.true = Bool.true) (a1 (rfl : Bool.true = Bool.true) (a1 (rfl : Bool.true = Bool.true) (a1 (rfl : Bool.true = Bool.true) (a1 (rfl : Bool.true = Bool.true) trivial)))))))))))) (by kernel_rfl)
      · rw [if_neg b1] at h
        replace b1 := Bool.eq_false_iff.2 b1
        by_cases b2 : (!ByteArray.toList (Prod.fst (g6_0 (g5_0 x0) (g5_1 x0) (g5_2 x0))) == ByteArray.toList (Prod.fst (g5_1 x0))) = true
        · rw [if_pos b2] at h
          subst h
          exact AtV.ret Tryz.func3 tabOk ext3Ok mixed false [3, 8, 13, 29, 22, 25, 24, 33, 35, 38, 37, 42, 41] tys3 [true, false, true, true, true, true, true, true] (a1 b0 (a1 s0 (a1 s1 (a1 s2 (a1 s3 (a1 b1 (a1 b2 (a1 (rfl : Bool.true = Bool.true) (a1 (rfl : Bool.true = Bool.true) (a1 (rfl : Bool.true = Bool.true) (a1 (rfl : Bool.true = Bool.true) (a1 (rfl : Bool.true = Bool.true) trivial)))))))))))) (by kernel_rfl)
        · rw [if_neg b2] at h
          replace b2 := Bool.eq_false_iff.2 b2
          by_cases b3 : (Prod.fst (Prod.snd (g6_0 (g5_0 x0) (g5_1 x0) (g5_2 x0))) != Prod.fst (Prod.snd (g5_1 x0))) = true
          · rw [if_pos b3] at h
            subst h
            exact AtV.ret Tryz.func3 tabOk ext3Ok mixed false [3, 8, 13, 29, 22, 25, 24, 33, 35, 38, 37, 42, 41] tys3 [true, false, false, true, true, true, true, true] (a1 b0 (a1 s0 (a1 s1 (a1 s2 (a1 s3 (a1 b1 (a1 b2 (a1 b3 (a1 (rfl : Bool.true = Bool.true) (a1 (rfl : Bool.true = Bool.true) (a1 (rfl : Bool.true = Bool.true) (a1 (rfl : Bool.true = Bool.true) trivial)))))))))))) (by kernel_rfl)
          · rw [if_neg b3] at h
            replace b3 := Bool.eq_false_iff.2 b3
            by_cases b4 : (g7_1 (g5_0 x0) (g6_0 (g5_0 x0) (g5_1 x0) (g5_2 x0)) (g5_2 x0) != 0) = true
            · rw [if_pos b4] at h
              subst h
              exact AtV.ret Tryz.func3 tabOk ext3Ok mixed false [3, 8, 13, 29, 22, 25, 24, 33, 35, 38, 37, 42, 41] tys3 [true, false, false, false, true, true, true, true] (a1 b0 (a1 s0 (a1 s1 (a1 s2 (a1 s3 (a1 b1 (a1 b2 (a1 b3 (a1 b4 (a1 (rfl : Bool.true = Bool.true) (a1 (rfl : Bool.true = Bool.true) (a1 (rfl : Bool.true = Bool.true) trivial)))))))))))) (by kernel_rfl)
            · rw [if_neg b4] at h
              replace b4 := Bool.eq_false_iff.2 b4
              obtain ⟨s4, h⟩ := h
              by_cases b5 : (g7_0 (g5_0 x0) (g6_0 (g5_0 x0) (g5_1 x0) (g5_2 x0)) (g5_2 x0) != g7_0 (g5_0 x0) (g5_1 x0) (g5_2 x0) - 1) = true
              · rw [if_pos b5] at h
                subst h
                exact AtV.ret Tryz.func3 tabOk ext3Ok mixed false [3, 8, 13, 29, 22, 25, 24, 33, 35, 38, 37, 42, 41] tys3 [true, false, false, false, false, true, true, true] (a1 b0 (a1 s0 (a1 s1 (a1 s2 (a1 s3 (a1 b1 (a1 b2 (a1 b3 (a1 b4 (a1 s4 (a1 b5 (a1 (rfl : Bool.true = Bool.true) (a1 (rfl : Bool.true = Bool.true) trivial))))))))))))) (by kernel_rfl)
              · rw [if_neg b5] at h
                replace b5 := Bool.eq_false_iff.2 b5
                by_cases b6 : (!g8_1 (g9_0 (g5_1 x0))) = true
                · rw [if_pos b6] at h
                  subst h
                  exact AtV.ret Tryz.func3 tabOk ext3Ok mixed false [3, 8, 13, 29, 22, 25, 24, 33, 35, 38, 37, 42, 41] tys3 [true, false, false, false, false, false, true, true] (a1 b0 (a1 s0 (a1 s1 (a1 s2 (a1 s3 (a1 b1 (a1 b2 (a1 b3 (a1 b4 (a1 s4 (a1 b5 (a1 b6 (a1 (rfl : Bool.true = Bool.true) trivial))))))))))))) (by kernel_rfl)
                · rw [if_neg b6] at h
                  replace b6 := Bool.eq_false_iff.2 b6
                  by_cases b7 : (!eqD (Ty.cons Ty.str (Ty.cons (Ty.int IntKind.i64) (Ty.cons (Ty.int IntKind.i64) Ty.unit))) (g8_0 (g9_0 (g5_1 x0))) (g5_1 x0)) = true
                  · rw [if_pos b7] at h
                    subst h
                    exact AtV.ret Tryz.func3 tabOk ext3Ok mixed false [3, 8, 13, 29, 22, 25, 24, 33, 35, 38, 37, 42, 41] tys3 [true, false, false, false, false, false, false, true] (a1 b0 (a1 s0 (a1 s1 (a1 s2 (a1 s3 (a1 b1 (a1 b2 (a1 b3 (a1 b4 (a1 s4 (a1 b5 (a1 b6 (a1 b7 trivial))))))))))))) (by kernel_rfl)
                  · rw [if_neg b7] at h
                    replace b7 := Bool.eq_false_iff.2 b7
                    exact AtV.go tabOk ext3Ok mixed false [3, 8, 13, 29, 22, 25, 24, 33, 35, 38, 37, 42, 41] [] [0, 1] [] [true, false, false, false, false, false, false, false] (a1 b0 (a1 s0 (a1 s1 (a1 s2 (a1 s3 (a1 b1 (a1 b2 (a1 b3 (a1 b4 (a1 s4 (a1 b5 (a1 b6 (a1 b7 trivial))))))))))))) (ih13 _ _ _ h K q) (by kernel_rfl)
    · rw [if_neg b0] at h
      replace b0 := Bool.eq_false_iff.2 b0
      exact AtV.go tabOk ext3Ok mixed false [3, 8, 13, 29, 22, 25, 24, 33, 35, 38, 37, 42, 41] [] [0, 1] [] [false] (a1 b0 trivial) (ih13 _ _ _ h K q) (by kernel_rfl)

  · intro x0 x1 ds h K q
    rw [R3_13] at h
    obtain ⟨s0, h⟩ := h
    obtain ⟨s1, h⟩ := h
    obtain ⟨s2, h⟩ := h
    by_cases b0 : (g11_1 (g10_0 x1) (g10_1 x1) (g10_2 x1) (g10_3 x1) (g10_4 x1) == 0) = true
    · rw [if_pos b0] at h
      obtain ⟨s3, h⟩ := h
      obtain ⟨s4, h⟩ := h
      obtain ⟨s5, h⟩ := h
      by_cases b1 : (g12_1 (g10_0 x1) (g10_1 x1) != 0) = true
      · rw [if_pos b1] at h
        subst h
        exact AtV.ret Tryz.func3 tabOk ext3Ok mixed false [3, 8, 13, 29, 22, 25, 24, 33, 35, 38, 37, 42, 41] tys3 [true, true, true, true, true, true, true, true] (a1 s0 (a1 s1 (a1 s2 (a1 b0 (a1 s3 (a1 s4 (a1 s5 (a1 b1 (a1 (rfl : Bool.true = Bool.true) (a1 (rfl : Bool.true = Bool.true) (a1 (rfl : Bool.true = Bool.true) (a1 (rfl : Bool.true = Bool.true) (a1 (rfl : Bool.true = Bool.true) (a1 (rfl : Bool.true = Bool.true) trivial)))))))))))))) (by kernel_rfl)
      · rw [if_neg b1] at h
        replace b1 := Bool.eq_false_iff.2 b1
        by_cases b2 : (Decidable.decide (g12_0 (g10_0 x1) (g10_1 x1) < 0)) = true
        · rw [if_pos b2] at h
          subst h
          exact AtV.ret Tryz.func3 tabOk ext3Ok mixed false [3, 8, 13, 29, 22, 25, 24, 33, 35, 38, 37, 42, 41] tys3 [true, false, true, true, true, true, true, true] (a1 s0 (a1 s1 (a1 s2 (a1 b0 (a1 s3 (a1 s4 (a1 s5 (a1 b1 (a1 b2 (a1 (rfl : Bool.true = Bool.true) (a1 (rfl : Bool.true = Bool.true) (a1 (rfl : Bool.true = Bool.true) (a1 (rfl : Bool.true = Bool.true) (a1 (rfl : Bool.true = Bool.true) trivial)))))))))))))) (by kernel_rfl)
        · rw [if_neg b2] at h
          replace b2 := Bool.eq_false_iff.2 b2
          by_cases b3 : (g11_1 (g10_0 x1) (g10_1 x1) (g10_2 x1) 0 (g10_4 x1) != 0) = true
          · rw [if_pos b3] at h
            subst h
            exact AtV.ret Tryz.func3 tabOk ext3Ok mixed false [3, 8, 13, 29, 22, 25, 24, 33, 35, 38, 37, 42, 41] tys3 [true, false, false, true, true, true, true, true] (a1 s0 (a1 s1 (a1 s2 (a1 b0 (a1 s3 (a1 s4 (a1 s5 (a1 b1 (a1 b2 (a1 b3 (a1 (rfl : Bool.true = Bool.true) (a1 (rfl : Bool.true = Bool.true) (a1 (rfl : Bool.true = Bool.true) (a1 (rfl : Bool.true = Bool.true) trivial)))))))))))))) (by kernel_rfl)
          · rw [if_neg b3] at h
            replace b3 := Bool.eq_false_iff.2 b3
            by_cases b4 : (g11_1 (g10_0 x1) (g10_1 x1) 0 (g10_3 x1) (g10_4 x1) != 0) = true
            · rw [if_pos b4] at h
              subst h
              exact AtV.ret Tryz.func3 tabOk ext3Ok mixed false [3, 8, 13, 29, 22, 25, 24, 33, 35, 38, 37, 42, 41] tys3 [true, false, false, false, true, true, true, true] (a1 s0 (a1 s1 (a1 s2 (a1 b0 (a1 s3 (a1 s4 (a1 s5 (a1 b1 (a1 b2 (a1 b3 (a1 b4 (a1 (rfl : Bool.true = Bool.true) (a1 (rfl : Bool.true = Bool.true) (a1 (rfl : Bool.true = Bool.true) trivial)))))))))))))) (by kernel_rfl)
            · rw [if_neg b4] at h
              replace b4 := Bool.eq_false_iff.2 b4
              obtain ⟨s6, h⟩ := h
              by_cases b5 : (g11_0 (g10_0 x1) (g10_1 x1) (g10_2 x1) 0 (g10_4 x1) + g11_0 (g10_0 x1) (g10_1 x1) 0 (g10_3 x1) (g10_4 x1) != g11_0 (g10_0 x1) (g10_1 x1) (g10_2 x1) (g10_3 x1) (g10_4 x1)) = true
              · rw [if_pos b5] at h
                subst h
                exact AtV.ret Tryz.func3 tabOk ext3Ok mixed false [3, 8, 13, 29, 22, 25, 24, 33, 35, 38, 37, 42, 41] tys3 [true, false, false, false, false, true, true, true] (a1 s0 (a1 s1 (a1 s2 (a1 b0 (a1 s3 (a1 s4 (a1 s5 (a1 b1 (a1 b2 (a1 b3 (a1 b4 (a1 s6 (a1 b5 (a1 (rfl : Bool.true = Bool.true) (a1 (rfl : Bool.true = Bool.true) trivial))))))))))))))) (by kernel_rfl)
              · rw [if_neg b5] at h
                replace b5 := Bool.eq_false_iff.2 b5
                by_cases b6 : (g13_1 (g10_0 x1) (g10_1 x1) (g10_2 x1) 100 0 != 0) = true
                · rw [if_pos b6] at h
                  subst h
                  exact AtV.ret Tryz.func3 tabOk ext3Ok mixed false [3, 8, 13, 29, 22, 25, 24, 33, 35, 38, 37, 42, 41] tys3 [true, false, false, false, false, false, true, true] (a1 s0 (a1 s1 (a1 s2 (a1 b0 (a1 s3 (a1 s4 (a1 s5 (a1 b1 (a1 b2 (a1 b3 (a1 b4 (a1 s6 (a1 b5 (a1 b6 (a1 (rfl : Bool.true = Bool.true) trivial))))))))))))))) (by kernel_rfl)
                · rw [if_neg b6] at h
                  replace b6 := Bool.eq_false_iff.2 b6
                  by_cases b7 : (g13_0 (g10_0 x1) (g10_1 x1) (g10_2 x1) 100 0 != g11_0 (g10_0 x1) (g10_1 x1) (g10_2 x1) 0 (g10_4 x1)) = true
                  · rw [if_pos b7] at h
                    subst h
                    exact AtV.ret Tryz.func3 tabOk ext3Ok mixed false [3, 8, 13, 29, 22, 25, 24, 33, 35, 38, 37, 42, 41] tys3 [true, false, false, false, false, false, false, true] (a1 s0 (a1 s1 (a1 s2 (a1 b0 (a1 s3 (a1 s4 (a1 s5 (a1 b1 (a1 b2 (a1 b3 (a1 b4 (a1 s6 (a1 b5 (a1 b6 (a1 b7 trivial))))))))))))))) (by kernel_rfl)
                  · rw [if_neg b7] at h
                    replace b7 := Bool.eq_false_iff.2 b7
                    exact AtV.go tabOk ext3Ok mixed false [3, 8, 13, 29, 22, 25, 24, 33, 35, 38, 37, 42, 41] [] [0, 16, 17, 18, 23, 25] [0] [true, false, false, false, false, false, false, false] (a1 s0 (a1 s1 (a1 s2 (a1 b0 (a1 s3 (a1 s4 (a1 s5 (a1 b1 (a1 b2 (a1 b3 (a1 b4 (a1 s6 (a1 b5 (a1 b6 (a1 b7 trivial))))))))))))))) (ih22 _ _ _ h K q) (by kernel_rfl)
    · rw [if_neg b0] at h
      replace b0 := Bool.eq_false_iff.2 b0
      by_cases b1 : (g11_0 (g10_0 x1) (g10_1 x1) (g10_2 x1) (g10_3 x1) (g10_4 x1) != 0) = true
      · rw [if_pos b1] at h
        subst h
        exact AtV.ret Tryz.func3 tabOk ext3Ok mixed false [3, 8, 13, 29, 22, 25, 24, 33, 35, 38, 37, 42, 41] tys3 [false, true] (a1 s0 (a1 s1 (a1 s2 (a1 b0 (a1 b1 trivial))))) (by kernel_rfl)
      · rw [if_neg b1] at h
        replace b1 := Bool.eq_false_iff.2 b1
        exact AtV.go tabOk ext3Ok mixed false [3, 8, 13, 29, 22, 25, 24, 33, 35, 38, 37, 42, 41] [] [0] [] [false, false] (a1 s0 (a1 s1 (a1 s2 (a1 b0 (a1 b1 trivial))))) (ih29 _ _ h K q) (by kernel_rfl)

  · intro x0 x1 ds h K q
    rw [R3_22] at h
    exact AtV.go tabOk ext3Ok mixed false [3, 8, 13, 29, 22, 25, 24, 33, 35, 38, 37, 42, 41] [] [0, 16, 17, 18, 23, 25, 31] [0] [] trivial (ih23 _ _ _ _ h K q) (by kernel_rfl)

  · intro x0 ds h K q
    rw [R3_29] at h
    obtain ⟨s0, h⟩ := h
    obtain ⟨s1, h⟩ := h
    by_cases b0 : (g15_1 (g14_0 x0) (g14_1 x0) (g14_2 x0) != 0) = true
    · rw [if_pos b0] at h
      subst h
      exact AtV.ret Tryz.func3 tabOk ext3Ok mixed false [3, 8, 13, 29, 22, 25, 24, 33, 35, 38, 37, 42, 41] tys3 [true] (a1 s0 (a1 s1 (a1 b0 trivial))) (by kernel_rfl)
    · rw [if_neg b0] at h
      replace b0 := Bool.eq_false_iff.2 b0
      exact AtV.go tabOk ext3Ok mixed false [3, 8, 13, 29, 22, 25, 24, 33, 35, 38, 37, 42, 41] [] [32, 33, 34, 35] [0, 1, 2] [false] (a1 s0 (a1 s1 (a1 b0 trivial))) (ih33 _ _ h K q) (by kernel_rfl)

  · intro v31 x0 x1 ds h K q
    rw [R3_23] at h
    by_cases b0 : (Decidable.decide (v31 < (↑(List.length (g10_0 x1)) : Int))) = true
    · rw [if_pos b0] at h
      exact AtV.go tabOk ext3Ok mixed false [3, 8, 13, 29, 22, 25, 24, 33, 35, 38, 37, 42, 41] [] [0, 16, 17, 18, 23, 25, 31] [0] [true] (a1 b0 trivial) (ih25 _ _ _ _ h K q) (by kernel_rfl)
    · rw [if_neg b0] at h
      replace b0 := Bool.eq_false_iff.2 b0
      exact AtV.go tabOk ext3Ok mixed false [3, 8, 13, 29, 22, 25, 24, 33, 35, 38, 37, 42, 41] [] [0] [] [false] (a1 b0 trivial) (ih29 _ _ h K q) (by kernel_rfl)

  · intro x0 ds h K q
    rw [R3_33] at h
    by_cases b0 : (!g16_0 (g15_0 (g14_0 x0) (g14_1 x0) (g14_2 x0)) (↑(List.length (g14_1 x0)) : Int)) = true
    · rw [if_pos b0] at h
      subst h
      exact AtV.ret Tryz.func3 tabOk ext3Ok mixed false [3, 8, 13, 29, 22, 25, 24, 33, 35, 38, 37, 42, 41] tys3 [true] (a1 trivial (a1 b0 trivial)) (by kernel_rfl)
    · rw [if_neg b0] at h
      replace b0 := Bool.eq_false_iff.2 b0
      exact AtV.go tabOk ext3Ok mixed false [3, 8, 13, 29, 22, 25, 24, 33, 35, 38, 37, 42, 41] [] [32, 33, 34, 35] [0, 1, 2] [false] (a1 trivial (a1 b0 trivial)) (ih35 _ _ h K q) (by kernel_rfl)

  · intro x0 x1 v31 ds h K q
    rw [R3_25] at h
    obtain ⟨s0, s1, h⟩ := h
    by_cases b0 : (ByteArray.toList (Prod.fst (List.getD (g10_0 x1) (Int.toNat v31) (ByteArray.empty, 0, 0, 0, ()))) == ByteArray.toList (g10_1 x1)) = true
    · rw [if_pos b0] at h
      obtain ⟨s2, s3, h⟩ := h
      obtain ⟨s4, h⟩ := h
      by_cases b1 : (g11_0 (g10_0 x1) (g10_1 x1) (g10_2 x1) 0 (g10_4 x1) != g10_2 x1 * Prod.fst (Prod.snd (List.getD (g10_0 x1) (Int.toNat v31) (ByteArray.empty, 0, 0, 0, ())))) = true
      · rw [if_pos b1] at h
        subst h
        exact AtV.ret Tryz.func3 tabOk ext3Ok mixed false [3, 8, 13, 29, 22, 25, 24, 33, 35, 38, 37, 42, 41] tys3 [true, true, true, true] (a1 s0 (a1 s1 (a1 b0 (a1 s2 (a1 s3 (a1 s4 (a1 b1 (a1 (rfl : Bool.true = Bool.true) (a1 (rfl : Bool.true = Bool.true) trivial))))))))) (by kernel_rfl)
      · rw [if_neg b1] at h
        replace b1 := Bool.eq_false_iff.2 b1
        obtain ⟨s5, s6, h⟩ := h
        obtain ⟨s7, h⟩ := h
        obtain ⟨s8, s9, h⟩ := h
        by_cases b2 : (Decidable.decide (g12_0 (g10_0 x1) (g10_1 x1) * Prod.fst (Prod.snd (Prod.snd (List.getD (g10_0 x1) (Int.toNat v31) (ByteArray.empty, 0, 0, 0, ())))) < Prod.fst (Prod.snd (List.getD (g10_0 x1) (Int.toNat v31) (ByteArray.empty, 0, 0, 0, ()))))) = true
        · rw [if_pos b2] at h
          subst h
          exact AtV.ret Tryz.func3 tabOk ext3Ok mixed false [3, 8, 13, 29, 22, 25, 24, 33, 35, 38, 37, 42, 41] tys3 [true, false, true, true] (a1 s0 (a1 s1 (a1 b0 (a1 s2 (a1 s3 (a1 s4 (a1 b1 (a1 s5 (a1 s6 (a1 s7 (a1 s8 (a1 s9 (a1 b2 (a1 (rfl : Bool.true = Bool.true) trivial)))))))))))))) (by kernel_rfl)
        · rw [if_neg b2] at h
          replace b2 := Bool.eq_false_iff.2 b2
          obtain ⟨s10, h⟩ := h
          obtain ⟨s11, s12, h⟩ := h
          obtain ⟨s13, h⟩ := h
          obtain ⟨s14, s15, h⟩ := h
          by_cases b3 : (Decidable.decide ((g12_0 (g10_0 x1) (g10_1 x1) - 1) * Prod.fst (Prod.snd (Prod.snd (List.getD (g10_0 x1) (Int.toNat v31) (ByteArray.empty, 0, 0, 0, ())))) ≥ Prod.fst (Prod.snd (List.getD (g10_0 x1) (Int.toNat v31) (ByteArray.empty, 0, 0, 0, ()))))) = true
          · rw [if_pos b3] at h
            by_cases b4 : (Decidable.decide (g12_0 (g10_0 x1) (g10_1 x1) > 0)) = true
            · rw [if_pos b4] at h
              subst h
              exact AtV.ret Tryz.func3 tabOk ext3Ok mixed false [3, 8, 13, 29, 22, 25, 24, 33, 35, 38, 37, 42, 41] tys3 [true, false, false, true, true] (a1 s0 (a1 s1 (a1 b0 (a1 s2 (a1 s3 (a1 s4 (a1 b1 (a1 s5 (a1 s6 (a1 s7 (a1 s8 (a1 s9 (a1 b2 (a1 s10 (a1 s11 (a1 s12 (a1 s13 (a1 s14 (a1 s15 (a1 b3 (a1 b4 trivial))))))))))))))))))))) (by kernel_rfl)
            · rw [if_neg b4] at h
              replace b4 := Bool.eq_false_iff.2 b4
              exact AtV.go tabOk ext3Ok mixed false [3, 8, 13, 29, 22, 25, 24, 33, 35, 38, 37, 42, 41] [] [0, 16, 17, 18, 23, 25, 31] [0] [true, false, false, true, false] (a1 s0 (a1 s1 (a1 b0 (a1 s2 (a1 s3 (a1 s4 (a1 b1 (a1 s5 (a1 s6 (a1 s7 (a1 s8 (a1 s9 (a1 b2 (a1 s10 (a1 s11 (a1 s12 (a1 s13 (a1 s14 (a1 s15 (a1 b3 (a1 b4 trivial))))))))))))))))))))) (ih24 _ _ _ _ h K q) (by kernel_rfl)
          · rw [if_neg b3] at h
            replace b3 := Bool.eq_false_iff.2 b3
            exact AtV.go tabOk ext3Ok mixed false [3, 8, 13, 29, 22, 25, 24, 33, 35, 38, 37, 42, 41] [] [0, 16, 17, 18, 23, 25, 31] [0] [true, false, false, false, false] (a1 s0 (a1 s1 (a1 b0 (a1 s2 (a1 s3 (a1 s4 (a1 b1 (a1 s5 (a1 s6 (a1 s7 (a1 s8 (a1 s9 (a1 b2 (a1 s10 (a1 s11 (a1 s12 (a1 s13 (a1 s14 (a1 s15 (a1 b3 (a1 (rfl : Bool.false = Bool.false) trivial))))))))))))))))))))) (ih24 _ _ _ _ h K q) (by kernel_rfl)
    · rw [if_neg b0] at h
      replace b0 := Bool.eq_false_iff.2 b0
      exact AtV.go tabOk ext3Ok mixed false [3, 8, 13, 29, 22, 25, 24, 33, 35, 38, 37, 42, 41] [] [0, 16, 17, 18, 23, 25, 31] [0] [false, false] (a1 s0 (a1 s1 (a1 b0 (a1 (rfl : Bool.false = Bool.false) trivial)))) (ih24 _ _ _ _ h K q) (by kernel_rfl)

  · intro x0 ds h K q
    rw [R3_35] at h
    exact AtV.go tabOk ext3Ok mixed false [3, 8, 13, 29, 22, 25, 24, 33, 35, 38, 37, 42, 41] [] [32, 33, 34, 35, 37] [0, 1, 2] [] trivial (ih36 _ _ _ h K q) (by kernel_rfl)

  · intro x0 x1 v31 ds h K q
    rw [R3_24] at h
    obtain ⟨s0, h⟩ := h
    exact AtV.go tabOk ext3Ok mixed false [3, 8, 13, 29, 22, 25, 24, 33, 35, 38, 37, 42, 41] [] [0, 16, 17, 18, 23, 25, 31] [0] [] (a1 s0 trivial) (ih23 _ _ _ _ h K q) (by kernel_rfl)

  · intro v37 x0 ds h K q
    rw [R3_36] at h
    by_cases b0 : (Decidable.decide (v37 < (↑(List.length (g14_1 x0)) : Int))) = true
    · rw [if_pos b0] at h
      exact AtV.go tabOk ext3Ok mixed false [3, 8, 13, 29, 22, 25, 24, 33, 35, 38, 37, 42, 41] [] [32, 33, 34, 35, 37] [0, 1, 2] [true] (a1 b0 trivial) (ih38 _ _ _ h K q) (by kernel_rfl)
    · rw [if_neg b0] at h
      replace b0 := Bool.eq_false_iff.2 b0
      subst h
      exact AtV.ret Tryz.func3 tabOk ext3Ok mixed false [3, 8, 13, 29, 22, 25, 24, 33, 35, 38, 37, 42, 41] tys3 [false] (a1 b0 trivial) (by kernel_rfl)

  · intro x0 v37 ds h K q
    rw [R3_38] at h
    exact AtV.go tabOk ext3Ok mixed false [3, 8, 13, 29, 22, 25, 24, 33, 35, 38, 37, 42, 41] [] [32, 33, 34, 35, 37, 38, 39] [0, 1, 2] [] trivial (ih40 _ _ _ _ _ h K q) (by kernel_rfl)

  · intro v38 v39 x0 v37 ds h K q
    rw [R3_40] at h
    by_cases b0 : (Decidable.decide (v39 < (↑(List.length (g14_0 x0)) : Int))) = true
    · rw [if_pos b0] at h
      exact AtV.go tabOk ext3Ok mixed false [3, 8, 13, 29, 22, 25, 24, 33, 35, 38, 37, 42, 41] [] [32, 33, 34, 35, 37, 38, 39] [0, 1, 2] [true] (a1 b0 trivial) (ih42 _ _ _ _ _ h K q) (by kernel_rfl)
    · rw [if_neg b0] at h
      replace b0 := Bool.eq_false_iff.2 b0
      by_cases b1 : (!g17_0 (g15_0 (g14_0 x0) (g14_1 x0) (g14_2 x0)) v37 == v38) = true
      · rw [if_pos b1] at h
        subst h
        exact AtV.ret Tryz.func3 tabOk ext3Ok mixed false [3, 8, 13, 29, 22, 25, 24, 33, 35, 38, 37, 42, 41] tys3 [false, true] (a1 b0 (a1 trivial (a1 b1 trivial))) (by kernel_rfl)
      · rw [if_neg b1] at h
        replace b1 := Bool.eq_false_iff.2 b1
        exact AtV.go tabOk ext3Ok mixed false [3, 8, 13, 29, 22, 25, 24, 33, 35, 38, 37, 42, 41] [] [32, 33, 34, 35, 37] [0, 1, 2] [false, false] (a1 b0 (a1 trivial (a1 b1 trivial))) (ih37 _ _ _ h K q) (by kernel_rfl)

  · intro x0 v37 v38 v39 ds h K q
    rw [R3_42] at h
    obtain ⟨s0, s1, h⟩ := h
    obtain ⟨s2, s3, h⟩ := h
    by_cases b0 : (ByteArray.toList (Prod.fst (List.getD (g14_0 x0) (Int.toNat v39) (ByteArray.empty, 0, 0, 0, ()))) == ByteArray.toList (Prod.fst (List.getD (g14_1 x0) (Int.toNat v37) (ByteArray.empty, 0, 0, ())))) = true
    · rw [if_pos b0] at h
      obtain ⟨s4, s5, h⟩ := h
      obtain ⟨s6, s7, h⟩ := h
      by_cases b1 : (Decidable.decide (Prod.fst (Prod.snd (Prod.snd (List.getD (g14_1 x0) (Int.toNat v37) (ByteArray.empty, 0, 0, ())))) < Prod.fst (Prod.snd (Prod.snd (List.getD (g14_0 x0) (Int.toNat v39) (ByteArray.empty, 0, 0, 0, ())))))) = true
      · rw [if_pos b1] at h
        obtain ⟨s8, s9, h⟩ := h
        obtain ⟨s10, h⟩ := h
        obtain ⟨s11, s12, h⟩ := h
        exact AtV.go tabOk ext3Ok mixed false [3, 8, 13, 29, 22, 25, 24, 33, 35, 38, 37, 42, 41] [] [32, 33, 34, 35, 37, 38, 39] [0, 1, 2] [true, true] (a1 s0 (a1 s1 (a1 s2 (a1 s3 (a1 b0 (a1 s4 (a1 s5 (a1 s6 (a1 s7 (a1 b1 (a1 s8 (a1 s9 (a1 s10 (a1 s11 (a1 s12 trivial))))))))))))))) (ih41 _ _ _ _ _ h K q) (by kernel_rfl)
      · rw [if_neg b1] at h
        replace b1 := Bool.eq_false_iff.2 b1
        exact AtV.go tabOk ext3Ok mixed false [3, 8, 13, 29, 22, 25, 24, 33, 35, 38, 37, 42, 41] [] [32, 33, 34, 35, 37, 38, 39] [0, 1, 2] [true, false] (a1 s0 (a1 s1 (a1 s2 (a1 s3 (a1 b0 (a1 s4 (a1 s5 (a1 s6 (a1 s7 (a1 b1 trivial)))))))))) (ih41 _ _ _ _ _ h K q) (by kernel_rfl)
    · rw [if_neg b0] at h
      replace b0 := Bool.eq_false_iff.2 b0
      exact AtV.go tabOk ext3Ok mixed false [3, 8, 13, 29, 22, 25, 24, 33, 35, 38, 37, 42, 41] [] [32, 33, 34, 35, 37, 38, 39] [0, 1, 2] [false] (a1 s0 (a1 s1 (a1 s2 (a1 s3 (a1 b0 trivial))))) (ih41 _ _ _ _ _ h K q) (by kernel_rfl)

  · intro x0 v37 ds h K q
    rw [R3_37] at h
    obtain ⟨s0, h⟩ := h
    exact AtV.go tabOk ext3Ok mixed false [3, 8, 13, 29, 22, 25, 24, 33, 35, 38, 37, 42, 41] [] [32, 33, 34, 35, 37] [0, 1, 2] [] (a1 s0 trivial) (ih36 _ _ _ h K q) (by kernel_rfl)

  · intro v38 x0 v37 v39 ds h K q
    rw [R3_41] at h
    obtain ⟨s0, h⟩ := h
    exact AtV.go tabOk ext3Ok mixed false [3, 8, 13, 29, 22, 25, 24, 33, 35, 38, 37, 42, 41] [] [32, 33, 34, 35, 37, 38, 39] [0, 1, 2] [] (a1 s0 trivial) (ih40 _ _ _ _ _ h K q) (by kernel_rfl)



def g3_0 (x0 x1 : List Int) : Bool := true
def P3 (x0 x1 : List Int) : Prop := True
abbrev TKD3 : TKT := (ByteArray.empty, (0 : Int), (0 : Int), ())

theorem start3 {x : List Int} (hw : Wf (.sl (.int .u8)) x) : P19 (g18_0 x) ∧ SrcOk 1000 (u19_0 (g18_0 x)) := by
  have p : P19 (x, 0, 0, ()) := (src_start hw).up (by decide)
  exact ⟨p, (q19 _ p).1⟩

theorem use3 {x : List Int} (hw : Wf (.sl (.int .u8)) x) : P5 x := by
  obtain ⟨p1, s1⟩ := start3 hw
  obtain ⟨p2, s2⟩ := draw_ticket s1 (by decide)
  obtain ⟨p3, s3⟩ := one_ok s2 2 (by decide)
  have p4 := draw_dayF s3 (by decide)
  unfold P5
  refine ⟨p1, p2, p3, ?_⟩
  split
  · trivial
  · exact ⟨p4, trivial⟩

theorem grp3 {x : List Int} (hw : Wf (.sl (.int .u8)) x) : P10 x := by
  obtain ⟨p1, s1⟩ := start3 hw
  obtain ⟨p2, s2⟩ := draw_fid s1 (by decide)
  obtain ⟨p3, s3⟩ := draw_people s2 (by decide)
  obtain ⟨p4, s4⟩ := draw_people s3 (by decide)
  obtain ⟨p5, _⟩ := among_ok s4 [0, 333, 500, 1000, 1001, -1] (by decide) (by decide)
  exact ⟨p1, p2, p3, p4, p5, trivial⟩

theorem exp3 {x : List Int} (hw : Wf (.sl (.int .u8)) x) : P14 x ∧ (g14_1 x).length ≤ 200 := by
  obtain ⟨p1, s1⟩ := start3 hw
  have p2 : P41 (u19_0 (g18_0 x)) := s1.up (by decide)
  obtain ⟨s2, l2, _⟩ := q41 _ p2
  have h2 := s1.at_le
  have p3 := draw_dayF s2 (by omega)
  exact ⟨⟨p1, p2, p3, trivial⟩, l2⟩

theorem sold3 {l : List FRT} {s : List TKT} {b : Bool} (h : g42_0 l s b = 0) : g48_0 l = true ∧ b = true ∧ ∀ t ∈ s, g24_0 t = true ∧ g26_1 l t.1 = true := by
  unfold g42_0 g23_0 at h
  cases hv : g48_0 l with
  | false => rw [hv, if_pos (show (!false) = true from rfl)] at h; exact absurd h (by decide)
  | true =>
    rw [hv, if_neg (show ¬ (!true) = true by decide)] at h
    cases hb : (b && decide ((s.length : Int) ≤ 100) && s.all g24_0) with
    | false => rw [hb, if_pos (show (!false) = true from rfl)] at h; exact absurd h (by decide)
    | true =>
      rw [hb, if_neg (show ¬ (!true) = true by decide)] at h
      simp only [Bool.and_eq_true] at hb
      refine ⟨rfl, hb.1.1, fun t ht => ⟨List.all_eq_true.1 hb.2 t ht, ?_⟩⟩
      by_cases ha : ((s.map fun t => t.1).all fun y => g26_1 l y) = true
      · exact List.all_eq_true.1 ha t.1 (List.mem_map.2 ⟨t, ht, rfl⟩)
      · rw [if_neg ha] at h; exact absurd h (by decide)

theorem has3 (l : List FRT) (d : Int) : ∀ (s : List TKT) (k j : Nat), j < s.length → g17_0 (ex15 l d k s) ((k + j : Nat) : Int) = hit15 l d (s.getD j TKD3) ∧ ∀ m : Nat, m < k → g17_0 (ex15 l d k s) (m : Int) = false
  | [], k, j, hj => absurd hj (Nat.not_lt_zero _)
  | t :: r, k, j, hj => by
    have lowr : ∀ m : Nat, m < k + 1 → g17_0 (ex15 l d (k + 1) r) (m : Int) = false := fun m hm => by
      cases r with
      | nil => rfl
      | cons t2 r2 => exact (has3 l d (t2 :: r2) (k + 1) 0 (by simp)).2 m hm
    unfold ex15
    have spl : ∀ m : Int, g17_0 ((if hit15 l d t = true then [(k : Int)] else []) ++ ex15 l d (k + 1) r) m = ((hit15 l d t && ((k : Int) == m)) || g17_0 (ex15 l d (k + 1) r) m) := fun m => by
      unfold g17_0
      rw [List.any_append]
      congr 1
      cases hit15 l d t <;> simp
    refine ⟨?_, fun m hm => ?_⟩
    · rw [spl]
      cases j with
      | zero =>
        rw [lowr (k + 0) (by omega), List.getD_cons_zero, Nat.add_zero, beq_self_eq_true, Bool.and_true, Bool.or_false]
      | succ j =>
        have := (has3 l d r (k + 1) j (by simpa using hj)).1
        rw [show k + (j + 1) = k + 1 + j by omega, this, List.getD_cons_succ]
        have hne : (((k : Nat) : Int) == ((k + 1 + j : Nat) : Int)) = false := by rw [Bool.eq_false_iff, ne_eq, beq_iff_eq]; omega
        rw [hne, Bool.and_false, Bool.false_or]
    · rw [spl, lowr m (by omega)]
      have hne : (((k : Nat) : Int) == (m : Int)) = false := by rw [Bool.eq_false_iff, ne_eq, beq_iff_eq]; omega
      rw [hne, Bool.and_false, Bool.false_or]

theorem inc3 (l : List FRT) (d : Int) : ∀ (s : List TKT) (k : Nat), ∀ j, j < (ex15 l d k s).length → (k : Int) ≤ (ex15 l d k s).getD j 0 ∧ (ex15 l d k s).getD j 0 < ((k + s.length : Nat) : Int) ∧ (1 ≤ j → (ex15 l d k s).getD (j - 1) 0 < (ex15 l d k s).getD j 0)
  | [], k, j, hj => absurd hj (Nat.not_lt_zero _)
  | t :: r, k, j, hj => by
    have ih := inc3 l d r (k + 1)
    unfold ex15 at hj ⊢
    cases hh : hit15 l d t with
    | false =>
      rw [hh] at hj
      simp only [Bool.false_eq_true, if_false, List.nil_append, List.length_cons] at hj ⊢
      obtain ⟨a, b, c⟩ := ih j hj
      exact ⟨by omega, by omega, c⟩
    | true =>
      rw [hh] at hj
      simp only [if_true, List.cons_append, List.nil_append, List.length_cons] at hj ⊢
      cases j with
      | zero => exact ⟨by rw [List.getD_cons_zero]; omega, by rw [List.getD_cons_zero]; omega, fun h => absurd h (by decide)⟩
      | succ j =>
        obtain ⟨a, b, c⟩ := ih j (by omega)
        rw [List.getD_cons_succ]
        refine ⟨by omega, by omega, fun _ => ?_⟩
        rw [Nat.add_sub_cancel]
        cases j with
        | zero => rw [List.getD_cons_zero]; omega
        | succ j => rw [List.getD_cons_succ]; exact c (by omega)

theorem allI_of3 {p : Nat → Int → Bool} : ∀ (l : List Int) (k : Nat), (∀ i, i < l.length → p (k + i) (l.getD i 0) = true) → allI p k l = true
  | [], _, _ => rfl
  | x :: r, k, h => by
    rw [allI, Bool.and_eq_true]
    refine ⟨h 0 (by simp), allI_of3 r (k + 1) fun i hi => ?_⟩
    have := h (i + 1) (by simpa using hi)
    rw [List.getD_cons_succ, show k + (i + 1) = k + 1 + i by omega] at this
    exact this

theorem rises3 (l : List FRT) (d : Int) (s : List TKT) : g16_0 (ex15 l d 0 s) (s.length : Int) = true := by
  unfold g16_0
  refine allI_of3 _ 0 fun i hi => ?_
  obtain ⟨a, b, c⟩ := inc3 l d s 0 i hi
  rw [Nat.zero_add] at b ⊢
  unfold ok16
  have c1 : decide ((ex15 l d 0 s).getD i 0 < 0) = false := decide_eq_false (by omega)
  have c2 : decide ((ex15 l d 0 s).getD i 0 ≥ (s.length : Int)) = false := decide_eq_false (by omega)
  rw [c1, c2]
  cases i with
  | zero => rfl
  | succ i =>
    have c3 : decide ((ex15 l d 0 s).getD (i + 1 - 1) 0 ≥ (ex15 l d 0 s).getD (i + 1) 0) = false := decide_eq_false (by have := c (by omega); omega)
    rw [c3]
    rfl

theorem in3 (x0 : List Int) {l : List FRT} {sold : List TKT} {now : Int} (e0 : g14_0 x0 = l) (e1 : g14_1 x0 = sold) (e2 : g14_2 x0 = now) (i : Nat) (hi : i < sold.length) (t : TKT) (ht : sold.getD i TKD3 = t)
    (hv : g48_0 l = true) (F : FRT) (hF : F ∈ l) (hid : F.1 = t.1) (hr : 0 ≤ t.2.1 ∧ t.2.1 ≤ 36524) (hnow : 0 ≤ now ∧ now ≤ 36524) (W : Bool) (hW : W = (decide (t.2.2.1 < F.2.2.1) && decide (now - t.2.1 ≥ F.2.2.2.1)))
    (hb : g17_0 (g15_0 l sold now) (i : Int) = W) (C : Nat) (hn : R3_37 C x0 (i : Int) [⟨.bool, true⟩]) :
    ∀ (k j : Nat) (v : Bool), j + k = l.length → (((l.drop j).any fun f => ByteArray.toList f.1 == ByteArray.toList t.1) = false → v = W) → R3_40 (3 * k + C + 1) v (j : Int) x0 (i : Int) [⟨.bool, true⟩] := by
  have hl := (fares_all hv).1
  intro k
  induction k with
  | zero =>
    intro j v hj hvW
    have hvW := hvW (by rw [List.drop_of_length_le (by omega)]; rfl)
    subst hvW
    rw [show 3 * 0 + C + 1 = C + 1 by omega, R3_40, e0, e1, e2, if_neg (by simp only [decide_eq_true_eq]; omega), hb, if_neg (by simp)]
    exact hn
  | succ k ih =>
    intro j v hj hvW
    have hlt : j < l.length := by omega
    have e3 : (j : Int) + 1 = ((j + 1 : Nat) : Int) := by omega
    obtain ⟨f, hf⟩ : ∃ f, l.getD j FRD = f := ⟨_, rfl⟩
    have hfm := mem_getD l j FRD hlt
    rw [hf] at hfm
    have up : InR .i64 (((j + 1 : Nat) : Int)) := by rw [i64_iff]; omega
    rw [show 3 * (k + 1) + C + 1 = 3 * k + C + 1 + 1 + 1 + 1 by omega, R3_40, e0, if_pos (by simp only [decide_eq_true_eq]; omega), R3_42, e0, e1, e2]
    simp only [Int.toNat_natCast, hf, ht]
    refine ⟨by omega, by omega, by omega, by omega, ?_⟩
    by_cases hm : (ByteArray.toList f.1 == ByteArray.toList t.1) = true
    · have hfF : f = F := fare_uniq hv hfm hF (((bytes_eq _ _).1 hm).trans hid.symm)
      subst hfF
      rw [if_pos hm]
      refine ⟨by omega, by omega, by omega, by omega, ?_⟩
      by_cases c1 : t.2.2.1 < f.2.2.1
      · rw [decide_eq_true c1, Bool.true_and] at hW
        rw [if_pos (decide_eq_true c1)]
        refine ⟨by omega, by omega, by rw [i64_iff]; omega, by omega, by omega, ?_⟩
        rw [R3_41, e3, ← hW]
        exact ⟨up, ih (j + 1) W (by omega) (fun _ => rfl)⟩
      · rw [decide_eq_false c1, Bool.false_and] at hW
        rw [if_neg (by simp only [decide_eq_true_eq]; exact c1), R3_41, e3]
        exact ⟨up, ih (j + 1) false (by omega) (fun _ => hW.symm)⟩
    · rw [if_neg hm, R3_41, e3]
      refine ⟨up, ih (j + 1) v (by omega) fun h => hvW ?_⟩
      rw [drop_get l j FRD hlt, hf, List.any_cons, h, Bool.eq_false_iff.2 hm]
      rfl

theorem out3 (x0 : List Int) {l : List FRT} {sold : List TKT} {now : Int} (e0 : g14_0 x0 = l) (e1 : g14_1 x0 = sold) (e2 : g14_2 x0 = now) (hs : sold.length ≤ 200)
    (h9 : g42_0 l sold (g25_0 now) = 0) : ∀ (k i : Nat), i + k = sold.length → ∃ n, R3_36 n (i : Int) x0 [⟨.bool, true⟩] := by
  obtain ⟨hv, hd, ha⟩ := sold3 h9
  have hnow : 0 ≤ now ∧ now ≤ 36524 := wnF.1 hd
  intro k
  induction k with
  | zero =>
    intro i hi
    refine ⟨0 + 1, ?_⟩
    rw [R3_36, e1, if_neg (by simp only [decide_eq_true_eq]; omega)]
  | succ k ih =>
    intro i hi
    have hlt : i < sold.length := by omega
    obtain ⟨n, hn⟩ := ih (i + 1) (by omega)
    have e3 : (i : Int) + 1 = ((i + 1 : Nat) : Int) := by omega
    obtain ⟨t, ht⟩ : ∃ t, sold.getD i TKD3 = t := ⟨_, rfl⟩
    have hm := mem_getD sold i TKD3 hlt
    rw [ht] at hm
    obtain ⟨ht1, ht2⟩ := ha t hm
    obtain ⟨hF, hid⟩ := (fare_of l t.1).2 ht2
    obtain ⟨_, n2, _⟩ := tick_parts ht1
    have fo := fare_one ((fares_all hv).2.1 _ hF)
    have h37 : R3_37 (n + 1) x0 (i : Int) [⟨.bool, true⟩] := by
      rw [R3_37, e3]
      exact ⟨by rw [i64_iff]; omega, hn⟩
    have hb : g17_0 (g15_0 l sold now) (i : Int) = (decide (t.2.2.1 < (g26_0 l t.1).2.2.1) && decide (now - t.2.1 ≥ (g26_0 l t.1).2.2.2.1)) := by
      have := (has3 l now sold 0 i hlt).1
      rw [Nat.zero_add, ht] at this
      unfold g15_0
      rw [if_pos h9, this]
      unfold hit15
      have gi := good_iff (g26_0 l t.1) t now
      by_cases c1 : t.2.2.1 < (g26_0 l t.1).2.2.1
      · rw [decide_eq_true c1, Bool.true_and, Bool.true_and]
        by_cases c2 : t.2.1 ≤ now
        · rw [decide_eq_true c2, Bool.true_and]
          by_cases c3 : now - t.2.1 < (g26_0 l t.1).2.2.2.1
          · rw [gi.2 ⟨c2, c3, c1⟩, decide_eq_false (by omega)]
            rfl
          · have : g27_0 (g26_0 l t.1) t now = false := Bool.eq_false_iff.2 fun h => c3 (gi.1 h).2.1
            rw [this, decide_eq_true (by omega)]
            rfl
        · rw [decide_eq_false c2, Bool.false_and, decide_eq_false (by omega)]
      · rw [decide_eq_false c1, Bool.false_and, Bool.false_and]
    have key := in3 x0 e0 e1 e2 i hlt t ht hv _ hF hid n2 hnow _ rfl hb (n + 1) h37 l.length 0 false (by omega) (fun h => by
      exfalso
      have : (l.drop 0).any (fun f => ByteArray.toList f.1 == ByteArray.toList t.1) = true := by
        rw [List.drop_zero]
        exact List.any_eq_true.2 ⟨_, hF, (bytes_eq _ _).2 hid⟩
      rw [this] at h
      cases h)
    refine ⟨3 * l.length + (n + 1) + 1 + 1 + 1, ?_⟩
    rw [R3_36, e1, if_pos (by simp only [decide_eq_true_eq]; omega), R3_38]
    exact key

theorem nine3 (x0 : List Int) (hw : Wf (.sl (.int .u8)) x0) : ∃ n, R3_29 n x0 [⟨.bool, true⟩] := by
  obtain ⟨p14, hs⟩ := exp3 hw
  obtain ⟨l, e0⟩ : ∃ l, g14_0 x0 = l := ⟨_, rfl⟩
  obtain ⟨sold, e1⟩ : ∃ l, g14_1 x0 = l := ⟨_, rfl⟩
  obtain ⟨now, e2⟩ : ∃ l, g14_2 x0 = l := ⟨_, rfl⟩
  rw [e1] at hs
  have p15 : P15 l sold now := by
    refine ⟨⟨by omega, fun b => fared_pre _ _ _⟩, by omega, fun h9 t ht => ⟨(fare_of l t.1).1, ?_⟩⟩
    obtain ⟨hv, hd, ha⟩ := sold3 h9
    exact good_pre _ (tick_parts (ha t ht).1).2.1 (wnF.1 hd)
  by_cases h9 : g42_0 l sold (g25_0 now) = 0
  · obtain ⟨n, hn⟩ := out3 x0 e0 e1 e2 hs h9 sold.length 0 (by omega)
    have r := rises3 l now sold
    have eg : g15_0 l sold now = ex15 l now 0 sold := by unfold g15_0; rw [if_pos h9]
    have e9 : g15_1 l sold now = 0 := h9
    refine ⟨n + 1 + 1 + 1, ?_⟩
    rw [R3_29, e0, e1, e2, e9, if_neg (by decide), R3_33, e0, e1, e2, eg, r, if_neg (by decide), R3_35]
    exact ⟨p14, p15, hn⟩
  · have e9 : g15_1 l sold now ≠ 0 := h9
    have eg : g15_0 l sold now = [] := by unfold g15_0; rw [if_neg h9]
    refine ⟨0 + 1, ?_⟩
    rw [R3_29, e0, e1, e2, if_pos (by simpa using e9), eg]
    exact ⟨p14, p15, rfl⟩

theorem l233 (x0 x1 : List Int) {l : List FRT} {id : ByteArray} {a s : Int} (e0 : g10_0 x1 = l) (e1 : g10_1 x1 = id) (e2 : g10_2 x1 = a) (e4 : g10_4 x1 = s)
    (ha : 0 ≤ a ∧ a ≤ 100) (hv : g48_0 l = true) (hf : g26_1 l id = true) (hA : g11_0 l id a 0 s = a * (g26_0 l id).2.1) (n : Nat) (hn : R3_29 n x0 [⟨.bool, true⟩]) :
    ∀ (k i : Nat), i + k = l.length → R3_23 (3 * k + n + 1) (i : Int) x0 x1 [⟨.bool, true⟩] := by
  have hl := (fares_all hv).1
  obtain ⟨hF, hid⟩ := (fare_of l id).2 hf
  have fm := fare_one ((fares_all hv).2.1 _ hF)
  have m1 := mul_range ha fm.1
  obtain ⟨_, hE⟩ := each_law l id
  obtain ⟨_, g1, g2, g3, g4, g5, g6⟩ := hE hv hf
  have g7 : 0 ≤ g12_0 l id * (g26_0 l id).2.2.1 := Int.mul_nonneg g1 (by omega)
  intro k
  induction k with
  | zero =>
    intro i hi
    rw [show 3 * 0 + n + 1 = n + 1 by omega, R3_23, e0, if_neg (by simp only [decide_eq_true_eq]; omega)]
    exact hn
  | succ k ih =>
    intro i hi
    have hlt : i < l.length := by omega
    have e3 : (i : Int) + 1 = ((i + 1 : Nat) : Int) := by omega
    obtain ⟨f, hff⟩ : ∃ f, l.getD i FRD = f := ⟨_, rfl⟩
    have hfm := mem_getD l i FRD hlt
    rw [hff] at hfm
    have nx : R3_24 (3 * k + n + 1 + 1) x0 x1 (i : Int) [⟨.bool, true⟩] := by
      rw [R3_24, e3]
      exact ⟨by rw [i64_iff]; omega, ih (i + 1) (by omega)⟩
    rw [show 3 * (k + 1) + n + 1 = 3 * k + n + 1 + 1 + 1 + 1 by omega, R3_23, e0, if_pos (by simp only [decide_eq_true_eq]; omega), R3_25, e0, e1, e2, e4]
    simp only [Int.toNat_natCast, hff]
    refine ⟨by omega, by omega, ?_⟩
    by_cases hm : (ByteArray.toList f.1 == ByteArray.toList id) = true
    · have hfF : f = g26_0 l id := fare_uniq hv hfm hF (((bytes_eq _ _).1 hm).trans hid.symm)
      rw [if_pos hm, hfF, hA]
      generalize a * (g26_0 l id).2.1 = z1 at *
      generalize g12_0 l id * (g26_0 l id).2.2.1 = z2 at *
      generalize (g12_0 l id - 1) * (g26_0 l id).2.2.1 = z3 at *
      refine ⟨by omega, by omega, by rw [i64_iff]; omega, ?_⟩
      rw [if_neg (by simp)]
      refine ⟨by omega, by omega, by rw [i64_iff]; omega, by omega, by omega, ?_⟩
      rw [if_neg (by simp only [decide_eq_true_eq]; omega)]
      refine ⟨by rw [i64_iff]; omega, by omega, by omega, by rw [i64_iff]; omega, by omega, by omega, ?_⟩
      rw [if_neg (by simp only [decide_eq_true_eq]; omega)]
      exact nx
    · rw [if_neg hm]
      exact nx

theorem s133 (x0 x1 : List Int) (w0 : Wf (.sl (.int .u8)) x0) (w1 : Wf (.sl (.int .u8)) x1) : ∃ n, R3_13 n x0 x1 [⟨.bool, true⟩] := by
  obtain ⟨n, hn⟩ := nine3 x0 w0
  have p10 := grp3 w1
  obtain ⟨l, e0⟩ : ∃ l, g10_0 x1 = l := ⟨_, rfl⟩
  obtain ⟨id, e1⟩ : ∃ l, g10_1 x1 = l := ⟨_, rfl⟩
  obtain ⟨a, e2⟩ : ∃ l, g10_2 x1 = l := ⟨_, rfl⟩
  obtain ⟨c, e3⟩ : ∃ l, g10_3 x1 = l := ⟨_, rfl⟩
  obtain ⟨s, e4⟩ : ∃ l, g10_4 x1 = l := ⟨_, rfl⟩
  obtain ⟨q1, h1⟩ := group_law l id a c s
  obtain ⟨qE, hE⟩ := each_law l id
  rcases h1 with ⟨z0, ba, bc, bs, hv, hf, hG, r1, r2, r3, r4⟩ | ⟨z0, z1, _⟩
  · obtain ⟨q2, h2⟩ := group_law l id a 0 s
    obtain ⟨q3, h3⟩ := group_law l id 0 c s
    have b0 : (0 : Int) ≤ 0 ∧ (0 : Int) ≤ 100 := by decide
    rcases h2 with ⟨y0, _, _, _, _, _, yG, _⟩ | ⟨_, _, yN⟩
    case inr => exact absurd ⟨ba, b0, bs, hv, hf⟩ yN
    rcases h3 with ⟨v0, _, _, _, _, _, vG, _⟩ | ⟨_, _, vN⟩
    case inr => exact absurd ⟨b0, bc, bs, hv, hf⟩ vN
    obtain ⟨q4, p0, pG⟩ := pay_law l id ba hv hf
    obtain ⟨g0, g1, g2, _⟩ := hE hv hf
    have yG2 : g11_0 l id a 0 s = a * (g26_0 l id).2.1 := by rw [yG, Int.zero_mul, Int.add_zero]
    have vG2 : g11_0 l id 0 c s = c * g38_0 ((g26_0 l id).2.1 * s) 1000 := by rw [vG, Int.zero_mul, Int.zero_add]
    have key := l233 x0 x1 e0 e1 e2 e4 ba hv hf yG2 n hn l.length 0 (by omega)
    refine ⟨3 * l.length + n + 1 + 1 + 1, ?_⟩
    rw [R3_13, e0, e1, e2, e3, e4, z0, if_pos (by decide), g0, if_neg (by decide), if_neg (by simp only [decide_eq_true_eq]; omega), y0, if_neg (by decide), v0, if_neg (by decide), p0, yG2, vG2, hG, pG, if_neg (by simp), if_neg (by decide), if_neg (by simp), R3_22]
    exact ⟨p10, q1, qE, q2, q3, q4, by rw [i64_iff]; omega, key⟩
  · refine ⟨n + 1, ?_⟩
    rw [R3_13, e0, e1, e2, e3, e4, if_neg (by simpa using z0), z1, if_neg (by decide)]
    exact ⟨p10, q1, qE, hn⟩

theorem s83 (x0 x1 : List Int) (w0 : Wf (.sl (.int .u8)) x0) (w1 : Wf (.sl (.int .u8)) x1) : ∃ n, R3_8 n x0 x1 [⟨.bool, true⟩] := by
  obtain ⟨n, hn⟩ := s133 x0 x1 w0 w1
  obtain ⟨l, e0⟩ : ∃ l, g5_0 x0 = l := ⟨_, rfl⟩
  obtain ⟨t, e1⟩ : ∃ l, g5_1 x0 = l := ⟨_, rfl⟩
  obtain ⟨d, e2⟩ : ∃ l, g5_2 x0 = l := ⟨_, rfl⟩
  obtain ⟨q1, q2, h, _⟩ := use_law l t d
  refine ⟨n + 1, ?_⟩
  rw [R3_8, e0, e1, e2]
  rcases h with ⟨u1, ht, hd, hv, hf, hg, u0, v1, v0⟩ | ⟨u1, v0⟩
  · obtain ⟨n1, n2, n3⟩ := tick_parts ht
    obtain ⟨g1, g2, g3⟩ := (good_iff _ _ _).1 hg
    obtain ⟨hF, _⟩ := (fare_of l t.1).2 hf
    have fm := fare_one ((fares_all hv).2.1 _ hF)
    have ht' : g24_0 ((t.1, t.2.1, t.2.2.1 + 1, ()) : TKT) = true := by
      unfold g24_0
      rw [if_pos (show g49_0 t.1 = true from n1), if_pos (show g25_0 t.2.1 = true from wnF.2 n2)]
      exact wnF.2 ⟨by show 0 ≤ t.2.2.1 + 1; omega, by show t.2.2.1 + 1 ≤ 1000; omega⟩
    obtain ⟨q3, q4, _, hL⟩ := use_law l (t.1, t.2.1, t.2.2.1 + 1, ()) d
    obtain ⟨k1, k0⟩ := hL ht' hd hv hf
    obtain ⟨b1, b2, b3, b4⟩ := ticket_back ht
    have gi := good_iff (g26_0 l t.1) (t.1, t.2.1, t.2.2.1 + 1, ()) d
    have k2 : g7_0 l (t.1, t.2.1, t.2.2.1 + 1, ()) d = (g26_0 l t.1).2.2.1 - t.2.2.1 - 1 := by
      rw [k0]
      by_cases hq : g27_0 (g26_0 l t.1) (t.1, t.2.1, t.2.2.1 + 1, ()) d = true
      · rw [if_pos hq]
        show (g26_0 l t.1).2.2.1 - (t.2.2.1 + 1) = _
        omega
      · rw [if_neg hq]
        have : ¬ t.2.2.1 + 1 < (g26_0 l t.1).2.2.1 := fun h => hq (gi.2 ⟨g1, g2, h⟩)
        omega
    have e9 : eqD (Ty.cons Ty.str (Ty.cons (Ty.int IntKind.i64) (Ty.cons (Ty.int IntKind.i64) Ty.unit))) t t = true := (eqD_eq (by decide)).2 rfl
    rw [u1, if_pos (by decide), u0]
    simp only [k1, k2, v0, b3, b4, e9, bne_self_eq_false, beq_self_eq_true, Bool.not_true, Bool.false_eq_true, if_false]
    exact ⟨q4, b1, b2, by rw [i64_iff]; omega, by rw [i64_iff]; omega, hn⟩
  · rw [if_neg (by simpa using u1)]
    exact hn

theorem top3 (x0 x1 : List Int) (w0 : Wf (.sl (.int .u8)) x0) (w1 : Wf (.sl (.int .u8)) x1) : ∃ n, R3 n x0 x1 [⟨.bool, g3_0 x0 x1⟩] := by
  unfold g3_0
  obtain ⟨n, hn⟩ := s83 x0 x1 w0 w1
  have p5 := use3 w0
  obtain ⟨l, e0⟩ : ∃ l, g5_0 x0 = l := ⟨_, rfl⟩
  obtain ⟨t, e1⟩ : ∃ l, g5_1 x0 = l := ⟨_, rfl⟩
  obtain ⟨d, e2⟩ : ∃ l, g5_2 x0 = l := ⟨_, rfl⟩
  obtain ⟨q1, q2, h, _⟩ := use_law l t d
  refine ⟨n + 1 + 1, ?_⟩
  rw [R3]
  split
  · rfl
  split
  · rfl
  rw [R3_3, e0, e1, e2]
  refine ⟨p5, q1, q2, ?_⟩
  rcases h with ⟨u1, ht, hd, hv, hf, hg, u0, v1, v0⟩ | ⟨u1, v0⟩
  · obtain ⟨g1, g2, g3⟩ := (good_iff _ _ _).1 hg
    have c1 : decide (g7_0 l t d > 0) = true := decide_eq_true (by rw [v0]; omega)
    rw [v1, if_pos (by decide), u1, c1, if_neg (by decide), if_neg (by simp only [decide_eq_true_eq]; rw [v0]; omega)]
    exact hn
  · have c1 : (g6_1 l t d == 0) = false := by simpa using u1
    rw [v0, c1]
    split
    · rw [if_neg (by decide), if_neg (by decide)]
      exact hn
    · rw [if_neg (by decide), if_neg (by decide)]
      exact hn

def S3 : Am.Spec := { sig := sig3, pre := fun ⟨x0, x1, _⟩ => P3 x0 x1, res := fun ⟨x0, x1, _⟩ => [⟨Ty.bool, g3_0 x0 x1⟩] }
theorem con3 : Contract Tryz.prog 3 S3 := contract_of Tryz.func3 hb3 (Nat.le_of_ble_eq_true (by kernel_rfl)) (fun ⟨x0, x1, _⟩ h hwf K q =>
  let ⟨n, hn⟩ := top3 x0 x1 hwf.1 hwf.2.1
  (snd3 n).1 x0 x1 _ hn K q)

end
end Go.Proofs.YtfpdnbojchnglaaGreatDoor

/- The plain law of FnFares. -/
set_option linter.unusedVariables false
set_option linter.unusedSimpArgs false
set_option maxRecDepth 100000
namespace Go.Proofs.YtfpdnbojchnglaaGreatDoor
open Go Go.Am Go.Proofs

theorem law3 (x0 x1 : List Int) (h0 : Wf (.sl (.int .u8)) x0) (h1 : Wf (.sl (.int .u8)) x1) : P3 x0 x1 ∧ g3_0 x0 x1 = true := ⟨trivial, rfl⟩

end Go.Proofs.YtfpdnbojchnglaaGreatDoor
