/- Several texts in one: the functions that this law reaches, and their laws. -/
import Derived.Test.YtpoajfdfmiafnaaGreatDoorZ3A
import Derived.Test.YtpoajfdfmiafnaaGreatDoorZ3B
import Derived.Test.YtpoajfdfmiafnaaGreatDoorZ3C
import Derived.Test.YtpoajfdfmiafnaaGreatDoorZ3D
import Derived.Lib.TrimByte
import Derived.Lib.Join
import Derived.Lib.ItoaNum

/- Function 7 (impl.WearReport): its runs between cut points. Written by a program of this repo (gen). -/
set_option linter.unusedVariables false
set_option linter.unusedSimpArgs false
set_option maxRecDepth 100000
namespace Go.Proofs.YtpoajfdfmiafnaaGreatDoor
open Go Go.Am Go.Proofs
noncomputable section
def ext7 : Ext := [(19, S19), (20, S20), (21, S21), (22, S22)]
theorem call7_19 : Callable Tryz.prog 19 := ⟨Tryz.f19, Tryz.func19, by kernel_rfl, by kernel_rfl⟩
theorem call7_20 : Callable Tryz.prog 20 := ⟨Tryz.f20, Tryz.func20, by kernel_rfl, by kernel_rfl⟩
theorem call7_21 : Callable Tryz.prog 21 := ⟨Tryz.f21, Tryz.func21, by kernel_rfl, by kernel_rfl⟩
theorem call7_22 : Callable Tryz.prog 22 := ⟨Tryz.f22, Tryz.func22, by kernel_rfl, by kernel_rfl⟩
theorem ext7Ok : ExtOk Tryz.prog ext7 := ⟨⟨call7_19, con19⟩, ⟨call7_20, con20⟩, ⟨call7_21, con21⟩, ⟨call7_22, con22⟩, trivial⟩

noncomputable def b7 : Code := bodyOf Tryz.f7
theorem hb7 : Tryz.f7.body = some b7 := by kernel_rfl
def sig7 : List AT := [AT.v (Ty.sl (Ty.cons (Ty.int IntKind.i64) (Ty.cons (Ty.int IntKind.i64) (Ty.cons (Ty.int IntKind.i64) Ty.unit))))]
def tys7 : List Ty := [Ty.sl Ty.str, Ty.int IntKind.i64]
def kds7 : List RK := []
def oks7 : List AT := owns sig7
def E7_5 (v14 : Int) (h0 : List (List ByteArray)) (x0 : List (Int × Int × Int × Unit)) : Env := [(4, PV.a (Atom.osl 0 Option.none)), (12, PV.a (Atom.sl (Ty.cons (Ty.int IntKind.i64) (Ty.cons (Ty.int IntKind.i64) (Ty.cons (Ty.int IntKind.i64) Ty.unit))) x0)), (13, PV.a (Atom.val (Value.int IntKind.i64 (↑(List.length x0) : Int)))), (14, PV.a (Atom.val (Value.int IntKind.i64 v14)))]
def L7_5 (v14 : Int) (h0 : List (List ByteArray)) (x0 : List (Int × Int × Int × Unit)) : Heap := [Option.some (Arr.mk (Ty.sl Ty.str) h0 Bool.true Option.none Option.none)]
mutual
def R7 : Nat → List (Int × Int × Int × Unit) → List Dyn → Prop
  | 0, _, _ => False
  | n + 1, x0, ds => (if (!g19_0 x0) = true then (ds = [Dyn.mk (Ty.sl Ty.str) [], Dyn.mk (Ty.int IntKind.i64) 1]) else (R7_5 n (0) ([[ByteArray.mk #[100, 97, 121], ByteArray.mk #[98, 114, 111, 107, 101, 110], ByteArray.mk #[119, 111, 114, 110]]]) (x0) ds))
def R7_5 : Nat → Int → List (List ByteArray) → List (Int × Int × Int × Unit) → List Dyn → Prop
  | 0, _, _, _, _ => False
  | n + 1, v14, h0, x0, ds => (if (Decidable.decide (v14 < (↑(List.length x0) : Int))) = true then ((0 ≤ v14) ∧ (v14 < (↑(List.length x0) : Int)) ∧ ((P20 (Prod.fst (List.getD x0 (Int.toNat v14) (0, 0, 0, ())))) ∧ ((P21 (Prod.fst (Prod.snd (List.getD x0 (Int.toNat v14) (0, 0, 0, ()))))) ∧ ((P21 (Prod.fst (Prod.snd (Prod.snd (List.getD x0 (Int.toNat v14) (0, 0, 0, ())))))) ∧ (((List.length h0 + 1) * 24 ≤ 140737488355328) ∧ ((InR IntKind.i64 (v14 + 1)) ∧ (R7_5 n (v14 + 1) (h0 ++ [[g20_0 (Prod.fst (List.getD x0 (Int.toNat v14) (0, 0, 0, ()))), g21_0 (Prod.fst (Prod.snd (List.getD x0 (Int.toNat v14) (0, 0, 0, ())))), g21_0 (Prod.fst (Prod.snd (Prod.snd (List.getD x0 (Int.toNat v14) (0, 0, 0, ())))))]]) (x0) ds))))))) else ((P22 h0) ∧ (ds = [Dyn.mk (Ty.sl Ty.str) (g22_0 h0), Dyn.mk (Ty.int IntKind.i64) (g22_1 h0)])))
end
theorem p7_0 (x0 : List (Int × Int × Int × Unit)) : runF tab ext7 false 36 [] 2000 [] oks7 kds7 tys7 Tryz.f7.results [true] [.code b7] (entE 0 0 sig7 (x0, ())) (entL sig7 (x0, ())) = some ([Dyn.mk (Ty.sl Ty.str) [], Dyn.mk (Ty.int IntKind.i64) 1], [], [True, (!g19_0 x0) = Bool.true]) := by kernel_rfl
theorem p7_1 (x0 : List (Int × Int × Int × Unit)) : Am.runN tab ext7 false 36 [] 2000 [] [] [4, 12, 13, 14] [1] [false] [.code b7] (entE 0 0 sig7 (x0, ())) (entL sig7 (x0, ())) = some (cutAt b7 5, E7_5 (0) ([[ByteArray.mk #[100, 97, 121], ByteArray.mk #[98, 114, 111, 107, 101, 110], ByteArray.mk #[119, 111, 114, 110]]]) (x0), L7_5 (0) ([[ByteArray.mk #[100, 97, 121], ByteArray.mk #[98, 114, 111, 107, 101, 110], ByteArray.mk #[119, 111, 114, 110]]]) (x0), [True, (!g19_0 x0) = Bool.false]) := by kernel_rfl
theorem p7_2 (v14 : Int) (h0 : List (List ByteArray)) (x0 : List (Int × Int × Int × Unit)) : Am.runN tab ext7 false 36 [] 2000 [] [] [4, 12, 13, 14] [0] [true] (cutAt b7 5) (E7_5 v14 h0 x0) (L7_5 v14 h0 x0) = some (cutAt b7 5, E7_5 (v14 + 1) (h0 ++ [[g20_0 (Prod.fst (List.getD x0 (Int.toNat v14) (0, 0, 0, ()))), g21_0 (Prod.fst (Prod.snd (List.getD x0 (Int.toNat v14) (0, 0, 0, ())))), g21_0 (Prod.fst (Prod.snd (Prod.snd (List.getD x0 (Int.toNat v14) (0, 0, 0, ())))))]]) (x0), L7_5 (v14 + 1) (h0 ++ [[g20_0 (Prod.fst (List.getD x0 (Int.toNat v14) (0, 0, 0, ()))), g21_0 (Prod.fst (Prod.snd (List.getD x0 (Int.toNat v14) (0, 0, 0, ())))), g21_0 (Prod.fst (Prod.snd (Prod.snd (List.getD x0 (Int.toNat v14) (0, 0, 0, ())))))]]) (x0), [Decidable.decide (v14 < (↑(List.length x0) : Int)) = Bool.true, 0 ≤ v14, v14 < (↑(List.length x0) : Int), P20 (Prod.fst (List.getD x0 (Int.toNat v14) (0, 0, 0, ()))), P21 (Prod.fst (Prod.snd (List.getD x0 (Int.toNat v14) (0, 0, 0, ())))), P21 (Prod.fst (Prod.snd (Prod.snd (List.getD x0 (Int.toNat v14) (0, 0, 0, ()))))), (List.length h0 + 1) * 24 ≤ 140737488355328, InR IntKind.i64 (v14 + 1)]) := by kernel_rfl
theorem p7_3 (v14 : Int) (h0 : List (List ByteArray)) (x0 : List (Int × Int × Int × Unit)) : runF tab ext7 false 36 [] 2000 [] oks7 kds7 tys7 Tryz.f7.results [false] (cutAt b7 5) (E7_5 v14 h0 x0) (L7_5 v14 h0 x0) = some ([Dyn.mk (Ty.sl Ty.str) (g22_0 h0), Dyn.mk (Ty.int IntKind.i64) (g22_1 h0)], [], [Decidable.decide (v14 < (↑(List.length x0) : Int)) = Bool.false, P22 h0]) := by kernel_rfl
theorem snd7 : ∀ n, (∀ (x0 : List (Int × Int × Int × Unit)) ds, R7 n x0 ds → ∀ K q, AtV Tryz.prog 7 (PostR kds7 oks7 ds [] [] q K) 36 K q [] [.code b7] (entE 0 0 sig7 (x0, ())) (entL sig7 (x0, ()))) ∧ (∀ (v14 : Int) (h0 : List (List ByteArray)) (x0 : List (Int × Int × Int × Unit)) ds, R7_5 n v14 h0 x0 ds → ∀ K q, AtV Tryz.prog 7 (PostR kds7 oks7 ds [] [] q K) 36 K q [] (cutAt b7 5) (E7_5 v14 h0 x0) (L7_5 v14 h0 x0)) := by
  intro n
  induction n with
  | zero => exact ⟨fun _ _ h => by simp only [R7] at h, fun _ _ _ _ h => by simp only [R7_5] at h⟩
  | succ n ih =>
  obtain ⟨ih, ih5⟩ := ih
  refine ⟨?_, ?_⟩
  · intro x0 ds h K q
    rw [R7] at h
    by_cases b0 : (!g19_0 x0) = true
    · rw [if_pos b0] at h
      subst h
      exact AtV.fin Tryz.func7 tabOk ext7Ok mixed (p7_0 x0) ⟨trivial, b0, trivial⟩
    · rw [if_neg b0] at h
      replace b0 := Bool.eq_false_iff.2 b0
      exact AtV.runN tabOk ext7Ok mixed (p7_1 x0) ⟨trivial, b0, trivial⟩ (ih5 _ _ _ _ h K q)

  · intro v14 h0 x0 ds h K q
    rw [R7_5] at h
    by_cases b0 : (Decidable.decide (v14 < (↑(List.length x0) : Int))) = true
    · rw [if_pos b0] at h
      obtain ⟨s0, s1, h⟩ := h
      obtain ⟨s2, h⟩ := h
      obtain ⟨s3, h⟩ := h
      obtain ⟨s4, h⟩ := h
      obtain ⟨s5, h⟩ := h
      obtain ⟨s6, h⟩ := h
      exact AtV.runN tabOk ext7Ok mixed (p7_2 v14 h0 x0) ⟨b0, s0, s1, s2, s3, s4, s5, s6, trivial⟩ (ih5 _ _ _ _ h K q)
    · rw [if_neg b0] at h
      replace b0 := Bool.eq_false_iff.2 b0
      obtain ⟨s0, h⟩ := h
      subst h
      exact AtV.fin Tryz.func7 tabOk ext7Ok mixed (p7_3 v14 h0 x0) ⟨b0, s0, trivial⟩



def hd7 : List ByteArray := [ByteArray.mk #[100, 97, 121], ByteArray.mk #[98, 114, 111, 107, 101, 110], ByteArray.mk #[119, 111, 114, 110]]
def rw7 (f : Int × Int × Int × Unit) : List ByteArray := [g20_0 f.1, g21_0 f.2.1, g21_0 f.2.2.1]
def P7 (x0 : List (Int × Int × Int × Unit)) : Prop := g19_0 x0 = true → x0.length ≤ 1000 ∧ ∀ f ∈ x0, P20 f.1 ∧ P21 f.2.1 ∧ P21 f.2.2.1 ∧ ∀ c ∈ rw7 f, c.size ≤ 4000000
def g7_0 (x0 : List (Int × Int × Int × Unit)) : List ByteArray := if g19_0 x0 = true then g22_0 (hd7 :: x0.map rw7) else []
def g7_1 (x0 : List (Int × Int × Int × Unit)) : Int := if g19_0 x0 = true then g22_1 (hd7 :: x0.map rw7) else 1

theorem pre7 {x0 : List (Int × Int × Int × Unit)} (hl : x0.length ≤ 1000) (hc : ∀ f ∈ x0, ∀ c ∈ rw7 f, c.size ≤ 4000000) : P22 (hd7 :: x0.map rw7) := by
  refine ⟨by simp only [List.length_cons, List.length_map]; omega, fun r hr => ?_⟩
  rcases List.mem_cons.1 hr with rfl | hr
  · exact ⟨by decide, by decide⟩
  · obtain ⟨f, hf, rfl⟩ := List.mem_map.1 hr
    exact ⟨by show 3 ≤ 12; decide, hc f hf⟩

theorem run7 (x0 : List (Int × Int × Int × Unit)) (hl : x0.length ≤ 1000) (hc : ∀ f ∈ x0, P20 f.1 ∧ P21 f.2.1 ∧ P21 f.2.2.1 ∧ ∀ c ∈ rw7 f, c.size ≤ 4000000) : ∀ (k i : Nat), i + k = x0.length →
    R7_5 (k + 1) (i : Int) (hd7 :: (x0.take i).map rw7) x0 [⟨.sl .str, g22_0 (hd7 :: x0.map rw7)⟩, ⟨.int .i64, g22_1 (hd7 :: x0.map rw7)⟩] := by
  intro k
  induction k with
  | zero =>
    intro i hi
    rw [R7_5, if_neg (by simp only [decide_eq_true_eq]; omega), List.take_of_length_le (by omega)]
    exact ⟨pre7 hl (fun f hf => (hc f hf).2.2.2), rfl⟩
  | succ k ih =>
    intro i hi
    have hlt : i < x0.length := by omega
    have h := ih (i + 1) (by omega)
    have e1 : (((i + 1 : Nat)) : Int) = (i : Int) + 1 := by omega
    rw [e1] at h
    have hm := mem_getD x0 i ((0 : Int), (0 : Int), (0 : Int), ()) hlt
    rw [R7_5, if_pos (by simp only [decide_eq_true_eq]; omega)]
    simp only [Int.toNat_natCast]
    refine ⟨by omega, by omega, (hc _ hm).1, (hc _ hm).2.1, (hc _ hm).2.2.1, ?_, by rw [i64_iff]; omega, ?_⟩
    · simp only [List.length_cons, List.length_map, List.length_take]; omega
    · have e : x0.take (i + 1) = x0.take i ++ [x0.getD i ((0 : Int), (0 : Int), (0 : Int), ())] := by
        rw [getD_lt x0 i _ hlt, List.take_append_getElem hlt]
      rw [e, List.map_append] at h
      exact h

theorem top7 (x0 : List (Int × Int × Int × Unit)) (h : P7 x0) : ∃ n, R7 n x0 [⟨.sl .str, g7_0 x0⟩, ⟨.int .i64, g7_1 x0⟩] := by
  unfold g7_0 g7_1
  cases hv : g19_0 x0 with
  | false =>
    refine ⟨1, ?_⟩
    rw [R7, if_pos (by rw [hv]; rfl)]
    rfl
  | true =>
    obtain ⟨hl, hc⟩ := h hv
    refine ⟨x0.length + 1 + 1, ?_⟩
    rw [R7, if_neg (by rw [hv]; simp)]
    simp only [if_true]
    exact run7 x0 hl hc x0.length 0 (by omega)

def S7 : Am.Spec := { sig := sig7, pre := fun ⟨x0, _⟩ => P7 x0, res := fun ⟨x0, _⟩ => [⟨.sl .str, g7_0 x0⟩, ⟨.int .i64, g7_1 x0⟩] }
theorem con7 : Contract Tryz.prog 7 S7 := contract_of Tryz.func7 hb7 (Nat.le_of_ble_eq_true (by kernel_rfl)) (fun ⟨x0, _⟩ h hwf K q =>
  let ⟨n, hn⟩ := top7 x0 h
  (snd7 n).1 x0 _ hn K q)

end
end Go.Proofs.YtpoajfdfmiafnaaGreatDoor

/- Function 8 (laws.eqStringS): its runs between cut points. Written by a program of this repo (gen). -/
set_option linter.unusedVariables false
set_option linter.unusedSimpArgs false
set_option maxRecDepth 100000
namespace Go.Proofs.YtpoajfdfmiafnaaGreatDoor
open Go Go.Am Go.Proofs
noncomputable section
def ext8 : Ext := []
theorem ext8Ok : ExtOk Tryz.prog ext8 := trivial

noncomputable def b8 : Code := bodyOf Tryz.f8
theorem hb8 : Tryz.f8.body = some b8 := by kernel_rfl
def sig8 : List AT := [AT.v (Ty.sl Ty.str), AT.v (Ty.sl Ty.str)]
def tys8 : List Ty := [Ty.bool]
def kds8 : List RK := []
def oks8 : List AT := owns sig8
def E8_4 (v5 : Int) (x0 : List ByteArray) (x1 : List ByteArray) : Env := [(0, PV.a (Atom.sl Ty.str x0)), (1, PV.a (Atom.sl Ty.str x1)), (5, PV.a (Atom.val (Value.int IntKind.i64 v5)))]
def L8_4 (v5 : Int) (x0 : List ByteArray) (x1 : List ByteArray) : Heap := []
mutual
def R8 : Nat → List ByteArray → List ByteArray → List Dyn → Prop
  | 0, _, _, _ => False
  | n + 1, x0, x1, ds => (if ((↑(List.length x0) : Int) != (↑(List.length x1) : Int)) = true then (ds = [Dyn.mk Ty.bool Bool.false]) else (R8_4 n (0) (x0) (x1) ds))
def R8_4 : Nat → Int → List ByteArray → List ByteArray → List Dyn → Prop
  | 0, _, _, _, _ => False
  | n + 1, v5, x0, x1, ds => (if (Decidable.decide (v5 < (↑(List.length x0) : Int))) = true then ((0 ≤ v5) ∧ (v5 < (↑(List.length x0) : Int)) ∧ ((0 ≤ v5) ∧ (v5 < (↑(List.length x1) : Int)) ∧ (if (!ByteArray.toList (List.getD x0 (Int.toNat v5) ByteArray.empty) == ByteArray.toList (List.getD x1 (Int.toNat v5) ByteArray.empty)) = true then (ds = [Dyn.mk Ty.bool Bool.false]) else ((InR IntKind.i64 (v5 + 1)) ∧ (R8_4 n (v5 + 1) (x0) (x1) ds))))) else (ds = [Dyn.mk Ty.bool Bool.true]))
end
theorem p8_0 (x0 : List ByteArray) (x1 : List ByteArray) : runF tab ext8 false 26 [] 2000 [] oks8 kds8 tys8 Tryz.f8.results [true] [.code b8] (entE 0 0 sig8 (x0, x1, ())) (entL sig8 (x0, x1, ())) = some ([Dyn.mk Ty.bool Bool.false], [], [((↑(List.length x0) : Int) != (↑(List.length x1) : Int)) = Bool.true]) := by kernel_rfl
theorem p8_1 (x0 : List ByteArray) (x1 : List ByteArray) : Am.runN tab ext8 false 26 [] 2000 [] [] [0, 1, 5] [] [false] [.code b8] (entE 0 0 sig8 (x0, x1, ())) (entL sig8 (x0, x1, ())) = some (cutAt b8 4, E8_4 (0) (x0) (x1), L8_4 (0) (x0) (x1), [((↑(List.length x0) : Int) != (↑(List.length x1) : Int)) = Bool.false]) := by kernel_rfl
theorem p8_2 (v5 : Int) (x0 : List ByteArray) (x1 : List ByteArray) : runF tab ext8 false 26 [] 2000 [] oks8 kds8 tys8 Tryz.f8.results [true, true] (cutAt b8 4) (E8_4 v5 x0 x1) (L8_4 v5 x0 x1) = some ([Dyn.mk Ty.bool Bool.false], [], [Decidable.decide (v5 < (↑(List.length x0) : Int)) = Bool.true, 0 ≤ v5, v5 < (↑(List.length x0) : Int), 0 ≤ v5, v5 < (↑(List.length x1) : Int), (!ByteArray.toList (List.getD x0 (Int.toNat v5) ByteArray.empty) == ByteArray.toList (List.getD x1 (Int.toNat v5) ByteArray.empty)) = Bool.true]) := by kernel_rfl
theorem p8_3 (v5 : Int) (x0 : List ByteArray) (x1 : List ByteArray) : Am.runN tab ext8 false 26 [] 2000 [] [] [0, 1, 5] [] [true, false] (cutAt b8 4) (E8_4 v5 x0 x1) (L8_4 v5 x0 x1) = some (cutAt b8 4, E8_4 (v5 + 1) (x0) (x1), L8_4 (v5 + 1) (x0) (x1), [Decidable.decide (v5 < (↑(List.length x0) : Int)) = Bool.true, 0 ≤ v5, v5 < (↑(List.length x0) : Int), 0 ≤ v5, v5 < (↑(List.length x1) : Int), (!ByteArray.toList (List.getD x0 (Int.toNat v5) ByteArray.empty) == ByteArray.toList (List.getD x1 (Int.toNat v5) ByteArray.empty)) = Bool.false, InR IntKind.i64 (v5 + 1)]) := by kernel_rfl
theorem p8_4 (v5 : Int) (x0 : List ByteArray) (x1 : List ByteArray) : runF tab ext8 false 26 [] 2000 [] oks8 kds8 tys8 Tryz.f8.results [false] (cutAt b8 4) (E8_4 v5 x0 x1) (L8_4 v5 x0 x1) = some ([Dyn.mk Ty.bool Bool.true], [], [Decidable.decide (v5 < (↑(List.length x0) : Int)) = Bool.false]) := by kernel_rfl
theorem snd8 : ∀ n, (∀ (x0 : List ByteArray) (x1 : List ByteArray) ds, R8 n x0 x1 ds → ∀ K q, AtV Tryz.prog 8 (PostR kds8 oks8 ds [] [] q K) 26 K q [] [.code b8] (entE 0 0 sig8 (x0, x1, ())) (entL sig8 (x0, x1, ()))) ∧ (∀ (v5 : Int) (x0 : List ByteArray) (x1 : List ByteArray) ds, R8_4 n v5 x0 x1 ds → ∀ K q, AtV Tryz.prog 8 (PostR kds8 oks8 ds [] [] q K) 26 K q [] (cutAt b8 4) (E8_4 v5 x0 x1) (L8_4 v5 x0 x1)) := by
  intro n
  induction n with
  | zero => exact ⟨fun _ _ _ h => by simp only [R8] at h, fun _ _ _ _ h => by simp only [R8_4] at h⟩
  | succ n ih =>
  obtain ⟨ih, ih4⟩ := ih
  refine ⟨?_, ?_⟩
  · intro x0 x1 ds h K q
    rw [R8] at h
    by_cases b0 : ((↑(List.length x0) : Int) != (↑(List.length x1) : Int)) = true
    · rw [if_pos b0] at h
      subst h
      exact AtV.fin Tryz.func8 tabOk ext8Ok mixed (p8_0 x0 x1) ⟨b0, trivial⟩
    · rw [if_neg b0] at h
      replace b0 := Bool.eq_false_iff.2 b0
      exact AtV.runN tabOk ext8Ok mixed (p8_1 x0 x1) ⟨b0, trivial⟩ (ih4 _ _ _ _ h K q)

  · intro v5 x0 x1 ds h K q
    rw [R8_4] at h
    by_cases b0 : (Decidable.decide (v5 < (↑(List.length x0) : Int))) = true
    · rw [if_pos b0] at h
      obtain ⟨s0, s1, h⟩ := h
      obtain ⟨s2, s3, h⟩ := h
      by_cases b1 : (!ByteArray.toList (List.getD x0 (Int.toNat v5) ByteArray.empty) == ByteArray.toList (List.getD x1 (Int.toNat v5) ByteArray.empty)) = true
      · rw [if_pos b1] at h
        subst h
        exact AtV.fin Tryz.func8 tabOk ext8Ok mixed (p8_2 v5 x0 x1) ⟨b0, s0, s1, s2, s3, b1, trivial⟩
      · rw [if_neg b1] at h
        replace b1 := Bool.eq_false_iff.2 b1
        obtain ⟨s4, h⟩ := h
        exact AtV.runN tabOk ext8Ok mixed (p8_3 v5 x0 x1) ⟨b0, s0, s1, s2, s3, b1, s4, trivial⟩ (ih4 _ _ _ _ h K q)
    · rw [if_neg b0] at h
      replace b0 := Bool.eq_false_iff.2 b0
      subst h
      exact AtV.fin Tryz.func8 tabOk ext8Ok mixed (p8_4 v5 x0 x1) ⟨b0, trivial⟩



theorem eq8 (x0 x1 : List (ByteArray)) (hl : x0.length = x1.length) (hm : x0.length ≤ maxLen) : ∀ k i : Nat, i + k = x0.length → R8_4 (k + 1) (i : Int) x0 x1 [⟨.bool, decide (x0.drop i = x1.drop i)⟩] := by
  intro k
  induction k with
  | zero =>
    intro i hi
    have h1 : ¬ (i : Int) < (x0.length : Int) := by omega
    rw [R8_4, if_neg (by simpa using h1), drop_end x0 i (by omega), drop_end x1 i (by omega)]
    simp
  | succ k ih =>
    intro i hi
    have h1 : (i : Int) < (x0.length : Int) := by omega
    rw [R8_4, if_pos (by simpa using h1)]
    refine ⟨by omega, h1, by omega, by omega, ?_⟩
    simp only [Int.toNat_natCast]
    rw [drop_get x0 i ByteArray.empty (by omega), drop_get x1 i ByteArray.empty (by omega)]
    by_cases he : x0.getD i ByteArray.empty = x1.getD i ByteArray.empty
    · have hd := (bytes_eq _ _).2 he
      rw [if_neg (by rw [hd]; simp)]
      refine ⟨inR_up hm (by omega), ?_⟩
      have := ih (i + 1) (by omega)
      simp only [he, List.cons.injEq, true_and]
      exact this
    · have hd : (ByteArray.toList (x0.getD i ByteArray.empty) == ByteArray.toList (x1.getD i ByteArray.empty)) = false :=
        (bytes_ne _ _).2 he
      rw [if_pos (by rw [hd]; rfl)]
      simp only [he, List.cons.injEq, false_and, decide_false]

def g8_0 (x0 x1 : List (ByteArray)) : Bool := decide (x0 = x1)
def P8 (x0 x1 : List (ByteArray)) : Prop := True
def S8 : Am.Spec := { sig := sig8, pre := fun ⟨x0, x1, _⟩ => P8 x0 x1, res := fun ⟨x0, x1, _⟩ => [⟨Ty.bool, g8_0 x0 x1⟩] }
theorem con8 : Contract Tryz.prog 8 S8 := contract_of Tryz.func8 hb8 (Nat.le_of_ble_eq_true (by kernel_rfl)) (fun ⟨x0, x1, _⟩ h hwf K q => by
  refine (snd8 (x0.length + 2)).1 x0 x1 _ ?_ K q
  show R8 (x0.length + 1 + 1) x0 x1 [⟨Ty.bool, decide (x0 = x1)⟩]
  rw [R8]
  by_cases hl : x0.length = x1.length
  · rw [if_neg (by simp [hl])]
    have := eq8 x0 x1 hl hwf.1.1 x0.length 0 (by omega)
    simpa using this
  · rw [if_pos (by simp; omega)]
    have : x0 ≠ x1 := fun h => hl (by rw [h])
    simp [this])

end
end Go.Proofs.YtpoajfdfmiafnaaGreatDoor

/- Function 23 (laws.eqTest): its runs between cut points. Written by a program of this repo (gen). -/
set_option linter.unusedVariables false
set_option linter.unusedSimpArgs false
set_option maxRecDepth 100000
namespace Go.Proofs.YtpoajfdfmiafnaaGreatDoor
open Go Go.Am Go.Proofs
noncomputable section
def ext23 : Ext := []
theorem ext23Ok : ExtOk Tryz.prog ext23 := trivial

noncomputable def b23 : Code := bodyOf Tryz.f23
theorem hb23 : Tryz.f23.body = some b23 := by kernel_rfl
def sig23 : List AT := [AT.v (Ty.cons (Ty.int IntKind.i64) (Ty.cons (Ty.int IntKind.i64) (Ty.cons (Ty.int IntKind.i64) Ty.unit))), AT.v (Ty.cons (Ty.int IntKind.i64) (Ty.cons (Ty.int IntKind.i64) (Ty.cons (Ty.int IntKind.i64) Ty.unit)))]
def tys23 : List Ty := [Ty.bool]
def kds23 : List RK := []
def oks23 : List AT := owns sig23
def P23 (x0 : Int × Int × Int × Unit) (x1 : Int × Int × Int × Unit) : Prop := True
def g23_0 (x0 : Int × Int × Int × Unit) (x1 : Int × Int × Int × Unit) : Bool := (if (Prod.fst x0 != Prod.fst x1) = true then Bool.false else (if (Prod.fst (Prod.snd x0) != Prod.fst (Prod.snd x1)) = true then Bool.false else (if (Prod.fst (Prod.snd (Prod.snd x0)) != Prod.fst (Prod.snd (Prod.snd x1))) = true then Bool.false else Bool.true)))
theorem p23_0 (x0 : Int × Int × Int × Unit) (x1 : Int × Int × Int × Unit) : runF tab ext23 false 20 [] 2000 [] oks23 kds23 tys23 Tryz.f23.results [true] [.code b23] (entE 0 0 sig23 (x0, x1, ())) (entL sig23 (x0, x1, ())) = some ([Dyn.mk Ty.bool Bool.false], [], [(Prod.fst x0 != Prod.fst x1) = Bool.true]) := by kernel_rfl
theorem p23_1 (x0 : Int × Int × Int × Unit) (x1 : Int × Int × Int × Unit) : runF tab ext23 false 20 [] 2000 [] oks23 kds23 tys23 Tryz.f23.results [false, true] [.code b23] (entE 0 0 sig23 (x0, x1, ())) (entL sig23 (x0, x1, ())) = some ([Dyn.mk Ty.bool Bool.false], [], [(Prod.fst x0 != Prod.fst x1) = Bool.false, (Prod.fst (Prod.snd x0) != Prod.fst (Prod.snd x1)) = Bool.true]) := by kernel_rfl
theorem p23_2 (x0 : Int × Int × Int × Unit) (x1 : Int × Int × Int × Unit) : runF tab ext23 false 20 [] 2000 [] oks23 kds23 tys23 Tryz.f23.results [false, false, true] [.code b23] (entE 0 0 sig23 (x0, x1, ())) (entL sig23 (x0, x1, ())) = some ([Dyn.mk Ty.bool Bool.false], [], [(Prod.fst x0 != Prod.fst x1) = Bool.false, (Prod.fst (Prod.snd x0) != Prod.fst (Prod.snd x1)) = Bool.false, (Prod.fst (Prod.snd (Prod.snd x0)) != Prod.fst (Prod.snd (Prod.snd x1))) = Bool.true]) := by kernel_rfl
theorem p23_3 (x0 : Int × Int × Int × Unit) (x1 : Int × Int × Int × Unit) : runF tab ext23 false 20 [] 2000 [] oks23 kds23 tys23 Tryz.f23.results [false, false, false] [.code b23] (entE 0 0 sig23 (x0, x1, ())) (entL sig23 (x0, x1, ())) = some ([Dyn.mk Ty.bool Bool.true], [], [(Prod.fst x0 != Prod.fst x1) = Bool.false, (Prod.fst (Prod.snd x0) != Prod.fst (Prod.snd x1)) = Bool.false, (Prod.fst (Prod.snd (Prod.snd x0)) != Prod.fst (Prod.snd (Prod.snd x1))) = Bool.false]) := by kernel_rfl
theorem at23 (x0 : Int × Int × Int × Unit) (x1 : Int × Int × Int × Unit) (h : P23 x0 x1) (K : Ctx) (q : Nat → Value) : AtV Tryz.prog 23 (PostR kds23 oks23 [⟨Ty.bool, g23_0 x0 x1⟩] [] [] q K) 20 K q [] [.code b23] (entE 0 0 sig23 (x0, x1, ())) (entL sig23 (x0, x1, ())) := by
  unfold P23 at h
  unfold g23_0
  by_cases b0 : (Prod.fst x0 != Prod.fst x1) = true
  · try simp only [if_pos b0] at h ⊢
    exact AtV.fin Tryz.func23 tabOk ext23Ok mixed (p23_0 x0 x1) ⟨b0, trivial⟩
  · try simp only [if_neg b0] at h ⊢
    replace b0 := Bool.eq_false_iff.2 b0
    by_cases b1 : (Prod.fst (Prod.snd x0) != Prod.fst (Prod.snd x1)) = true
    · try simp only [if_pos b1] at h ⊢
      exact AtV.fin Tryz.func23 tabOk ext23Ok mixed (p23_1 x0 x1) ⟨b0, b1, trivial⟩
    · try simp only [if_neg b1] at h ⊢
      replace b1 := Bool.eq_false_iff.2 b1
      by_cases b2 : (Prod.fst (Prod.snd (Prod.snd x0)) != Prod.fst (Prod.snd (Prod.snd x1))) = true
      · try simp only [if_pos b2] at h ⊢
        exact AtV.fin Tryz.func23 tabOk ext23Ok mixed (p23_2 x0 x1) ⟨b0, b1, b2, trivial⟩
      · try simp only [if_neg b2] at h ⊢
        replace b2 := Bool.eq_false_iff.2 b2
        exact AtV.fin Tryz.func23 tabOk ext23Ok mixed (p23_3 x0 x1) ⟨b0, b1, b2, trivial⟩

def S23 : Am.Spec := { sig := sig23, pre := fun ⟨x0, x1, _⟩ => P23 x0 x1, res := fun ⟨x0, x1, _⟩ => [⟨Ty.bool, g23_0 x0 x1⟩], kds := kds23 }
theorem con23 : Contract Tryz.prog 23 S23 := contract_of Tryz.func23 hb23 (Nat.le_of_ble_eq_true (by kernel_rfl)) (fun ⟨x0, x1, _⟩ h _ K q => at23 x0 x1 h K q)


theorem eqd23 (x y : (Int × Int × Int × Unit)) : g23_0 x y = true ↔ x = y := by
  obtain ⟨a, b, c, u⟩ := x
  obtain ⟨a', b', c', u'⟩ := y
  unfold g23_0
  simp only [Bool.not_eq_true', bytes_ne, bne_iff_ne, ne_eq, ite_not]
  by_cases h0 : a = a'
  · by_cases h1 : b = b'
    · by_cases h2 : c = c'
      · simp [h0, h1, h2]
      · simp [h0, h1, h2]
    · simp [h0, h1]
  · simp [h0]

end
end Go.Proofs.YtpoajfdfmiafnaaGreatDoor

/- Function 9 (laws.eqTestS): its runs between cut points. Written by a program of this repo (gen). -/
set_option linter.unusedVariables false
set_option linter.unusedSimpArgs false
set_option maxRecDepth 100000
namespace Go.Proofs.YtpoajfdfmiafnaaGreatDoor
open Go Go.Am Go.Proofs
noncomputable section
def ext9 : Ext := [(23, S23)]
theorem call9_23 : Callable Tryz.prog 23 := ⟨Tryz.f23, Tryz.func23, by kernel_rfl, by kernel_rfl⟩
theorem ext9Ok : ExtOk Tryz.prog ext9 := ⟨⟨call9_23, con23⟩, trivial⟩

noncomputable def b9 : Code := bodyOf Tryz.f9
theorem hb9 : Tryz.f9.body = some b9 := by kernel_rfl
def sig9 : List AT := [AT.v (Ty.sl (Ty.cons (Ty.int IntKind.i64) (Ty.cons (Ty.int IntKind.i64) (Ty.cons (Ty.int IntKind.i64) Ty.unit)))), AT.v (Ty.sl (Ty.cons (Ty.int IntKind.i64) (Ty.cons (Ty.int IntKind.i64) (Ty.cons (Ty.int IntKind.i64) Ty.unit))))]
def tys9 : List Ty := [Ty.bool]
def kds9 : List RK := []
def oks9 : List AT := owns sig9
def E9_4 (v5 : Int) (x0 : List (Int × Int × Int × Unit)) (x1 : List (Int × Int × Int × Unit)) : Env := [(0, PV.a (Atom.sl (Ty.cons (Ty.int IntKind.i64) (Ty.cons (Ty.int IntKind.i64) (Ty.cons (Ty.int IntKind.i64) Ty.unit))) x0)), (1, PV.a (Atom.sl (Ty.cons (Ty.int IntKind.i64) (Ty.cons (Ty.int IntKind.i64) (Ty.cons (Ty.int IntKind.i64) Ty.unit))) x1)), (5, PV.a (Atom.val (Value.int IntKind.i64 v5)))]
def L9_4 (v5 : Int) (x0 : List (Int × Int × Int × Unit)) (x1 : List (Int × Int × Int × Unit)) : Heap := []
mutual
def R9 : Nat → List (Int × Int × Int × Unit) → List (Int × Int × Int × Unit) → List Dyn → Prop
  | 0, _, _, _ => False
  | n + 1, x0, x1, ds => (if ((↑(List.length x0) : Int) != (↑(List.length x1) : Int)) = true then (ds = [Dyn.mk Ty.bool Bool.false]) else (R9_4 n (0) (x0) (x1) ds))
def R9_4 : Nat → Int → List (Int × Int × Int × Unit) → List (Int × Int × Int × Unit) → List Dyn → Prop
  | 0, _, _, _, _ => False
  | n + 1, v5, x0, x1, ds => (if (Decidable.decide (v5 < (↑(List.length x0) : Int))) = true then ((0 ≤ v5) ∧ (v5 < (↑(List.length x0) : Int)) ∧ ((0 ≤ v5) ∧ (v5 < (↑(List.length x1) : Int)) ∧ (if (!g23_0 (List.getD x0 (Int.toNat v5) (0, 0, 0, ())) (List.getD x1 (Int.toNat v5) (0, 0, 0, ()))) = true then (ds = [Dyn.mk Ty.bool Bool.false]) else ((InR IntKind.i64 (v5 + 1)) ∧ (R9_4 n (v5 + 1) (x0) (x1) ds))))) else (ds = [Dyn.mk Ty.bool Bool.true]))
end
theorem p9_0 (x0 : List (Int × Int × Int × Unit)) (x1 : List (Int × Int × Int × Unit)) : runF tab ext9 false 27 [] 2000 [] oks9 kds9 tys9 Tryz.f9.results [true] [.code b9] (entE 0 0 sig9 (x0, x1, ())) (entL sig9 (x0, x1, ())) = some ([Dyn.mk Ty.bool Bool.false], [], [((↑(List.length x0) : Int) != (↑(List.length x1) : Int)) = Bool.true]) := by kernel_rfl
theorem p9_1 (x0 : List (Int × Int × Int × Unit)) (x1 : List (Int × Int × Int × Unit)) : Am.runN tab ext9 false 27 [] 2000 [] [] [0, 1, 5] [] [false] [.code b9] (entE 0 0 sig9 (x0, x1, ())) (entL sig9 (x0, x1, ())) = some (cutAt b9 4, E9_4 (0) (x0) (x1), L9_4 (0) (x0) (x1), [((↑(List.length x0) : Int) != (↑(List.length x1) : Int)) = Bool.false]) := by kernel_rfl
theorem p9_2 (v5 : Int) (x0 : List (Int × Int × Int × Unit)) (x1 : List (Int × Int × Int × Unit)) : runF tab ext9 false 27 [] 2000 [] oks9 kds9 tys9 Tryz.f9.results [true, true] (cutAt b9 4) (E9_4 v5 x0 x1) (L9_4 v5 x0 x1) = some ([Dyn.mk Ty.bool Bool.false], [], [Decidable.decide (v5 < (↑(List.length x0) : Int)) = Bool.true, 0 ≤ v5, v5 < (↑(List.length x0) : Int), 0 ≤ v5, v5 < (↑(List.length x1) : Int), True, (!g23_0 (List.getD x0 (Int.toNat v5) (0, 0, 0, ())) (List.getD x1 (Int.toNat v5) (0, 0, 0, ()))) = Bool.true]) := by kernel_rfl
theorem p9_3 (v5 : Int) (x0 : List (Int × Int × Int × Unit)) (x1 : List (Int × Int × Int × Unit)) : Am.runN tab ext9 false 27 [] 2000 [] [] [0, 1, 5] [] [true, false] (cutAt b9 4) (E9_4 v5 x0 x1) (L9_4 v5 x0 x1) = some (cutAt b9 4, E9_4 (v5 + 1) (x0) (x1), L9_4 (v5 + 1) (x0) (x1), [Decidable.decide (v5 < (↑(List.length x0) : Int)) = Bool.true, 0 ≤ v5, v5 < (↑(List.length x0) : Int), 0 ≤ v5, v5 < (↑(List.length x1) : Int), True, (!g23_0 (List.getD x0 (Int.toNat v5) (0, 0, 0, ())) (List.getD x1 (Int.toNat v5) (0, 0, 0, ()))) = Bool.false, InR IntKind.i64 (v5 + 1)]) := by kernel_rfl
theorem p9_4 (v5 : Int) (x0 : List (Int × Int × Int × Unit)) (x1 : List (Int × Int × Int × Unit)) : runF tab ext9 false 27 [] 2000 [] oks9 kds9 tys9 Tryz.f9.results [false] (cutAt b9 4) (E9_4 v5 x0 x1) (L9_4 v5 x0 x1) = some ([Dyn.mk Ty.bool Bool.true], [], [Decidable.decide (v5 < (↑(List.length x0) : Int)) = Bool.false]) := by kernel_rfl
theorem snd9 : ∀ n, (∀ (x0 : List (Int × Int × Int × Unit)) (x1 : List (Int × Int × Int × Unit)) ds, R9 n x0 x1 ds → ∀ K q, AtV Tryz.prog 9 (PostR kds9 oks9 ds [] [] q K) 27 K q [] [.code b9] (entE 0 0 sig9 (x0, x1, ())) (entL sig9 (x0, x1, ()))) ∧ (∀ (v5 : Int) (x0 : List (Int × Int × Int × Unit)) (x1 : List (Int × Int × Int × Unit)) ds, R9_4 n v5 x0 x1 ds → ∀ K q, AtV Tryz.prog 9 (PostR kds9 oks9 ds [] [] q K) 27 K q [] (cutAt b9 4) (E9_4 v5 x0 x1) (L9_4 v5 x0 x1)) := by
  intro n
  induction n with
  | zero => exact ⟨fun _ _ _ h => by simp only [R9] at h, fun _ _ _ _ h => by simp only [R9_4] at h⟩
  | succ n ih =>
  obtain ⟨ih, ih4⟩ := ih
  refine ⟨?_, ?_⟩
  · intro x0 x1 ds h K q
    rw [R9] at h
    by_cases b0 : ((↑(List.length x0) : Int) != (↑(List.length x1) : Int)) = true
    · rw [if_pos b0] at h
      subst h
      exact AtV.fin Tryz.func9 tabOk ext9Ok mixed (p9_0 x0 x1) ⟨b0, trivial⟩
    · rw [if_neg b0] at h
      replace b0 := Bool.eq_false_iff.2 b0
      exact AtV.runN tabOk ext9Ok mixed (p9_1 x0 x1) ⟨b0, trivial⟩ (ih4 _ _ _ _ h K q)

  · intro v5 x0 x1 ds h K q
    rw [R9_4] at h
    by_cases b0 : (Decidable.decide (v5 < (↑(List.length x0) : Int))) = true
    · rw [if_pos b0] at h
      obtain ⟨s0, s1, h⟩ := h
      obtain ⟨s2, s3, h⟩ := h
      by_cases b1 : (!g23_0 (List.getD x0 (Int.toNat v5) (0, 0, 0, ())) (List.getD x1 (Int.toNat v5) (0, 0, 0, ()))) = true
      · rw [if_pos b1] at h
        subst h
        exact AtV.fin Tryz.func9 tabOk ext9Ok mixed (p9_2 v5 x0 x1) ⟨b0, s0, s1, s2, s3, trivial, b1, trivial⟩
      · rw [if_neg b1] at h
        replace b1 := Bool.eq_false_iff.2 b1
        obtain ⟨s4, h⟩ := h
        exact AtV.runN tabOk ext9Ok mixed (p9_3 v5 x0 x1) ⟨b0, s0, s1, s2, s3, trivial, b1, s4, trivial⟩ (ih4 _ _ _ _ h K q)
    · rw [if_neg b0] at h
      replace b0 := Bool.eq_false_iff.2 b0
      subst h
      exact AtV.fin Tryz.func9 tabOk ext9Ok mixed (p9_4 v5 x0 x1) ⟨b0, trivial⟩



theorem eq9 (x0 x1 : List (Int × Int × Int × Unit)) (hl : x0.length = x1.length) (hm : x0.length ≤ maxLen) : ∀ k i : Nat, i + k = x0.length → R9_4 (k + 1) (i : Int) x0 x1 [⟨.bool, decide (x0.drop i = x1.drop i)⟩] := by
  intro k
  induction k with
  | zero =>
    intro i hi
    have h1 : ¬ (i : Int) < (x0.length : Int) := by omega
    rw [R9_4, if_neg (by simpa using h1), drop_end x0 i (by omega), drop_end x1 i (by omega)]
    simp
  | succ k ih =>
    intro i hi
    have h1 : (i : Int) < (x0.length : Int) := by omega
    rw [R9_4, if_pos (by simpa using h1)]
    refine ⟨by omega, h1, by omega, by omega, ?_⟩
    simp only [Int.toNat_natCast]
    rw [drop_get x0 i ((0 : Int), (0 : Int), (0 : Int), ()) (by omega), drop_get x1 i ((0 : Int), (0 : Int), (0 : Int), ()) (by omega)]
    by_cases he : x0.getD i ((0 : Int), (0 : Int), (0 : Int), ()) = x1.getD i ((0 : Int), (0 : Int), (0 : Int), ())
    · have hd := (eqd23 _ _).2 he
      rw [if_neg (by rw [hd]; simp)]
      refine ⟨inR_up hm (by omega), ?_⟩
      have := ih (i + 1) (by omega)
      simp only [he, List.cons.injEq, true_and]
      exact this
    · have hd : g23_0 (x0.getD i ((0 : Int), (0 : Int), (0 : Int), ())) (x1.getD i ((0 : Int), (0 : Int), (0 : Int), ())) = false :=
        Bool.eq_false_iff.2 fun h => he ((eqd23 _ _).1 h)
      rw [if_pos (by rw [hd]; rfl)]
      simp only [he, List.cons.injEq, false_and, decide_false]

def g9_0 (x0 x1 : List (Int × Int × Int × Unit)) : Bool := decide (x0 = x1)
def P9 (x0 x1 : List (Int × Int × Int × Unit)) : Prop := True
def S9 : Am.Spec := { sig := sig9, pre := fun ⟨x0, x1, _⟩ => P9 x0 x1, res := fun ⟨x0, x1, _⟩ => [⟨Ty.bool, g9_0 x0 x1⟩] }
theorem con9 : Contract Tryz.prog 9 S9 := contract_of Tryz.func9 hb9 (Nat.le_of_ble_eq_true (by kernel_rfl)) (fun ⟨x0, x1, _⟩ h hwf K q => by
  refine (snd9 (x0.length + 2)).1 x0 x1 _ ?_ K q
  show R9 (x0.length + 1 + 1) x0 x1 [⟨Ty.bool, decide (x0 = x1)⟩]
  rw [R9]
  by_cases hl : x0.length = x1.length
  · rw [if_neg (by simp [hl])]
    have := eq9 x0 x1 hl hwf.1.1 x0.length 0 (by omega)
    simpa using this
  · rw [if_pos (by simp; omega)]
    have : x0 ≠ x1 := fun h => hl (by rw [h])
    simp [this])

end
end Go.Proofs.YtpoajfdfmiafnaaGreatDoor

/- Function 10 (laws.markTestS): its runs between cut points. Written by a program of this repo (gen). -/
set_option linter.unusedVariables false
set_option linter.unusedSimpArgs false
set_option maxRecDepth 100000
namespace Go.Proofs.YtpoajfdfmiafnaaGreatDoor
open Go Go.Am Go.Proofs
noncomputable section
def ext10 : Ext := []
theorem ext10Ok : ExtOk Tryz.prog ext10 := trivial

noncomputable def b10 : Code := bodyOf Tryz.f10
theorem hb10 : Tryz.f10.body = some b10 := by kernel_rfl
def sig10 : List AT := [AT.own (Ty.cons (Ty.int IntKind.i64) (Ty.cons (Ty.int IntKind.i64) (Ty.cons (Ty.int IntKind.i64) Ty.unit))), AT.v (Ty.int IntKind.i64)]
def tys10 : List Ty := [Ty.int IntKind.i64]
def kds10 : List RK := []
def oks10 : List AT := owns sig10
def E10_2 (v5 : Int) (x1 : Int) (x0 : List (Int × Int × Int × Unit)) : Env := [(0, PV.a (Atom.osl 0 Option.none)), (1, PV.a (Atom.val (Value.int IntKind.i64 x1))), (5, PV.a (Atom.val (Value.int IntKind.i64 v5)))]
def L10_2 (v5 : Int) (x1 : Int) (x0 : List (Int × Int × Int × Unit)) : Heap := [Option.some (Arr.mk (Ty.cons (Ty.int IntKind.i64) (Ty.cons (Ty.int IntKind.i64) (Ty.cons (Ty.int IntKind.i64) Ty.unit))) x0 Bool.false Option.none Option.none)]
mutual
def R10 : Nat → List (Int × Int × Int × Unit) → Int → List Dyn → List (Option Lst) → Prop
  | 0, _, _, _, _ => False
  | n + 1, x0, x1, ds, us => (R10_2 n (0) (x1) (x0) ds us)
def R10_2 : Nat → Int → Int → List (Int × Int × Int × Unit) → List Dyn → List (Option Lst) → Prop
  | 0, _, _, _, _, _ => False
  | n + 1, v5, x1, x0, ds, us => (if (Decidable.decide (v5 < (↑(List.length x0) : Int))) = true then ((0 ≤ v5) ∧ (v5 < (↑(List.length x0) : Int)) ∧ ((InR IntKind.i64 (x1 + 1)) ∧ ((0 ≤ v5) ∧ (v5 < (↑(List.length (List.set x0 (Int.toNat v5) (x1, Prod.snd (List.getD x0 (Int.toNat v5) (0, 0, 0, ()))))) : Int)) ∧ ((InR IntKind.i64 (x1 + 1 + 1)) ∧ ((0 ≤ v5) ∧ (v5 < (↑(List.length (List.set (List.set x0 (Int.toNat v5) (x1, Prod.snd (List.getD x0 (Int.toNat v5) (0, 0, 0, ())))) (Int.toNat v5) (Prod.fst (List.getD (List.set x0 (Int.toNat v5) (x1, Prod.snd (List.getD x0 (Int.toNat v5) (0, 0, 0, ())))) (Int.toNat v5) (0, 0, 0, ())), x1 + 1, Prod.snd (Prod.snd (List.getD (List.set x0 (Int.toNat v5) (x1, Prod.snd (List.getD x0 (Int.toNat v5) (0, 0, 0, ())))) (Int.toNat v5) (0, 0, 0, ())))))) : Int)) ∧ ((InR IntKind.i64 (x1 + 1 + 1 + 1)) ∧ ((InR IntKind.i64 (v5 + 1)) ∧ (R10_2 n (v5 + 1) (x1 + 1 + 1 + 1) (List.set (List.set (List.set x0 (Int.toNat v5) (x1, Prod.snd (List.getD x0 (Int.toNat v5) (0, 0, 0, ())))) (Int.toNat v5) (Prod.fst (List.getD (List.set x0 (Int.toNat v5) (x1, Prod.snd (List.getD x0 (Int.toNat v5) (0, 0, 0, ())))) (Int.toNat v5) (0, 0, 0, ())), x1 + 1, Prod.snd (Prod.snd (List.getD (List.set x0 (Int.toNat v5) (x1, Prod.snd (List.getD x0 (Int.toNat v5) (0, 0, 0, ())))) (Int.toNat v5) (0, 0, 0, ()))))) (Int.toNat v5) (Prod.fst (List.getD (List.set (List.set x0 (Int.toNat v5) (x1, Prod.snd (List.getD x0 (Int.toNat v5) (0, 0, 0, ())))) (Int.toNat v5) (Prod.fst (List.getD (List.set x0 (Int.toNat v5) (x1, Prod.snd (List.getD x0 (Int.toNat v5) (0, 0, 0, ())))) (Int.toNat v5) (0, 0, 0, ())), x1 + 1, Prod.snd (Prod.snd (List.getD (List.set x0 (Int.toNat v5) (x1, Prod.snd (List.getD x0 (Int.toNat v5) (0, 0, 0, ())))) (Int.toNat v5) (0, 0, 0, ()))))) (Int.toNat v5) (0, 0, 0, ())), Prod.fst (Prod.snd (List.getD (List.set (List.set x0 (Int.toNat v5) (x1, Prod.snd (List.getD x0 (Int.toNat v5) (0, 0, 0, ())))) (Int.toNat v5) (Prod.fst (List.getD (List.set x0 (Int.toNat v5) (x1, Prod.snd (List.getD x0 (Int.toNat v5) (0, 0, 0, ())))) (Int.toNat v5) (0, 0, 0, ())), x1 + 1, Prod.snd (Prod.snd (List.getD (List.set x0 (Int.toNat v5) (x1, Prod.snd (List.getD x0 (Int.toNat v5) (0, 0, 0, ())))) (Int.toNat v5) (0, 0, 0, ()))))) (Int.toNat v5) (0, 0, 0, ()))), x1 + 1 + 1, Prod.snd (Prod.snd (Prod.snd (List.getD (List.set (List.set x0 (Int.toNat v5) (x1, Prod.snd (List.getD x0 (Int.toNat v5) (0, 0, 0, ())))) (Int.toNat v5) (Prod.fst (List.getD (List.set x0 (Int.toNat v5) (x1, Prod.snd (List.getD x0 (Int.toNat v5) (0, 0, 0, ())))) (Int.toNat v5) (0, 0, 0, ())), x1 + 1, Prod.snd (Prod.snd (List.getD (List.set x0 (Int.toNat v5) (x1, Prod.snd (List.getD x0 (Int.toNat v5) (0, 0, 0, ())))) (Int.toNat v5) (0, 0, 0, ()))))) (Int.toNat v5) (0, 0, 0, ())))))) ds us)))))))) else (ds = [Dyn.mk (Ty.int IntKind.i64) x1] ∧ us = [Option.some (Lst.mk (Ty.cons (Ty.int IntKind.i64) (Ty.cons (Ty.int IntKind.i64) (Ty.cons (Ty.int IntKind.i64) Ty.unit))) x0)]))
end
theorem p10_0 (x0 : List (Int × Int × Int × Unit)) (x1 : Int) : Am.runN tab ext10 false 34 [] 2000 [0] [] [0, 1, 5] [0] [] [.code b10] (entE 0 0 sig10 (x0, x1, ())) (entL sig10 (x0, x1, ())) = some (cutAt b10 2, E10_2 (0) (x1) (x0), L10_2 (0) (x1) (x0), []) := by kernel_rfl
theorem p10_1 (v5 : Int) (x1 : Int) (x0 : List (Int × Int × Int × Unit)) : Am.runN tab ext10 false 34 [] 2000 [0] [] [0, 1, 5] [0] [true] (cutAt b10 2) (E10_2 v5 x1 x0) (L10_2 v5 x1 x0) = some (cutAt b10 2, E10_2 (v5 + 1) (x1 + 1 + 1 + 1) (List.set (List.set (List.set x0 (Int.toNat v5) (x1, Prod.snd (List.getD x0 (Int.toNat v5) (0, 0, 0, ())))) (Int.toNat v5) (Prod.fst (List.getD (List.set x0 (Int.toNat v5) (x1, Prod.snd (List.getD x0 (Int.toNat v5) (0, 0, 0, ())))) (Int.toNat v5) (0, 0, 0, ())), x1 + 1, Prod.snd (Prod.snd (List.getD (List.set x0 (Int.toNat v5) (x1, Prod.snd (List.getD x0 (Int.toNat v5) (0, 0, 0, ())))) (Int.toNat v5) (0, 0, 0, ()))))) (Int.toNat v5) (Prod.fst (List.getD (List.set (List.set x0 (Int.toNat v5) (x1, Prod.snd (List.getD x0 (Int.toNat v5) (0, 0, 0, ())))) (Int.toNat v5) (Prod.fst (List.getD (List.set x0 (Int.toNat v5) (x1, Prod.snd (List.getD x0 (Int.toNat v5) (0, 0, 0, ())))) (Int.toNat v5) (0, 0, 0, ())), x1 + 1, Prod.snd (Prod.snd (List.getD (List.set x0 (Int.toNat v5) (x1, Prod.snd (List.getD x0 (Int.toNat v5) (0, 0, 0, ())))) (Int.toNat v5) (0, 0, 0, ()))))) (Int.toNat v5) (0, 0, 0, ())), Prod.fst (Prod.snd (List.getD (List.set (List.set x0 (Int.toNat v5) (x1, Prod.snd (List.getD x0 (Int.toNat v5) (0, 0, 0, ())))) (Int.toNat v5) (Prod.fst (List.getD (List.set x0 (Int.toNat v5) (x1, Prod.snd (List.getD x0 (Int.toNat v5) (0, 0, 0, ())))) (Int.toNat v5) (0, 0, 0, ())), x1 + 1, Prod.snd (Prod.snd (List.getD (List.set x0 (Int.toNat v5) (x1, Prod.snd (List.getD x0 (Int.toNat v5) (0, 0, 0, ())))) (Int.toNat v5) (0, 0, 0, ()))))) (Int.toNat v5) (0, 0, 0, ()))), x1 + 1 + 1, Prod.snd (Prod.snd (Prod.snd (List.getD (List.set (List.set x0 (Int.toNat v5) (x1, Prod.snd (List.getD x0 (Int.toNat v5) (0, 0, 0, ())))) (Int.toNat v5) (Prod.fst (List.getD (List.set x0 (Int.toNat v5) (x1, Prod.snd (List.getD x0 (Int.toNat v5) (0, 0, 0, ())))) (Int.toNat v5) (0, 0, 0, ())), x1 + 1, Prod.snd (Prod.snd (List.getD (List.set x0 (Int.toNat v5) (x1, Prod.snd (List.getD x0 (Int.toNat v5) (0, 0, 0, ())))) (Int.toNat v5) (0, 0, 0, ()))))) (Int.toNat v5) (0, 0, 0, ())))))), L10_2 (v5 + 1) (x1 + 1 + 1 + 1) (List.set (List.set (List.set x0 (Int.toNat v5) (x1, Prod.snd (List.getD x0 (Int.toNat v5) (0, 0, 0, ())))) (Int.toNat v5) (Prod.fst (List.getD (List.set x0 (Int.toNat v5) (x1, Prod.snd (List.getD x0 (Int.toNat v5) (0, 0, 0, ())))) (Int.toNat v5) (0, 0, 0, ())), x1 + 1, Prod.snd (Prod.snd (List.getD (List.set x0 (Int.toNat v5) (x1, Prod.snd (List.getD x0 (Int.toNat v5) (0, 0, 0, ())))) (Int.toNat v5) (0, 0, 0, ()))))) (Int.toNat v5) (Prod.fst (List.getD (List.set (List.set x0 (Int.toNat v5) (x1, Prod.snd (List.getD x0 (Int.toNat v5) (0, 0, 0, ())))) (Int.toNat v5) (Prod.fst (List.getD (List.set x0 (Int.toNat v5) (x1, Prod.snd (List.getD x0 (Int.toNat v5) (0, 0, 0, ())))) (Int.toNat v5) (0, 0, 0, ())), x1 + 1, Prod.snd (Prod.snd (List.getD (List.set x0 (Int.toNat v5) (x1, Prod.snd (List.getD x0 (Int.toNat v5) (0, 0, 0, ())))) (Int.toNat v5) (0, 0, 0, ()))))) (Int.toNat v5) (0, 0, 0, ())), Prod.fst (Prod.snd (List.getD (List.set (List.set x0 (Int.toNat v5) (x1, Prod.snd (List.getD x0 (Int.toNat v5) (0, 0, 0, ())))) (Int.toNat v5) (Prod.fst (List.getD (List.set x0 (Int.toNat v5) (x1, Prod.snd (List.getD x0 (Int.toNat v5) (0, 0, 0, ())))) (Int.toNat v5) (0, 0, 0, ())), x1 + 1, Prod.snd (Prod.snd (List.getD (List.set x0 (Int.toNat v5) (x1, Prod.snd (List.getD x0 (Int.toNat v5) (0, 0, 0, ())))) (Int.toNat v5) (0, 0, 0, ()))))) (Int.toNat v5) (0, 0, 0, ()))), x1 + 1 + 1, Prod.snd (Prod.snd (Prod.snd (List.getD (List.set (List.set x0 (Int.toNat v5) (x1, Prod.snd (List.getD x0 (Int.toNat v5) (0, 0, 0, ())))) (Int.toNat v5) (Prod.fst (List.getD (List.set x0 (Int.toNat v5) (x1, Prod.snd (List.getD x0 (Int.toNat v5) (0, 0, 0, ())))) (Int.toNat v5) (0, 0, 0, ())), x1 + 1, Prod.snd (Prod.snd (List.getD (List.set x0 (Int.toNat v5) (x1, Prod.snd (List.getD x0 (Int.toNat v5) (0, 0, 0, ())))) (Int.toNat v5) (0, 0, 0, ()))))) (Int.toNat v5) (0, 0, 0, ())))))), [Decidable.decide (v5 < (↑(List.length x0) : Int)) = Bool.true, 0 ≤ v5, v5 < (↑(List.length x0) : Int), InR IntKind.i64 (x1 + 1), 0 ≤ v5, v5 < (↑(List.length (List.set x0 (Int.toNat v5) (x1, Prod.snd (List.getD x0 (Int.toNat v5) (0, 0, 0, ()))))) : Int), InR IntKind.i64 (x1 + 1 + 1), 0 ≤ v5, v5 < (↑(List.length (List.set (List.set x0 (Int.toNat v5) (x1, Prod.snd (List.getD x0 (Int.toNat v5) (0, 0, 0, ())))) (Int.toNat v5) (Prod.fst (List.getD (List.set x0 (Int.toNat v5) (x1, Prod.snd (List.getD x0 (Int.toNat v5) (0, 0, 0, ())))) (Int.toNat v5) (0, 0, 0, ())), x1 + 1, Prod.snd (Prod.snd (List.getD (List.set x0 (Int.toNat v5) (x1, Prod.snd (List.getD x0 (Int.toNat v5) (0, 0, 0, ())))) (Int.toNat v5) (0, 0, 0, ())))))) : Int), InR IntKind.i64 (x1 + 1 + 1 + 1), InR IntKind.i64 (v5 + 1)]) := by kernel_rfl
theorem p10_2 (v5 : Int) (x1 : Int) (x0 : List (Int × Int × Int × Unit)) : runF tab ext10 false 34 [] 2000 [0] oks10 kds10 tys10 Tryz.f10.results [false] (cutAt b10 2) (E10_2 v5 x1 x0) (L10_2 v5 x1 x0) = some ([Dyn.mk (Ty.int IntKind.i64) x1], [Option.some (Lst.mk (Ty.cons (Ty.int IntKind.i64) (Ty.cons (Ty.int IntKind.i64) (Ty.cons (Ty.int IntKind.i64) Ty.unit))) x0)], [Decidable.decide (v5 < (↑(List.length x0) : Int)) = Bool.false]) := by kernel_rfl
theorem snd10 : ∀ n, (∀ (x0 : List (Int × Int × Int × Unit)) (x1 : Int) ds us, R10 n x0 x1 ds us → ∀ K q, AtV Tryz.prog 10 (PostR kds10 oks10 ds us [0] q K) 34 K q [0] [.code b10] (entE 0 0 sig10 (x0, x1, ())) (entL sig10 (x0, x1, ()))) ∧ (∀ (v5 : Int) (x1 : Int) (x0 : List (Int × Int × Int × Unit)) ds us, R10_2 n v5 x1 x0 ds us → ∀ K q, AtV Tryz.prog 10 (PostR kds10 oks10 ds us [0] q K) 34 K q [0] (cutAt b10 2) (E10_2 v5 x1 x0) (L10_2 v5 x1 x0)) := by
  intro n
  induction n with
  | zero => exact ⟨fun _ _ _ _ h => by simp only [R10] at h, fun _ _ _ _ _ h => by simp only [R10_2] at h⟩
  | succ n ih =>
  obtain ⟨ih, ih2⟩ := ih
  refine ⟨?_, ?_⟩
  · intro x0 x1 ds us h K q
    rw [R10] at h
    exact AtV.runN tabOk ext10Ok mixed (p10_0 x0 x1) trivial (ih2 _ _ _ _ _ h K q)

  · intro v5 x1 x0 ds us h K q
    rw [R10_2] at h
    by_cases b0 : (Decidable.decide (v5 < (↑(List.length x0) : Int))) = true
    · rw [if_pos b0] at h
      obtain ⟨s0, s1, h⟩ := h
      obtain ⟨s2, h⟩ := h
      obtain ⟨s3, s4, h⟩ := h
      obtain ⟨s5, h⟩ := h
      obtain ⟨s6, s7, h⟩ := h
      obtain ⟨s8, h⟩ := h
      obtain ⟨s9, h⟩ := h
      exact AtV.runN tabOk ext10Ok mixed (p10_1 v5 x1 x0) ⟨b0, s0, s1, s2, s3, s4, s5, s6, s7, s8, s9, trivial⟩ (ih2 _ _ _ _ _ h K q)
    · rw [if_neg b0] at h
      replace b0 := Bool.eq_false_iff.2 b0
      obtain ⟨h, h'⟩ := h; subst h; subst h'
      exact AtV.fin Tryz.func10 tabOk ext10Ok mixed (p10_2 v5 x1 x0) ⟨b0, trivial⟩



def M10 (x1 : Int) (n : Nat) : List (Int × Int × Int × Unit) := (List.range n).map fun (j : Nat) => ((x1 + 3 * (j : Int)), (x1 + 3 * (j : Int) + 1), (x1 + 3 * (j : Int) + 1 + 1), ())

theorem M10_len (x1 : Int) (n : Nat) : (M10 x1 n).length = n := by simp [M10]

theorem M10_succ (x1 : Int) (n : Nat) : M10 x1 (n + 1) = M10 x1 n ++ [((x1 + 3 * (n : Int)), (x1 + 3 * (n : Int) + 1), (x1 + 3 * (n : Int) + 1 + 1), ())] := by
  simp [M10, List.range_succ]

theorem run10 (x0 : List (Int × Int × Int × Unit)) (x1 : Int) (hm : x0.length ≤ maxLen) (h0 : 0 ≤ x1) (h1 : x1 + 3 * x0.length ≤ 9223372036854775807) : ∀ (k i : Nat), i + k = x0.length →
    R10_2 (k + 1) (i : Int) (x1 + 3 * (i : Int)) (M10 x1 i ++ x0.drop i) [⟨.int .i64, x1 + 3 * (x0.length : Int)⟩] [some ⟨(.cons (.int .i64) (.cons (.int .i64) (.cons (.int .i64) .unit))), M10 x1 x0.length⟩] := by
  intro k
  induction k with
  | zero =>
    intro i hi
    have hl : (M10 x1 i ++ x0.drop i).length = x0.length := by simp [M10_len]; omega
    rw [R10_2, if_neg (by rw [hl]; simp; omega), drop_end x0 i (by omega), List.append_nil]
    have : i = x0.length := by omega
    subst this
    exact ⟨rfl, rfl⟩
  | succ k ih =>
    intro i hi
    have hl : (M10 x1 i ++ x0.drop i).length = x0.length := by simp [M10_len]; omega
    have hA := M10_len x1 i
    rw [R10_2, if_pos (by rw [hl]; simp; omega)]
    rw [drop_get x0 i ((0 : Int), (0 : Int), (0 : Int), ()) (by omega)] at hl ⊢
    simp only [Int.toNat_natCast, set_mid _ _ _ _ i hA, get_mid _ _ _ _ i hA]
    have hl' : ∀ y : (Int × Int × Int × Unit), ((M10 x1 i ++ y :: x0.drop (i + 1)).length : Int) = x0.length := fun y => by rw [← hl]; simp
    simp only [hl']
    refine ⟨by omega, by omega, by rw [i64_iff]; omega, by omega, by omega, by rw [i64_iff]; omega, by omega, by omega, by rw [i64_iff]; omega, inR_up hm (by omega), ?_⟩
    have hx : x1 + 3 * (i : Int) + 1 + 1 + 1 = x1 + 3 * ((i + 1 : Nat) : Int) := by omega
    have := ih (i + 1) (by omega)
    rw [M10_succ, List.append_assoc] at this
    rw [hx]
    simpa using this

def P10 (x0 : List (Int × Int × Int × Unit)) (x1 : Int) : Prop := 0 ≤ x1 ∧ x1 + 3 * x0.length ≤ 9223372036854775807
def g10_0 (x0 : List (Int × Int × Int × Unit)) (x1 : Int) : Int := x1 + 3 * (x0.length : Int)
def u10_0 (x0 : List (Int × Int × Int × Unit)) (x1 : Int) : List (Int × Int × Int × Unit) := M10 x1 x0.length

theorem top10 (x0 : List (Int × Int × Int × Unit)) (x1 : Int) (hm : x0.length ≤ maxLen) (h : P10 x0 x1) : R10 (x0.length + 1 + 1) x0 x1 [⟨.int .i64, g10_0 x0 x1⟩] [some ⟨(.cons (.int .i64) (.cons (.int .i64) (.cons (.int .i64) .unit))), u10_0 x0 x1⟩] := by
  rw [R10]
  have := run10 x0 x1 hm h.1 h.2 x0.length 0 (by omega)
  simpa [M10, g10_0, u10_0] using this

def S10 : Am.Spec := { sig := sig10, pre := fun ⟨x0, x1, _⟩ => P10 x0 x1, upd := fun ⟨x0, x1, _⟩ => [some ⟨(.cons (.int .i64) (.cons (.int .i64) (.cons (.int .i64) .unit))), u10_0 x0 x1⟩], res := fun ⟨x0, x1, _⟩ => [⟨.int .i64, g10_0 x0 x1⟩] }
theorem con10 : Contract Tryz.prog 10 S10 := contract_of Tryz.func10 hb10 (Nat.le_of_ble_eq_true (by kernel_rfl)) (fun ⟨x0, x1, _⟩ h hwf K q =>
  (snd10 _).1 x0 x1 _ _ (top10 x0 x1 hwf.1.1 h) K q)

end
end Go.Proofs.YtpoajfdfmiafnaaGreatDoor

/- Function 24 (laws.markText): its runs between cut points. Written by a program of this repo (gen). -/
set_option linter.unusedVariables false
set_option linter.unusedSimpArgs false
set_option maxRecDepth 100000
namespace Go.Proofs.YtpoajfdfmiafnaaGreatDoor
open Go Go.Am Go.Proofs
noncomputable section
def ext24 : Ext := []
theorem ext24Ok : ExtOk Tryz.prog ext24 := trivial

noncomputable def b24 : Code := bodyOf Tryz.f24
theorem hb24 : Tryz.f24.body = some b24 := by kernel_rfl
def sig24 : List AT := [AT.v (Ty.int IntKind.i64)]
def tys24 : List Ty := [Ty.str]
def kds24 : List RK := []
def oks24 : List AT := owns sig24
def E24_4 (v3 : ByteArray) (x0 : Int) : Env := [(0, PV.a (Atom.val (Value.int IntKind.i64 x0))), (3, PV.a (Atom.val (Value.string v3)))]
def L24_4 (v3 : ByteArray) (x0 : Int) : Heap := []
mutual
def R24 : Nat → Int → List Dyn → Prop
  | 0, _, _ => False
  | n + 1, x0, ds => (if (Decidable.decide (x0 ≤ 0)) = true then (ds = [Dyn.mk Ty.str (ByteArray.mk #[109, 48])]) else (R24_4 n (ByteArray.mk #[]) (x0) ds))
def R24_4 : Nat → ByteArray → Int → List Dyn → Prop
  | 0, _, _, _ => False
  | n + 1, v3, x0, ds => (if (Decidable.decide (x0 > 0)) = true then ((InR IntKind.i64 (Int.tmod x0 10)) ∧ ((InR IntKind.i64 (48 + Int.tmod x0 10)) ∧ ((InR IntKind.u8 (48 + Int.tmod x0 10)) ∧ ((ByteArray.size (bytesStr [48 + Int.tmod x0 10]) + ByteArray.size v3 ≤ 9223372036854775807) ∧ ((InR IntKind.i64 (Int.tdiv x0 10)) ∧ (R24_4 n (bytesStr [48 + Int.tmod x0 10] ++ v3) (Int.tdiv x0 10) ds)))))) else ((1 + ByteArray.size v3 ≤ 9223372036854775807) ∧ (ds = [Dyn.mk Ty.str (ByteArray.mk #[109] ++ v3)])))
end
theorem p24_0 (x0 : Int) : runF tab ext24 false 20 [] 2000 [] oks24 kds24 tys24 Tryz.f24.results [true] [.code b24] (entE 0 0 sig24 (x0, ())) (entL sig24 (x0, ())) = some ([Dyn.mk Ty.str (ByteArray.mk #[109, 48])], [], [Decidable.decide (x0 ≤ 0) = Bool.true]) := by kernel_rfl
theorem p24_1 (x0 : Int) : Am.runN tab ext24 false 20 [] 2000 [] [] [0, 3] [] [false] [.code b24] (entE 0 0 sig24 (x0, ())) (entL sig24 (x0, ())) = some (cutAt b24 4, E24_4 (ByteArray.mk #[]) (x0), L24_4 (ByteArray.mk #[]) (x0), [Decidable.decide (x0 ≤ 0) = Bool.false]) := by kernel_rfl
theorem p24_2 (v3 : ByteArray) (x0 : Int) : Am.runN tab ext24 false 20 [] 2000 [] [] [0, 3] [] [true] (cutAt b24 4) (E24_4 v3 x0) (L24_4 v3 x0) = some (cutAt b24 4, E24_4 (bytesStr [48 + Int.tmod x0 10] ++ v3) (Int.tdiv x0 10), L24_4 (bytesStr [48 + Int.tmod x0 10] ++ v3) (Int.tdiv x0 10), [Decidable.decide (x0 > 0) = Bool.true, (10 : Int) ≠ (0 : Int), InR IntKind.i64 (Int.tmod x0 10), InR IntKind.i64 (48 + Int.tmod x0 10), InR IntKind.u8 (48 + Int.tmod x0 10), ByteArray.size (bytesStr [48 + Int.tmod x0 10]) + ByteArray.size v3 ≤ 9223372036854775807, (10 : Int) ≠ (0 : Int), InR IntKind.i64 (Int.tdiv x0 10)]) := by kernel_rfl
theorem p24_3 (v3 : ByteArray) (x0 : Int) : runF tab ext24 false 20 [] 2000 [] oks24 kds24 tys24 Tryz.f24.results [false] (cutAt b24 4) (E24_4 v3 x0) (L24_4 v3 x0) = some ([Dyn.mk Ty.str (ByteArray.mk #[109] ++ v3)], [], [Decidable.decide (x0 > 0) = Bool.false, 1 + ByteArray.size v3 ≤ 9223372036854775807]) := by kernel_rfl
theorem snd24 : ∀ n, (∀ (x0 : Int) ds, R24 n x0 ds → ∀ K q, AtV Tryz.prog 24 (PostR kds24 oks24 ds [] [] q K) 20 K q [] [.code b24] (entE 0 0 sig24 (x0, ())) (entL sig24 (x0, ()))) ∧ (∀ (v3 : ByteArray) (x0 : Int) ds, R24_4 n v3 x0 ds → ∀ K q, AtV Tryz.prog 24 (PostR kds24 oks24 ds [] [] q K) 20 K q [] (cutAt b24 4) (E24_4 v3 x0) (L24_4 v3 x0)) := by
  intro n
  induction n with
  | zero => exact ⟨fun _ _ h => by simp only [R24] at h, fun _ _ _ h => by simp only [R24_4] at h⟩
  | succ n ih =>
  obtain ⟨ih, ih4⟩ := ih
  refine ⟨?_, ?_⟩
  · intro x0 ds h K q
    rw [R24] at h
    by_cases b0 : (Decidable.decide (x0 ≤ 0)) = true
    · rw [if_pos b0] at h
      subst h
      exact AtV.fin Tryz.func24 tabOk ext24Ok mixed (p24_0 x0) ⟨b0, trivial⟩
    · rw [if_neg b0] at h
      replace b0 := Bool.eq_false_iff.2 b0
      exact AtV.runN tabOk ext24Ok mixed (p24_1 x0) ⟨b0, trivial⟩ (ih4 _ _ _ h K q)

  · intro v3 x0 ds h K q
    rw [R24_4] at h
    by_cases b0 : (Decidable.decide (x0 > 0)) = true
    · rw [if_pos b0] at h
      obtain ⟨s0, h⟩ := h
      obtain ⟨s1, h⟩ := h
      obtain ⟨s2, h⟩ := h
      obtain ⟨s3, h⟩ := h
      obtain ⟨s4, h⟩ := h
      exact AtV.runN tabOk ext24Ok mixed (p24_2 v3 x0) ⟨b0, (by decide), s0, s1, s2, s3, (by decide), s4, trivial⟩ (ih4 _ _ _ h K q)
    · rw [if_neg b0] at h
      replace b0 := Bool.eq_false_iff.2 b0
      obtain ⟨s0, h⟩ := h
      subst h
      exact AtV.fin Tryz.func24 tabOk ext24Ok mixed (p24_3 v3 x0) ⟨b0, s0, trivial⟩



def loop24 : Nat → ByteArray → Int → ByteArray
  | 0, v, _ => v
  | n + 1, v, x => if 0 < x then loop24 n (bytesStr [48 + Int.tmod x 10] ++ v) (Int.tdiv x 10) else v

theorem run24 : ∀ (n : Nat) (v : ByteArray) (x : Int), x < 10 ^ n → InR .i64 x → v.size + n ≤ 1000 → R24_4 (n + 1) v x [⟨.str, ByteArray.mk #[109] ++ loop24 n v x⟩] := by
  intro n
  induction n with
  | zero =>
    intro v x h1 _ h2
    rw [R24_4, if_neg (by simp at h1 ⊢; omega)]
    exact ⟨by omega, rfl⟩
  | succ n ih =>
    intro v x h1 hi h2
    rw [i64_iff] at hi
    rw [R24_4]
    by_cases hx : 0 < x
    · rw [if_pos (by simpa using hx)]
      have e1 : Int.tmod x 10 = x % 10 := Int.tmod_eq_emod_of_nonneg (by omega)
      have e2 : Int.tdiv x 10 = x / 10 := Int.tdiv_eq_ediv_of_nonneg (by omega)
      have hs : (bytesStr [48 + Int.tmod x 10]).size = 1 := bytesStr_size _
      have hp : (10 : Int) ^ (n + 1) = 10 * 10 ^ n := by rw [Int.pow_succ, Int.mul_comm]
      refine ⟨by rw [i64_iff, e1]; omega, by rw [i64_iff, e1]; omega, by rw [u8_iff, e1]; omega, by rw [hs]; omega, by rw [i64_iff, e2]; omega, ?_⟩
      have := ih (bytesStr [48 + Int.tmod x 10] ++ v) (Int.tdiv x 10) (by rw [e2]; omega) (by rw [i64_iff, e2]; omega) (by rw [ByteArray.size_append, hs]; omega)
      simp only [loop24, if_pos hx]
      exact this
    · rw [if_neg (by simp; omega)]
      simp only [loop24, if_neg hx]
      exact ⟨by omega, trivial⟩

def g24_0 (x0 : Int) : ByteArray := if x0 ≤ 0 then ByteArray.mk #[109, 48] else ByteArray.mk #[109] ++ loop24 19 (ByteArray.mk #[]) x0
def P24 (x0 : Int) : Prop := True

theorem top24 (x0 : Int) (hi : InR .i64 x0) : R24 21 x0 [⟨.str, g24_0 x0⟩] := by
  rw [R24]
  unfold g24_0
  by_cases h : x0 ≤ 0
  · rw [if_pos (by simpa using h), if_pos h]
  · rw [if_neg (by simpa using h), if_neg h]
    have hi' := hi
    rw [i64_iff] at hi'
    exact run24 19 _ x0 (by omega) hi (by decide)

def S24 : Am.Spec := { sig := sig24, pre := fun ⟨x0, _⟩ => P24 x0, res := fun ⟨x0, _⟩ => [⟨.str, g24_0 x0⟩] }
theorem con24 : Contract Tryz.prog 24 S24 := contract_of Tryz.func24 hb24 (Nat.le_of_ble_eq_true (by kernel_rfl)) (fun ⟨x0, _⟩ h hwf K q =>
  (snd24 _).1 x0 _ (top24 x0 hwf.1) K q)

end
end Go.Proofs.YtpoajfdfmiafnaaGreatDoor

/- Function 11 (laws.markStringS): its runs between cut points. Written by a program of this repo (gen). -/
set_option linter.unusedVariables false
set_option linter.unusedSimpArgs false
set_option maxRecDepth 100000
namespace Go.Proofs.YtpoajfdfmiafnaaGreatDoor
open Go Go.Am Go.Proofs
noncomputable section
def ext11 : Ext := [(24, S24)]
theorem call11_24 : Callable Tryz.prog 24 := ⟨Tryz.f24, Tryz.func24, by kernel_rfl, by kernel_rfl⟩
theorem ext11Ok : ExtOk Tryz.prog ext11 := ⟨⟨call11_24, con24⟩, trivial⟩

noncomputable def b11 : Code := bodyOf Tryz.f11
theorem hb11 : Tryz.f11.body = some b11 := by kernel_rfl
def sig11 : List AT := [AT.own Ty.str, AT.v (Ty.int IntKind.i64)]
def tys11 : List Ty := [Ty.int IntKind.i64]
def kds11 : List RK := []
def oks11 : List AT := owns sig11
def E11_2 (v5 : Int) (x1 : Int) (x0 : List ByteArray) : Env := [(0, PV.a (Atom.osl 0 Option.none)), (1, PV.a (Atom.val (Value.int IntKind.i64 x1))), (5, PV.a (Atom.val (Value.int IntKind.i64 v5)))]
def L11_2 (v5 : Int) (x1 : Int) (x0 : List ByteArray) : Heap := [Option.some (Arr.mk Ty.str x0 Bool.false Option.none Option.none)]
mutual
def R11 : Nat → List ByteArray → Int → List Dyn → List (Option Lst) → Prop
  | 0, _, _, _, _ => False
  | n + 1, x0, x1, ds, us => (R11_2 n (0) (x1) (x0) ds us)
def R11_2 : Nat → Int → Int → List ByteArray → List Dyn → List (Option Lst) → Prop
  | 0, _, _, _, _, _ => False
  | n + 1, v5, x1, x0, ds, us => (if (Decidable.decide (v5 < (↑(List.length x0) : Int))) = true then ((0 ≤ v5) ∧ (v5 < (↑(List.length x0) : Int)) ∧ ((InR IntKind.i64 (x1 + 1)) ∧ ((InR IntKind.i64 (v5 + 1)) ∧ (R11_2 n (v5 + 1) (x1 + 1) (List.set x0 (Int.toNat v5) (g24_0 x1)) ds us)))) else (ds = [Dyn.mk (Ty.int IntKind.i64) x1] ∧ us = [Option.some (Lst.mk Ty.str x0)]))
end
theorem p11_0 (x0 : List ByteArray) (x1 : Int) : Am.runN tab ext11 false 20 [] 2000 [0] [] [0, 1, 5] [0] [] [.code b11] (entE 0 0 sig11 (x0, x1, ())) (entL sig11 (x0, x1, ())) = some (cutAt b11 2, E11_2 (0) (x1) (x0), L11_2 (0) (x1) (x0), []) := by kernel_rfl
theorem p11_1 (v5 : Int) (x1 : Int) (x0 : List ByteArray) : Am.runN tab ext11 false 20 [] 2000 [0] [] [0, 1, 5] [0] [true] (cutAt b11 2) (E11_2 v5 x1 x0) (L11_2 v5 x1 x0) = some (cutAt b11 2, E11_2 (v5 + 1) (x1 + 1) (List.set x0 (Int.toNat v5) (g24_0 x1)), L11_2 (v5 + 1) (x1 + 1) (List.set x0 (Int.toNat v5) (g24_0 x1)), [Decidable.decide (v5 < (↑(List.length x0) : Int)) = Bool.true, True, 0 ≤ v5, v5 < (↑(List.length x0) : Int), InR IntKind.i64 (x1 + 1), InR IntKind.i64 (v5 + 1)]) := by kernel_rfl
theorem p11_2 (v5 : Int) (x1 : Int) (x0 : List ByteArray) : runF tab ext11 false 20 [] 2000 [0] oks11 kds11 tys11 Tryz.f11.results [false] (cutAt b11 2) (E11_2 v5 x1 x0) (L11_2 v5 x1 x0) = some ([Dyn.mk (Ty.int IntKind.i64) x1], [Option.some (Lst.mk Ty.str x0)], [Decidable.decide (v5 < (↑(List.length x0) : Int)) = Bool.false]) := by kernel_rfl
theorem snd11 : ∀ n, (∀ (x0 : List ByteArray) (x1 : Int) ds us, R11 n x0 x1 ds us → ∀ K q, AtV Tryz.prog 11 (PostR kds11 oks11 ds us [0] q K) 20 K q [0] [.code b11] (entE 0 0 sig11 (x0, x1, ())) (entL sig11 (x0, x1, ()))) ∧ (∀ (v5 : Int) (x1 : Int) (x0 : List ByteArray) ds us, R11_2 n v5 x1 x0 ds us → ∀ K q, AtV Tryz.prog 11 (PostR kds11 oks11 ds us [0] q K) 20 K q [0] (cutAt b11 2) (E11_2 v5 x1 x0) (L11_2 v5 x1 x0)) := by
  intro n
  induction n with
  | zero => exact ⟨fun _ _ _ _ h => by simp only [R11] at h, fun _ _ _ _ _ h => by simp only [R11_2] at h⟩
  | succ n ih =>
  obtain ⟨ih, ih2⟩ := ih
  refine ⟨?_, ?_⟩
  · intro x0 x1 ds us h K q
    rw [R11] at h
    exact AtV.runN tabOk ext11Ok mixed (p11_0 x0 x1) trivial (ih2 _ _ _ _ _ h K q)

  · intro v5 x1 x0 ds us h K q
    rw [R11_2] at h
    by_cases b0 : (Decidable.decide (v5 < (↑(List.length x0) : Int))) = true
    · rw [if_pos b0] at h
      obtain ⟨s0, s1, h⟩ := h
      obtain ⟨s2, h⟩ := h
      obtain ⟨s3, h⟩ := h
      exact AtV.runN tabOk ext11Ok mixed (p11_1 v5 x1 x0) ⟨b0, trivial, s0, s1, s2, s3, trivial⟩ (ih2 _ _ _ _ _ h K q)
    · rw [if_neg b0] at h
      replace b0 := Bool.eq_false_iff.2 b0
      obtain ⟨h, h'⟩ := h; subst h; subst h'
      exact AtV.fin Tryz.func11 tabOk ext11Ok mixed (p11_2 v5 x1 x0) ⟨b0, trivial⟩



def M11 (x1 : Int) (n : Nat) : List ByteArray := (List.range n).map fun (j : Nat) => g24_0 (x1 + (j : Int))

theorem M11_len (x1 : Int) (n : Nat) : (M11 x1 n).length = n := by simp [M11]

theorem M11_step (x1 : Int) (x0 : List ByteArray) (i : Nat) (h : i < x0.length) : (M11 x1 i ++ x0.drop i).set i (g24_0 (x1 + (i : Int))) = M11 x1 (i + 1) ++ x0.drop (i + 1) := by
  rw [List.set_append_right _ _ (by rw [M11_len]; exact Nat.le_refl _), M11_len, Nat.sub_self, List.drop_eq_getElem_cons h, List.set_cons_zero]
  simp [M11, List.range_succ]

theorem run11 (x0 : List ByteArray) (x1 : Int) (hm : x0.length ≤ maxLen) (h0 : 0 ≤ x1) (h1 : x1 + x0.length ≤ 9223372036854775807) : ∀ (k i : Nat), i + k = x0.length →
    R11_2 (k + 1) (i : Int) (x1 + (i : Int)) (M11 x1 i ++ x0.drop i) [⟨.int .i64, x1 + (x0.length : Int)⟩] [some ⟨.str, M11 x1 x0.length⟩] := by
  intro k
  induction k with
  | zero =>
    intro i hi
    have hl : (M11 x1 i ++ x0.drop i).length = x0.length := by simp [M11_len]; omega
    rw [R11_2, if_neg (by rw [hl]; simp; omega), drop_end x0 i (by omega), List.append_nil]
    have : i = x0.length := by omega
    subst this
    exact ⟨rfl, rfl⟩
  | succ k ih =>
    intro i hi
    have hl : (M11 x1 i ++ x0.drop i).length = x0.length := by simp [M11_len]; omega
    rw [R11_2, if_pos (by rw [hl]; simp; omega), hl]
    simp only [Int.toNat_natCast]
    refine ⟨by omega, by omega, by rw [i64_iff]; omega, inR_up hm (by omega), ?_⟩
    rw [M11_step x1 x0 i (by omega), Int.add_assoc]
    exact ih (i + 1) (by omega)

def P11 (x0 : List ByteArray) (x1 : Int) : Prop := 0 ≤ x1 ∧ x1 + x0.length ≤ 9223372036854775807
def g11_0 (x0 : List ByteArray) (x1 : Int) : Int := x1 + (x0.length : Int)
def u11_0 (x0 : List ByteArray) (x1 : Int) : List ByteArray := M11 x1 x0.length

theorem top11 (x0 : List ByteArray) (x1 : Int) (hm : x0.length ≤ maxLen) (h : P11 x0 x1) : R11 (x0.length + 1 + 1) x0 x1 [⟨.int .i64, g11_0 x0 x1⟩] [some ⟨.str, u11_0 x0 x1⟩] := by
  rw [R11]
  have := run11 x0 x1 hm h.1 h.2 x0.length 0 (by omega)
  simpa [M11, g11_0, u11_0] using this

def S11 : Am.Spec := { sig := sig11, pre := fun ⟨x0, x1, _⟩ => P11 x0 x1, upd := fun ⟨x0, x1, _⟩ => [some ⟨.str, u11_0 x0 x1⟩], res := fun ⟨x0, x1, _⟩ => [⟨.int .i64, g11_0 x0 x1⟩] }
theorem con11 : Contract Tryz.prog 11 S11 := contract_of Tryz.func11 hb11 (Nat.le_of_ble_eq_true (by kernel_rfl)) (fun ⟨x0, x1, _⟩ h hwf K q =>
  (snd11 _).1 x0 x1 _ _ (top11 x0 x1 hwf.1.1 h) K q)

end
end Go.Proofs.YtpoajfdfmiafnaaGreatDoor

/- Function 12 (laws.heldStringS): its runs between cut points. Written by a program of this repo (gen). -/
set_option linter.unusedVariables false
set_option linter.unusedSimpArgs false
set_option maxRecDepth 100000
namespace Go.Proofs.YtpoajfdfmiafnaaGreatDoor
open Go Go.Am Go.Proofs
noncomputable section
def ext12 : Ext := [(24, S24)]
theorem call12_24 : Callable Tryz.prog 24 := ⟨Tryz.f24, Tryz.func24, by kernel_rfl, by kernel_rfl⟩
theorem ext12Ok : ExtOk Tryz.prog ext12 := ⟨⟨call12_24, con24⟩, trivial⟩

noncomputable def b12 : Code := bodyOf Tryz.f12
theorem hb12 : Tryz.f12.body = some b12 := by kernel_rfl
def sig12 : List AT := [AT.v (Ty.sl Ty.str), AT.v (Ty.int IntKind.i64)]
def tys12 : List Ty := [Ty.int IntKind.i64]
def kds12 : List RK := []
def oks12 : List AT := owns sig12
def E12_2 (v5 : Int) (x0 : List ByteArray) (x1 : Int) : Env := [(0, PV.a (Atom.sl Ty.str x0)), (1, PV.a (Atom.val (Value.int IntKind.i64 x1))), (5, PV.a (Atom.val (Value.int IntKind.i64 v5)))]
def L12_2 (v5 : Int) (x0 : List ByteArray) (x1 : Int) : Heap := []
mutual
def R12 : Nat → List ByteArray → Int → List Dyn → Prop
  | 0, _, _, _ => False
  | n + 1, x0, x1, ds => (R12_2 n (0) (x0) (x1) ds)
def R12_2 : Nat → Int → List ByteArray → Int → List Dyn → Prop
  | 0, _, _, _, _ => False
  | n + 1, v5, x0, x1, ds => (if (Decidable.decide (v5 < (↑(List.length x0) : Int))) = true then ((0 ≤ v5) ∧ (v5 < (↑(List.length x0) : Int)) ∧ (if (!ByteArray.toList (List.getD x0 (Int.toNat v5) ByteArray.empty) == ByteArray.toList (g24_0 x1)) = true then (ds = [Dyn.mk (Ty.int IntKind.i64) (-1)]) else ((InR IntKind.i64 (x1 + 1)) ∧ ((InR IntKind.i64 (v5 + 1)) ∧ (R12_2 n (v5 + 1) (x0) (x1 + 1) ds))))) else (ds = [Dyn.mk (Ty.int IntKind.i64) x1]))
end
theorem p12_0 (x0 : List ByteArray) (x1 : Int) : Am.runN tab ext12 false 22 [] 2000 [] [] [0, 1, 5] [] [] [.code b12] (entE 0 0 sig12 (x0, x1, ())) (entL sig12 (x0, x1, ())) = some (cutAt b12 2, E12_2 (0) (x0) (x1), L12_2 (0) (x0) (x1), []) := by kernel_rfl
theorem p12_1 (v5 : Int) (x0 : List ByteArray) (x1 : Int) : runF tab ext12 false 22 [] 2000 [] oks12 kds12 tys12 Tryz.f12.results [true, true] (cutAt b12 2) (E12_2 v5 x0 x1) (L12_2 v5 x0 x1) = some ([Dyn.mk (Ty.int IntKind.i64) (-1)], [], [Decidable.decide (v5 < (↑(List.length x0) : Int)) = Bool.true, 0 ≤ v5, v5 < (↑(List.length x0) : Int), True, (!ByteArray.toList (List.getD x0 (Int.toNat v5) ByteArray.empty) == ByteArray.toList (g24_0 x1)) = Bool.true]) := by kernel_rfl
theorem p12_2 (v5 : Int) (x0 : List ByteArray) (x1 : Int) : Am.runN tab ext12 false 22 [] 2000 [] [] [0, 1, 5] [] [true, false] (cutAt b12 2) (E12_2 v5 x0 x1) (L12_2 v5 x0 x1) = some (cutAt b12 2, E12_2 (v5 + 1) (x0) (x1 + 1), L12_2 (v5 + 1) (x0) (x1 + 1), [Decidable.decide (v5 < (↑(List.length x0) : Int)) = Bool.true, 0 ≤ v5, v5 < (↑(List.length x0) : Int), True, (!ByteArray.toList (List.getD x0 (Int.toNat v5) ByteArray.empty) == ByteArray.toList (g24_0 x1)) = Bool.false, InR IntKind.i64 (x1 + 1), InR IntKind.i64 (v5 + 1)]) := by kernel_rfl
theorem p12_3 (v5 : Int) (x0 : List ByteArray) (x1 : Int) : runF tab ext12 false 22 [] 2000 [] oks12 kds12 tys12 Tryz.f12.results [false] (cutAt b12 2) (E12_2 v5 x0 x1) (L12_2 v5 x0 x1) = some ([Dyn.mk (Ty.int IntKind.i64) x1], [], [Decidable.decide (v5 < (↑(List.length x0) : Int)) = Bool.false]) := by kernel_rfl
theorem snd12 : ∀ n, (∀ (x0 : List ByteArray) (x1 : Int) ds, R12 n x0 x1 ds → ∀ K q, AtV Tryz.prog 12 (PostR kds12 oks12 ds [] [] q K) 22 K q [] [.code b12] (entE 0 0 sig12 (x0, x1, ())) (entL sig12 (x0, x1, ()))) ∧ (∀ (v5 : Int) (x0 : List ByteArray) (x1 : Int) ds, R12_2 n v5 x0 x1 ds → ∀ K q, AtV Tryz.prog 12 (PostR kds12 oks12 ds [] [] q K) 22 K q [] (cutAt b12 2) (E12_2 v5 x0 x1) (L12_2 v5 x0 x1)) := by
  intro n
  induction n with
  | zero => exact ⟨fun _ _ _ h => by simp only [R12] at h, fun _ _ _ _ h => by simp only [R12_2] at h⟩
  | succ n ih =>
  obtain ⟨ih, ih2⟩ := ih
  refine ⟨?_, ?_⟩
  · intro x0 x1 ds h K q
    rw [R12] at h
    exact AtV.runN tabOk ext12Ok mixed (p12_0 x0 x1) trivial (ih2 _ _ _ _ h K q)

  · intro v5 x0 x1 ds h K q
    rw [R12_2] at h
    by_cases b0 : (Decidable.decide (v5 < (↑(List.length x0) : Int))) = true
    · rw [if_pos b0] at h
      obtain ⟨s0, s1, h⟩ := h
      by_cases b1 : (!ByteArray.toList (List.getD x0 (Int.toNat v5) ByteArray.empty) == ByteArray.toList (g24_0 x1)) = true
      · rw [if_pos b1] at h
        subst h
        exact AtV.fin Tryz.func12 tabOk ext12Ok mixed (p12_1 v5 x0 x1) ⟨b0, s0, s1, trivial, b1, trivial⟩
      · rw [if_neg b1] at h
        replace b1 := Bool.eq_false_iff.2 b1
        obtain ⟨s2, h⟩ := h
        obtain ⟨s3, h⟩ := h
        exact AtV.runN tabOk ext12Ok mixed (p12_2 v5 x0 x1) ⟨b0, s0, s1, trivial, b1, s2, s3, trivial⟩ (ih2 _ _ _ _ h K q)
    · rw [if_neg b0] at h
      replace b0 := Bool.eq_false_iff.2 b0
      subst h
      exact AtV.fin Tryz.func12 tabOk ext12Ok mixed (p12_3 v5 x0 x1) ⟨b0, trivial⟩



theorem run12 (x0 : List ByteArray) (x1 : Int) (hm : x0.length ≤ maxLen) (h0 : 0 ≤ x1) (h1 : x1 + x0.length ≤ 9223372036854775807) (he : ∀ i : Nat, i < x0.length → x0.getD i ByteArray.empty = g24_0 (x1 + (i : Int))) : ∀ (k i : Nat), i + k = x0.length →
    R12_2 (k + 1) (i : Int) x0 (x1 + (i : Int)) [⟨.int .i64, x1 + (x0.length : Int)⟩] := by
  intro k
  induction k with
  | zero =>
    intro i hi
    rw [R12_2, if_neg (by simp; omega)]
    have : i = x0.length := by omega
    subst this
    rfl
  | succ k ih =>
    intro i hi
    rw [R12_2, if_pos (by simp; omega)]
    simp only [Int.toNat_natCast]
    have hb := (bytes_eq _ _).2 (he i (by omega))
    refine ⟨by omega, by omega, ?_⟩
    rw [if_neg (by rw [hb]; simp)]
    refine ⟨by rw [i64_iff]; omega, inR_up hm (by omega), ?_⟩
    rw [Int.add_assoc]
    exact ih (i + 1) (by omega)

def P12 (x0 : List ByteArray) (x1 : Int) : Prop := (0 ≤ x1 ∧ x1 + x0.length ≤ 9223372036854775807) ∧ ∀ i : Nat, i < x0.length → x0.getD i ByteArray.empty = g24_0 (x1 + (i : Int))
def g12_0 (x0 : List ByteArray) (x1 : Int) : Int := x1 + (x0.length : Int)

theorem top12 (x0 : List ByteArray) (x1 : Int) (hm : x0.length ≤ maxLen) (h : P12 x0 x1) : R12 (x0.length + 1 + 1) x0 x1 [⟨.int .i64, g12_0 x0 x1⟩] := by
  rw [R12]
  have := run12 x0 x1 hm h.1.1 h.1.2 h.2 x0.length 0 (by omega)
  simpa [g12_0] using this

def S12 : Am.Spec := { sig := sig12, pre := fun ⟨x0, x1, _⟩ => P12 x0 x1, res := fun ⟨x0, x1, _⟩ => [⟨.int .i64, g12_0 x0 x1⟩] }
theorem con12 : Contract Tryz.prog 12 S12 := contract_of Tryz.func12 hb12 (Nat.le_of_ble_eq_true (by kernel_rfl)) (fun ⟨x0, x1, _⟩ h hwf K q =>
  (snd12 _).1 x0 x1 _ (top12 x0 x1 hwf.1.1 h) K q)

end
end Go.Proofs.YtpoajfdfmiafnaaGreatDoor

/- Function 3 (laws.FnExactWearReport): its runs between cut points. Written by a program of this repo (gen). -/
set_option linter.unusedVariables false
set_option linter.unusedSimpArgs false
set_option maxRecDepth 100000
namespace Go.Proofs.YtpoajfdfmiafnaaGreatDoor
open Go Go.Am Go.Proofs
noncomputable section
def ext3 : Ext := [(4, S4), (6, S6), (5, S5), (7, S7), (8, S8), (9, S9), (10, S10), (11, S11), (12, S12)]
theorem call3_4 : Callable Tryz.prog 4 := ⟨Tryz.f4, Tryz.func4, by kernel_rfl, by kernel_rfl⟩
theorem call3_6 : Callable Tryz.prog 6 := ⟨Tryz.f6, Tryz.func6, by kernel_rfl, by kernel_rfl⟩
theorem call3_5 : Callable Tryz.prog 5 := ⟨Tryz.f5, Tryz.func5, by kernel_rfl, by kernel_rfl⟩
theorem call3_7 : Callable Tryz.prog 7 := ⟨Tryz.f7, Tryz.func7, by kernel_rfl, by kernel_rfl⟩
theorem call3_8 : Callable Tryz.prog 8 := ⟨Tryz.f8, Tryz.func8, by kernel_rfl, by kernel_rfl⟩
theorem call3_9 : Callable Tryz.prog 9 := ⟨Tryz.f9, Tryz.func9, by kernel_rfl, by kernel_rfl⟩
theorem call3_10 : Callable Tryz.prog 10 := ⟨Tryz.f10, Tryz.func10, by kernel_rfl, by kernel_rfl⟩
theorem call3_11 : Callable Tryz.prog 11 := ⟨Tryz.f11, Tryz.func11, by kernel_rfl, by kernel_rfl⟩
theorem call3_12 : Callable Tryz.prog 12 := ⟨Tryz.f12, Tryz.func12, by kernel_rfl, by kernel_rfl⟩
theorem ext3Ok : ExtOk Tryz.prog ext3 := ⟨⟨call3_4, con4⟩, ⟨call3_6, con6⟩, ⟨call3_5, con5⟩, ⟨call3_7, con7⟩, ⟨call3_8, con8⟩, ⟨call3_9, con9⟩, ⟨call3_10, con10⟩, ⟨call3_11, con11⟩, ⟨call3_12, con12⟩, trivial⟩

noncomputable def b3 : Code := bodyOf Tryz.f3
theorem hb3 : Tryz.f3.body = some b3 := by kernel_rfl
def sig3 : List AT := [AT.v (Ty.sl (Ty.cons (Ty.int IntKind.i64) (Ty.cons (Ty.int IntKind.i64) (Ty.cons (Ty.int IntKind.i64) Ty.unit))))]
def tys3 : List Ty := [Ty.bool]
def kds3 : List RK := []
def oks3 : List AT := owns sig3
def P3 (x0 : List (Int × Int × Int × Unit)) : Prop := ((P4 x0 1048576) ∧ (if (Decidable.decide (g4_0 x0 1048576 < 0)) = true then True else ((P6 x0) ∧ ((P5 (g6_0 x0)) ∧ ((P6 x0) ∧ ((P7 (g6_0 x0)) ∧ (if (!g8_0 (g7_0 (g6_0 x0)) (g5_0 (g6_0 x0))) = true then True else (if (g7_1 (g6_0 x0) != g5_1 (g6_0 x0)) = true then True else ((P6 x0) ∧ (if (!g9_0 (g6_0 x0) (g6_0 x0)) = true then True else ((P10 (g6_0 x0) 1) ∧ (List.length (u10_0 (g6_0 x0) 1) = List.length (g6_0 x0)) ∧ (if (Decidable.decide (g10_0 (g6_0 x0) 1 < 0)) = true then True else ((P11 (g7_0 (g6_0 x0)) 1) ∧ (List.length (u11_0 (g7_0 (g6_0 x0)) 1) = List.length (g7_0 (g6_0 x0))) ∧ ((P12 (u11_0 (g7_0 (g6_0 x0)) 1) 1) ∧ (if (Decidable.decide (g12_0 (u11_0 (g7_0 (g6_0 x0)) 1) 1 < 0)) = true then True else (if (g12_0 (u11_0 (g7_0 (g6_0 x0)) 1) 1 != g11_0 (g7_0 (g6_0 x0)) 1) = true then True else ((P6 x0) ∧ ((P7 (g6_0 x0)) ∧ ((P12 (u11_0 (g7_0 (g6_0 x0)) 1) 1) ∧ True)))))))))))))))))))
def g3_0 (x0 : List (Int × Int × Int × Unit)) : Bool := (if (Decidable.decide (g4_0 x0 1048576 < 0)) = true then Bool.true else (if (!g8_0 (g7_0 (g6_0 x0)) (g5_0 (g6_0 x0))) = true then Bool.false else (if (g7_1 (g6_0 x0) != g5_1 (g6_0 x0)) = true then Bool.false else (if (!g9_0 (g6_0 x0) (g6_0 x0)) = true then Bool.false else (if (Decidable.decide (g10_0 (g6_0 x0) 1 < 0)) = true then Bool.false else (if (Decidable.decide (g12_0 (u11_0 (g7_0 (g6_0 x0)) 1) 1 < 0)) = true then Bool.false else (if (g12_0 (u11_0 (g7_0 (g6_0 x0)) 1) 1 != g11_0 (g7_0 (g6_0 x0)) 1) = true then Bool.false else Bool.true)))))))
theorem p3_0 (x0 : List (Int × Int × Int × Unit)) : runF tab ext3 false 96 [] 2000 [] oks3 kds3 tys3 Tryz.f3.results [true] [.code b3] (entE 0 0 sig3 (x0, ())) (entL sig3 (x0, ())) = some ([Dyn.mk Ty.bool Bool.true], [], [P4 x0 1048576, Decidable.decide (g4_0 x0 1048576 < 0) = Bool.true]) := by kernel_rfl
theorem p3_1 (x0 : List (Int × Int × Int × Unit)) : runF tab ext3 false 96 [] 2000 [] oks3 kds3 tys3 Tryz.f3.results [false, true, true] [.code b3] (entE 0 0 sig3 (x0, ())) (entL sig3 (x0, ())) = some ([Dyn.mk Ty.bool Bool.false], [], [P4 x0 1048576, Decidable.decide (g4_0 x0 1048576 < 0) = Bool.false, P6 x0, P5 (g6_0 x0), P6 x0, P7 (g6_0 x0), True, (!g8_0 (g7_0 (g6_0 x0)) (g5_0 (g6_0 x0))) = Bool.true, Bool.true = Bool.true]) := by kernel_rfl
theorem p3_2 (x0 : List (Int × Int × Int × Unit)) : runF tab ext3 false 96 [] 2000 [] oks3 kds3 tys3 Tryz.f3.results [false, false, true] [.code b3] (entE 0 0 sig3 (x0, ())) (entL sig3 (x0, ())) = some ([Dyn.mk Ty.bool Bool.false], [], [P4 x0 1048576, Decidable.decide (g4_0 x0 1048576 < 0) = Bool.false, P6 x0, P5 (g6_0 x0), P6 x0, P7 (g6_0 x0), True, (!g8_0 (g7_0 (g6_0 x0)) (g5_0 (g6_0 x0))) = Bool.false, (g7_1 (g6_0 x0) != g5_1 (g6_0 x0)) = Bool.true]) := by kernel_rfl
theorem p3_3 (x0 : List (Int × Int × Int × Unit)) : runF tab ext3 false 96 [] 2000 [] oks3 kds3 tys3 Tryz.f3.results [false, false, false, true] [.code b3] (entE 0 0 sig3 (x0, ())) (entL sig3 (x0, ())) = some ([Dyn.mk Ty.bool Bool.false], [], [P4 x0 1048576, Decidable.decide (g4_0 x0 1048576 < 0) = Bool.false, P6 x0, P5 (g6_0 x0), P6 x0, P7 (g6_0 x0), True, (!g8_0 (g7_0 (g6_0 x0)) (g5_0 (g6_0 x0))) = Bool.false, (g7_1 (g6_0 x0) != g5_1 (g6_0 x0)) = Bool.false, P6 x0, True, (!g9_0 (g6_0 x0) (g6_0 x0)) = Bool.true]) := by kernel_rfl
theorem p3_4 (x0 : List (Int × Int × Int × Unit)) : runF tab ext3 false 96 [] 2000 [] oks3 kds3 tys3 Tryz.f3.results [false, false, false, false, true, true, true] [.code b3] (entE 0 0 sig3 (x0, ())) (entL sig3 (x0, ())) = some ([Dyn.mk Ty.bool Bool.false], [], [P4 x0 1048576, Decidable.decide (g4_0 x0 1048576 < 0) = Bool.false, P6 x0, P5 (g6_0 x0), P6 x0, P7 (g6_0 x0), True, (!g8_0 (g7_0 (g6_0 x0)) (g5_0 (g6_0 x0))) = Bool.false, (g7_1 (g6_0 x0) != g5_1 (g6_0 x0)) = Bool.false, P6 x0, True, (!g9_0 (g6_0 x0) (g6_0 x0)) = Bool.false, P10 (g6_0 x0) 1, List.length (u10_0 (g6_0 x0) 1) = List.length (g6_0 x0), Decidable.decide (g10_0 (g6_0 x0) 1 < 0) = Bool.true, Bool.true = Bool.true, Bool.true = Bool.true]) := by kernel_rfl
theorem p3_5 (x0 : List (Int × Int × Int × Unit)) : runF tab ext3 false 96 [] 2000 [] oks3 kds3 tys3 Tryz.f3.results [false, false, false, false, false, false, false, true] [.code b3] (entE 0 0 sig3 (x0, ())) (entL sig3 (x0, ())) = some ([Dyn.mk Ty.bool Bool.false], [], [P4 x0 1048576, Decidable.decide (g4_0 x0 1048576 < 0) = Bool.false, P6 x0, P5 (g6_0 x0), P6 x0, P7 (g6_0 x0), True, (!g8_0 (g7_0 (g6_0 x0)) (g5_0 (g6_0 x0))) = Bool.false, (g7_1 (g6_0 x0) != g5_1 (g6_0 x0)) = Bool.false, P6 x0, True, (!g9_0 (g6_0 x0) (g6_0 x0)) = Bool.false, P10 (g6_0 x0) 1, List.length (u10_0 (g6_0 x0) 1) = List.length (g6_0 x0), Decidable.decide (g10_0 (g6_0 x0) 1 < 0) = Bool.false, True, (!g8_0 (g7_0 (g6_0 x0)) (g5_0 (g6_0 x0))) = Bool.false, (g7_1 (g6_0 x0) != g5_1 (g6_0 x0)) = Bool.false, P11 (g7_0 (g6_0 x0)) 1, List.length (u11_0 (g7_0 (g6_0 x0)) 1) = List.length (g7_0 (g6_0 x0)), P12 (u11_0 (g7_0 (g6_0 x0)) 1) 1, Decidable.decide (g12_0 (u11_0 (g7_0 (g6_0 x0)) 1) 1 < 0) = Bool.true]) := by kernel_rfl
theorem p3_6 (x0 : List (Int × Int × Int × Unit)) : runF tab ext3 false 96 [] 2000 [] oks3 kds3 tys3 Tryz.f3.results [false, false, false, false, false, false, false, false, true] [.code b3] (entE 0 0 sig3 (x0, ())) (entL sig3 (x0, ())) = some ([Dyn.mk Ty.bool Bool.false], [], [P4 x0 1048576, Decidable.decide (g4_0 x0 1048576 < 0) = Bool.false, P6 x0, P5 (g6_0 x0), P6 x0, P7 (g6_0 x0), True, (!g8_0 (g7_0 (g6_0 x0)) (g5_0 (g6_0 x0))) = Bool.false, (g7_1 (g6_0 x0) != g5_1 (g6_0 x0)) = Bool.false, P6 x0, True, (!g9_0 (g6_0 x0) (g6_0 x0)) = Bool.false, P10 (g6_0 x0) 1, List.length (u10_0 (g6_0 x0) 1) = List.length (g6_0 x0), Decidable.decide (g10_0 (g6_0 x0) 1 < 0) = Bool.false, True, (!g8_0 (g7_0 (g6_0 x0)) (g5_0 (g6_0 x0))) = Bool.false, (g7_1 (g6_0 x0) != g5_1 (g6_0 x0)) = Bool.false, P11 (g7_0 (g6_0 x0)) 1, List.length (u11_0 (g7_0 (g6_0 x0)) 1) = List.length (g7_0 (g6_0 x0)), P12 (u11_0 (g7_0 (g6_0 x0)) 1) 1, Decidable.decide (g12_0 (u11_0 (g7_0 (g6_0 x0)) 1) 1 < 0) = Bool.false, (g12_0 (u11_0 (g7_0 (g6_0 x0)) 1) 1 != g11_0 (g7_0 (g6_0 x0)) 1) = Bool.true]) := by kernel_rfl
theorem p3_7 (x0 : List (Int × Int × Int × Unit)) : runF tab ext3 false 96 [] 2000 [] oks3 kds3 tys3 Tryz.f3.results [false, false, false, false, false, false, false, false, false, false, false, false, false] [.code b3] (entE 0 0 sig3 (x0, ())) (entL sig3 (x0, ())) = some ([Dyn.mk Ty.bool Bool.true], [], [P4 x0 1048576, Decidable.decide (g4_0 x0 1048576 < 0) = Bool.false, P6 x0, P5 (g6_0 x0), P6 x0, P7 (g6_0 x0), True, (!g8_0 (g7_0 (g6_0 x0)) (g5_0 (g6_0 x0))) = Bool.false, (g7_1 (g6_0 x0) != g5_1 (g6_0 x0)) = Bool.false, P6 x0, True, (!g9_0 (g6_0 x0) (g6_0 x0)) = Bool.false, P10 (g6_0 x0) 1, List.length (u10_0 (g6_0 x0) 1) = List.length (g6_0 x0), Decidable.decide (g10_0 (g6_0 x0) 1 < 0) = Bool.false, True, (!g8_0 (g7_0 (g6_0 x0)) (g5_0 (g6_0 x0))) = Bool.false, (g7_1 (g6_0 x0) != g5_1 (g6_0 x0)) = Bool.false, P11 (g7_0 (g6_0 x0)) 1, List.length (u11_0 (g7_0 (g6_0 x0)) 1) = List.length (g7_0 (g6_0 x0)), P12 (u11_0 (g7_0 (g6_0 x0)) 1) 1, Decidable.decide (g12_0 (u11_0 (g7_0 (g6_0 x0)) 1) 1 < 0) = Bool.false, (g12_0 (u11_0 (g7_0 (g6_0 x0)) 1) 1 != g11_0 (g7_0 (g6_0 x0)) 1) = Bool.false, P6 x0, P7 (g6_0 x0), True, (!g8_0 (g7_0 (g6_0 x0)) (g5_0 (g6_0 x0))) = Bool.false, (g7_1 (g6_0 x0) != g5_1 (g6_0 x0)) = Bool.false, P12 (u11_0 (g7_0 (g6_0 x0)) 1) 1, Decidable.decide (g12_0 (u11_0 (g7_0 (g6_0 x0)) 1) 1 < 0) = Bool.false, (g12_0 (u11_0 (g7_0 (g6_0 x0)) 1) 1 != g11_0 (g7_0 (g6_0 x0)) 1) = Bool.false]) := by kernel_rfl
theorem at3 (x0 : List (Int × Int × Int × Unit)) (h : P3 x0) (K : Ctx) (q : Nat → Value) : AtV Tryz.prog 3 (PostR kds3 oks3 [⟨Ty.bool, g3_0 x0⟩] [] [] q K) 96 K q [] [.code b3] (entE 0 0 sig3 (x0, ())) (entL sig3 (x0, ())) := by
  unfold P3 at h
  unfold g3_0
  obtain ⟨s0, h⟩ := h
  by_cases b0 : (Decidable.decide (g4_0 x0 1048576 < 0)) = true
  · try simp only [if_pos b0] at h ⊢
    exact AtV.fin Tryz.func3 tabOk ext3Ok mixed (p3_0 x0) ⟨s0, b0, trivial⟩
  · try simp only [if_neg b0] at h ⊢
    replace b0 := Bool.eq_false_iff.2 b0
    obtain ⟨s1, h⟩ := h
    obtain ⟨s2, h⟩ := h
    obtain ⟨s3, h⟩ := h
    obtain ⟨s4, h⟩ := h
    by_cases b1 : (!g8_0 (g7_0 (g6_0 x0)) (g5_0 (g6_0 x0))) = true
    · try simp only [if_pos b1] at h ⊢
      exact AtV.fin Tryz.func3 tabOk ext3Ok mixed (p3_1 x0) ⟨s0, b0, s1, s2, s3, s4, trivial, b1, rfl, trivial⟩
    · try simp only [if_neg b1] at h ⊢
      replace b1 := Bool.eq_false_iff.2 b1
      by_cases b2 : (g7_1 (g6_0 x0) != g5_1 (g6_0 x0)) = true
      · try simp only [if_pos b2] at h ⊢
        exact AtV.fin Tryz.func3 tabOk ext3Ok mixed (p3_2 x0) ⟨s0, b0, s1, s2, s3, s4, trivial, b1, b2, trivial⟩
      · try simp only [if_neg b2] at h ⊢
        replace b2 := Bool.eq_false_iff.2 b2
        obtain ⟨s5, h⟩ := h
        by_cases b3 : (!g9_0 (g6_0 x0) (g6_0 x0)) = true
        · try simp only [if_pos b3] at h ⊢
          exact AtV.fin Tryz.func3 tabOk ext3Ok mixed (p3_3 x0) ⟨s0, b0, s1, s2, s3, s4, trivial, b1, b2, s5, trivial, b3, trivial⟩
        · try simp only [if_neg b3] at h ⊢
          replace b3 := Bool.eq_false_iff.2 b3
          obtain ⟨s6, s7, h⟩ := h
          by_cases b4 : (Decidable.decide (g10_0 (g6_0 x0) 1 < 0)) = true
          · try simp only [if_pos b4] at h ⊢
            exact AtV.fin Tryz.func3 tabOk ext3Ok mixed (p3_4 x0) ⟨s0, b0, s1, s2, s3, s4, trivial, b1, b2, s5, trivial, b3, s6, s7, b4, rfl, rfl, trivial⟩
          · try simp only [if_neg b4] at h ⊢
            replace b4 := Bool.eq_false_iff.2 b4
            obtain ⟨s8, s9, h⟩ := h
            obtain ⟨s10, h⟩ := h
            by_cases b5 : (Decidable.decide (g12_0 (u11_0 (g7_0 (g6_0 x0)) 1) 1 < 0)) = true
            · try simp only [if_pos b5] at h ⊢
              exact AtV.fin Tryz.func3 tabOk ext3Ok mixed (p3_5 x0) ⟨s0, b0, s1, s2, s3, s4, trivial, b1, b2, s5, trivial, b3, s6, s7, b4, trivial, b1, b2, s8, s9, s10, b5, trivial⟩
            · try simp only [if_neg b5] at h ⊢
              replace b5 := Bool.eq_false_iff.2 b5
              by_cases b6 : (g12_0 (u11_0 (g7_0 (g6_0 x0)) 1) 1 != g11_0 (g7_0 (g6_0 x0)) 1) = true
              · try simp only [if_pos b6] at h ⊢
                exact AtV.fin Tryz.func3 tabOk ext3Ok mixed (p3_6 x0) ⟨s0, b0, s1, s2, s3, s4, trivial, b1, b2, s5, trivial, b3, s6, s7, b4, trivial, b1, b2, s8, s9, s10, b5, b6, trivial⟩
              · try simp only [if_neg b6] at h ⊢
                replace b6 := Bool.eq_false_iff.2 b6
                obtain ⟨s11, h⟩ := h
                obtain ⟨s12, h⟩ := h
                obtain ⟨s13, h⟩ := h
                exact AtV.fin Tryz.func3 tabOk ext3Ok mixed (p3_7 x0) ⟨s0, b0, s1, s2, s3, s4, trivial, b1, b2, s5, trivial, b3, s6, s7, b4, trivial, b1, b2, s8, s9, s10, b5, b6, s11, s12, trivial, b1, b2, s13, b5, b6, trivial⟩

def S3 : Am.Spec := { sig := sig3, pre := fun ⟨x0, _⟩ => P3 x0, res := fun ⟨x0, _⟩ => [⟨Ty.bool, g3_0 x0⟩], kds := kds3 }
theorem con3 : Contract Tryz.prog 3 S3 := contract_of Tryz.func3 hb3 (Nat.le_of_ble_eq_true (by kernel_rfl)) (fun ⟨x0, _⟩ h _ K q => at3 x0 h K q)


end
end Go.Proofs.YtpoajfdfmiafnaaGreatDoor

/- A law that says how functions of the program and of the specification hang together. -/
set_option linter.unusedVariables false
set_option linter.unusedSimpArgs false
set_option maxRecDepth 100000
namespace Go.Proofs.YtpoajfdfmiafnaaGreatDoor
open Go Go.Am Go.Proofs

theorem allI_mem {α : Type} {p : Nat → α → Bool} : ∀ (l : List α) (i : Nat), allI p i l = true → ∀ x ∈ l, ∃ j, p j x = true
  | [], _, _, x, hx => by cases hx
  | y :: r, i, h, x, hx => by
    simp only [allI, Bool.and_eq_true] at h
    rcases List.mem_cons.1 hx with rfl | hx
    · exact ⟨i, h.1⟩
    · exact allI_mem r (i + 1) h.2 x hx

end Go.Proofs.YtpoajfdfmiafnaaGreatDoor

/- A law that says how functions of the program and of the specification hang together. -/
set_option linter.unusedVariables false
set_option linter.unusedSimpArgs false
set_option maxRecDepth 100000
namespace Go.Proofs.YtpoajfdfmiafnaaGreatDoor
open Go Go.Am Go.Proofs

theorem reportLine (s : ByteArray) : g84_0 s = g43_0 s := by
  unfold g84_0 g51c95_0 g43_0
  rw [any74c95]
  have hq : (!(bytesOf s).any g95_0) = (bytesOf s).all ok43 := by
    rw [List.not_any_eq_all_not]
    congr 1
    funext b
    simp only [g95_0, ok43]
    by_cases h1 : b < 32 <;> by_cases h2 : b > 126 <;> simp [h1, h2] <;> omega
  rw [hq]
  by_cases h : ((s.size : Nat) : Int) ≤ 100
  · have h' : s.size ≤ 100 := by omega
    simp [h, h']
  · have h' : ¬ s.size ≤ 100 := by omega
    simp [h, h']

theorem report (x : List ByteArray) : g63_0 x = g28_0 x := by
  unfold g63_0 g28_0 g49c83_0
  rw [any73c83]
  have hq : (!x.any g83_0) = x.all g43_0 := by
    rw [List.not_any_eq_all_not]
    congr 1
    funext b
    simp only [g83_0, reportLine, Bool.not_not]
  rw [hq]
  by_cases h : ((x.length : Nat) : Int) ≤ 200
  · have h' : x.length ≤ 200 := by omega
    simp [h, h']
  · have h' : ¬ x.length ≤ 200 := by omega
    simp [h, h']

end Go.Proofs.YtpoajfdfmiafnaaGreatDoor

/- A law that says how functions of the program and of the specification hang together. -/
set_option linter.unusedVariables false
set_option linter.unusedSimpArgs false
set_option maxRecDepth 100000
namespace Go.Proofs.YtpoajfdfmiafnaaGreatDoor
open Go Go.Am Go.Proofs

theorem set_same : ∀ (h : List Int) (k : Nat), h.set k (h.getD k 0) = h
  | [], _ => rfl
  | a :: l, 0 => rfl
  | a :: l, k + 1 => by
    show a :: l.set k (l.getD k 0) = a :: l
    rw [set_same l k]

theorem row_eq : ∀ (r : List ByteArray) (k : Nat) (h : List Int), row22 k r h = row17 k r h
  | [], _, _ => rfl
  | c :: r, k, h => by
    have e : up22 h k c = if ((c.size : Nat) : Int) > h.getD k 0 then h.set k (c.size : Nat) else h := by
      unfold up22
      by_cases h1 : h.getD k 0 < ((c.size : Nat) : Int)
      · rw [if_pos h1, if_pos h1]
      · rw [if_neg h1, if_neg h1, set_same]
    show row22 (k + 1) r (up22 h k c) = row17 (k + 1) r _
    rw [e, row_eq]

theorem wide_eq (x : List (List ByteArray)) : wide22 x = wide17 x := by
  unfold wide22 wide17
  congr 1
  funext h r
  exact row_eq r 0 h

theorem wd_bytes (h : List Int) (k : Nat) (c : ByteArray) : (wd22 h k c).data.toList = c.data.toList ++ spc17 (h.getD k 0 - (c.size : Nat)).toNat := by
  have e : (ByteArray.mk #[32]).data.toList = List.replicate 1 32 := rfl
  unfold wd22 g37_0 spc17
  rw [e, Lib.repeatL_replicate, Nat.mul_one]
  simp [ByteArray.data_append]

theorem ln_tail : ∀ (r : List ByteArray) (k : Nat) (h : List Int) (v : List UInt8), 0 < k → ln17 k r h v = v ++ Lib.joinTail [32, 32] ((words22 h k r).map fun x => x.data.toList)
  | [], k, h, v, _ => by simp [ln17, words22, Lib.joinTail]
  | c :: r, k, h, v, hk => by
    simp only [ln17, words22]
    rw [ln_tail r (k + 1) h _ (by omega), if_pos hk, List.map_cons, wd_bytes]
    simp [Lib.joinTail]

theorem line_eq (h : List Int) (r : List ByteArray) : line22 h r = line17 h r := by
  unfold line22 line17 fin22 g38_0 g39_0
  have e1 : (ByteArray.mk #[32]).data.toList.getD 0 0 = 32 := rfl
  have e2 : (ByteArray.mk #[32, 32]).data.toList = [32, 32] := rfl
  rw [e1, e2]
  congr 3
  show Lib.join _ [32, 32] = _
  cases r with
  | nil => rfl
  | cons c r =>
    simp only [words22, ln17]
    rw [List.map_cons, Lib.join_cons, wd_bytes, ln_tail r 1 h _ (by omega)]
    simp

theorem done_eq (l : List ByteArray) : g40_0 l = g16_0 l ∧ g40_1 l = g16_1 l := by
  unfold g40_0 g40_1 g16_0 g16_1
  rw [report]
  exact ⟨rfl, rfl⟩

def Cell (c : ByteArray) : Prop := ∀ b ∈ bytesOf c, 33 ≤ b ∧ b ≤ 126

theorem cell_ok {c : ByteArray} (h : Cell c) : g50_0 c = false := by
  unfold g50_0 g51c52_0
  rw [any74c52, List.any_eq_false]
  intro b hb
  obtain ⟨h1, h2⟩ := h b hb
  have d1 : ¬ b < 33 := by omega
  have d2 : ¬ b > 126 := by omega
  simp [g52_0, d1, d2]

theorem rows_ok {x : List (List ByteArray)} (h : ∀ r ∈ x, r.length ≤ 12 ∧ ∀ c ∈ r, Cell c) : g34c35_0 x = false := by
  unfold g34c35_0
  rw [any48c35, List.any_eq_false]
  intro r hr
  obtain ⟨h1, h2⟩ := h r hr
  have d1 : ((r.length : Nat) : Int) ≤ 12 := by omega
  have e : g49c50_0 r = false := by
    unfold g49c50_0
    rw [any73c50, List.any_eq_false]
    intro c hc
    rw [cell_ok (h2 c hc)]
    simp
  unfold g35_0 g36_0
  rw [e, if_pos (by simpa using d1)]
  simp

theorem table_eq {x : List (List ByteArray)} (h : ∀ r ∈ x, r.length ≤ 12 ∧ ∀ c ∈ r, Cell c) : g22_0 x = g16_0 (g17_0 x) ∧ g22_1 x = g16_1 (g17_0 x) := by
  have e : x.map (line22 (wide22 x)) = g17_0 x := by
    unfold g17_0
    rw [wide_eq]
    congr 1
    funext r
    exact line_eq _ r
  unfold g22_0 g22_1
  rw [rows_ok h, e]
  simp only [Bool.false_eq_true, if_false]
  exact done_eq _
theorem done_len (l : List ByteArray) : (g16_0 l).length ≤ 200 := by
  unfold g16_0
  cases h : g28_0 l with
  | false => simp
  | true =>
    unfold g28_0 at h
    simp only [Bool.and_eq_true, decide_eq_true_eq] at h
    simpa using h.2

end Go.Proofs.YtpoajfdfmiafnaaGreatDoor

/- A law that says how functions of the program and of the specification hang together. -/
set_option linter.unusedVariables false
set_option linter.unusedSimpArgs false
set_option maxRecDepth 100000
namespace Go.Proofs.YtpoajfdfmiafnaaGreatDoor
open Go Go.Am Go.Proofs

def isD (b : UInt8) : Prop := 48 ≤ b.toNat ∧ b.toNat ≤ 57
def dval : List UInt8 → Nat → Nat
  | [], n => n
  | b :: r, n => dval r (10 * n + (b.toNat - 48))
theorem dval_append : ∀ (l : List UInt8) (b : UInt8) (n : Nat), dval (l ++ [b]) n = 10 * dval l n + (b.toNat - 48)
  | [], _, _ => rfl
  | c :: r, b, n => dval_append r b _
theorem dsign_nat {a : Nat} (h : a < 10) : (UInt8.ofNat (48 + a)).toNat = 48 + a := by rw [UInt8.toNat_ofNat']; omega

theorem dec_facts (n : Nat) : (∀ b ∈ Lib.decDigits n, isD b) ∧ dval (Lib.decDigits n) 0 = n ∧ 0 < (Lib.decDigits n).length ∧ (1 ≤ n → ((Lib.decDigits n).getD 0 0).toNat ≠ 48) := by
  induction n using Nat.strongRecOn with
  | _ n ih =>
    by_cases h : n < 10
    · rw [Lib.decDigits, dif_pos h]
      have e := dsign_nat h
      refine ⟨fun b hb => ?_, ?_, by simp, fun h1 => ?_⟩
      · rw [List.mem_singleton.1 hb]; unfold isD; omega
      · show 10 * 0 + ((UInt8.ofNat (48 + n)).toNat - 48) = n; omega
      · show (UInt8.ofNat (48 + n)).toNat ≠ 48; omega
    · rw [Lib.decDigits, dif_neg h]
      obtain ⟨i1, i2, i3, i4⟩ := ih (n / 10) (by omega)
      have e := dsign_nat (a := n % 10) (by omega)
      refine ⟨fun b hb => ?_, ?_, by simp, fun h1 => ?_⟩
      · rcases List.mem_append.1 hb with hb | hb
        · exact i1 b hb
        · rw [List.mem_singleton.1 hb]; unfold isD; omega
      · rw [dval_append, i2, e]; omega
      · have i4 := i4 (by omega)
        cases hd : Lib.decDigits (n / 10) with
        | nil => rw [hd] at i3; simp at i3
        | cons c r => rw [hd] at i4; exact i4

end Go.Proofs.YtpoajfdfmiafnaaGreatDoor

/- A law that says how functions of the program and of the specification hang together. -/
set_option linter.unusedVariables false
set_option linter.unusedSimpArgs false
set_option maxRecDepth 100000
namespace Go.Proofs.YtpoajfdfmiafnaaGreatDoor
open Go Go.Am Go.Proofs

theorem bytes_cell {l : List UInt8} (h : ∀ b ∈ l, 33 ≤ b.toNat ∧ b.toNat ≤ 126) : Cell ⟨⟨l⟩⟩ := by
  intro b hb
  unfold bytesOf at hb
  obtain ⟨c, hc, rfl⟩ := List.mem_map.1 hb
  have := h c hc
  omega

theorem dec_cell {n : Int} (h : 0 ≤ n) (h2 : n ≤ 1000000000000) : Cell (numB n) ∧ (numB n).size ≤ 21 := by
  refine ⟨?_, numB_size n (by omega) (by omega)⟩
  obtain ⟨k, rfl⟩ := Int.eq_ofNat_of_zero_le h
  have e : numB (k : Int) = ⟨⟨Lib.decDigits k⟩⟩ := by
    unfold numB Lib.itoa
    rw [if_neg (by omega), Int.toNat_natCast]
  rw [e]
  refine bytes_cell fun b hb => ?_
  have := (dec_facts k).1 b hb
  unfold isD at this
  omega

end Go.Proofs.YtpoajfdfmiafnaaGreatDoor

/- A law that says how functions of the program and of the specification hang together. -/
set_option linter.unusedVariables false
set_option linter.unusedSimpArgs false
set_option maxRecDepth 100000
namespace Go.Proofs.YtpoajfdfmiafnaaGreatDoor
open Go Go.Am Go.Proofs

theorem len_eq {y m : Int} (hm : 1 ≤ m ∧ m ≤ 12) : g42_0 y m = g68_0 y m := by
  have hm : m = 1 ∨ m = 2 ∨ m = 3 ∨ m = 4 ∨ m = 5 ∨ m = 6 ∨ m = 7 ∨ m = 8 ∨ m = 9 ∨ m = 10 ∨ m = 11 ∨ m = 12 := by omega
  unfold g42_0 g68_0
  rcases hm with rfl | rfl | rfl | rfl | rfl | rfl | rfl | rfl | rfl | rfl | rfl | rfl <;> rfl

def Dat (y m d : Int) : Prop := (2000 ≤ y ∧ y ≤ 2099) ∧ (1 ≤ m ∧ m ≤ 12) ∧ (1 ≤ d ∧ d ≤ g68_0 y m)

def bas (y : Int) : Int := (y - 2000) * 365 + (y - 1997) / 4

theorem day_at {y m d : Int} (hy : 2000 ≤ y) : g46_0 y m d = bas y + ms46 y (m - 1).toNat + d - 1 := by
  have e : Int.tdiv (y - 1997) 4 = (y - 1997) / 4 := Int.tdiv_eq_ediv_of_nonneg (by omega)
  unfold g46_0 bs46 bas
  rw [e]; omega

theorem win {x a b : Int} : g45_0 x a b = true ↔ a ≤ x ∧ x ≤ b := by
  unfold g45_0
  by_cases c1 : x ≥ a
  · by_cases c2 : x ≤ b
    · simp [c1, c2]
    · simp [c1, c2]
  · have : ¬ a ≤ x := c1
    simp [c1, this]

theorem ms_mono {y : Int} (hy : 2000 ≤ y ∧ y ≤ 2099) (i : Nat) : ∀ j, ms46 y i ≤ ms46 y (i + j)
  | 0 => Int.le_refl _
  | j + 1 => by
    have := ms_mono hy i j
    have := (len46 hy (m := ((i + j : Nat) : Int) + 1)).2.1
    rw [← Nat.add_assoc]
    simp only [ms46]
    omega

theorem ms_year {y : Int} (hy : 2000 ≤ y ∧ y ≤ 2099) : bas y + ms46 y 12 = bas (y + 1) := by
  have et : Int.tmod y 4 = y % 4 := Int.tmod_eq_emod_of_nonneg (by omega)
  have e : ms46 y 12 = if y % 4 = 0 then 366 else 365 := by
    by_cases hz : y % 4 = 0 <;> simp [ms46, g68_0, et, hz]
  rw [e]
  unfold bas
  split <;> omega

theorem year_back {y day : Int} (hy : 2000 ≤ y ∧ y ≤ 2099) (h1 : bas y ≤ day) (h2 : day < bas (y + 1)) : ∀ (k : Nat) (z : Int), z + k = 2099 → 2000 ≤ z → z ≤ y → yr31 day k z = y := by
  have e1 : ∀ z : Int, 2000 ≤ z → g46_0 z 1 1 = bas z := fun z hz => by
    rw [day_at hz]
    show bas z + 0 + 1 - 1 = bas z
    omega
  intro k
  induction k with
  | zero => intro z hz _ hle; show z = y; omega
  | succ k ih =>
    intro z hz h0 hle
    unfold yr31
    rw [e1 (z + 1) (by omega)]
    by_cases hlt : z < y
    · rw [if_pos (by have : bas (z + 1) ≤ bas y := by unfold bas; omega
                     omega)]
      exact ih (z + 1) (by omega) (by omega) (by omega)
    · have : z = y := by omega
      subst this
      rw [if_neg (by omega)]

theorem month_back {y m day : Int} (hy : 2000 ≤ y ∧ y ≤ 2099) (hm : 1 ≤ m ∧ m ≤ 12) (h1 : bas y + ms46 y (m - 1).toNat ≤ day) (h2 : day < bas y + ms46 y m.toNat) : ∀ (k : Nat) (z : Int), z + k = 12 → 1 ≤ z → z ≤ m → mo31 day y k z = m := by
  intro k
  induction k with
  | zero => intro z hz _ hle; show z = m; omega
  | succ k ih =>
    intro z hz h0 hle
    unfold mo31
    rw [day_at hy.1, show z + 1 - 1 = z by omega]
    by_cases hlt : z < m
    · rw [if_pos (by
        have := ms_mono hy z.toNat ((m - 1).toNat - z.toNat)
        rw [show z.toNat + ((m - 1).toNat - z.toNat) = (m - 1).toNat by omega] at this
        omega)]
      exact ih (z + 1) (by omega) (by omega) (by omega)
    · have : z = m := by omega
      subst this
      rw [if_neg (by omega)]

theorem date_back {y m d : Int} (h : Dat y m d) : (0 ≤ g46_0 y m d ∧ g46_0 y m d ≤ 36524) ∧ g31_0 (g46_0 y m d) = y ∧ g31_1 (g46_0 y m d) = m ∧ g31_2 (g46_0 y m d) = d := by
  obtain ⟨h0, h1, h2⟩ := h
  have ed := day_at (m := m) (d := d) h0.1
  have hb := msb46 h0 (m - 1).toNat
  have hms : ms46 y m.toNat = ms46 y (m - 1).toNat + g68_0 y m := by
    obtain ⟨k, hk⟩ : ∃ k : Nat, m = (k : Int) + 1 := ⟨(m - 1).toNat, by omega⟩
    subst hk
    rw [show ((k : Int) + 1).toNat = k + 1 by omega, show ((k : Int) + 1 - 1).toNat = k by omega]
    rfl
  have hy12 := ms_year h0
  have hmono := ms_mono h0 m.toNat (12 - m.toNat)
  rw [show m.toNat + (12 - m.toNat) = 12 by omega] at hmono
  have hbas : 0 ≤ bas y ∧ bas (y + 1) ≤ 36525 := by unfold bas; omega
  have a0 : g31_0 (g46_0 y m d) = y := year_back h0 (by omega) (by omega) 99 2000 (by omega) (by omega) (by omega)
  have a1 : g31_1 (g46_0 y m d) = m := by
    unfold g31_1
    rw [a0]
    exact month_back h0 h1 (by omega) (by omega) 11 1 (by omega) (by omega) (by omega)
  refine ⟨by omega, a0, a1, ?_⟩
  unfold g31_2
  rw [a0, a1, day_at (m := m) (d := 1) h0.1]
  omega

end Go.Proofs.YtpoajfdfmiafnaaGreatDoor

/- A law that says how functions of the program and of the specification hang together. -/
set_option linter.unusedVariables false
set_option linter.unusedSimpArgs false
set_option maxRecDepth 100000
namespace Go.Proofs.YtpoajfdfmiafnaaGreatDoor
open Go Go.Am Go.Proofs

def D10 (a : Nat) : UInt8 := UInt8.ofNat (48 + a)
theorem D10_nat {a : Nat} (h : a < 10) : (D10 a).toNat = 48 + a := by unfold D10; rw [UInt8.toNat_ofNat']; omega
theorem num_one {n : Nat} (h : n < 10) : numB (n : Int) = ⟨⟨[D10 n]⟩⟩ := by
  unfold numB Lib.itoa
  rw [if_neg (by omega), Int.toNat_natCast, Lib.decDigits_one h]
  rfl
theorem num_two {n : Nat} (h1 : 10 ≤ n) (h : n < 100) : numB (n : Int) = ⟨⟨[D10 (n / 10), D10 (n % 10)]⟩⟩ := by
  unfold numB Lib.itoa
  rw [if_neg (by omega), Int.toNat_natCast, Lib.decDigits_two (by omega) h]
  rfl

theorem pad_two {n : Nat} (h : n < 100) : P32 (n : Int) 2 ∧ g32_0 (n : Int) 2 = ⟨⟨[D10 (n / 10), D10 (n % 10)]⟩⟩ := by
  unfold P32 g32_0
  have e : g21_0 (n : Int) = numB (n : Int) := rfl
  rw [e]
  by_cases h1 : n < 10
  · rw [num_one h1]
    have e0 : n / 10 = 0 := by omega
    have e1 : n % 10 = n := by omega
    rw [e0, e1]
    have e2 : (ByteArray.mk (Array.mk [D10 n])).size = 1 := rfl
    rw [e2]
    exact ⟨⟨⟨rfl, trivial⟩, by rw [i64_iff]; decide, ⟨by decide, by decide⟩, by show 1 + 1 ≤ _; decide, trivial⟩, rfl⟩
  · rw [num_two (by omega) h]
    have e2 : (ByteArray.mk (Array.mk [D10 (n / 10), D10 (n % 10)])).size = 2 := rfl
    rw [e2]
    exact ⟨⟨⟨rfl, trivial⟩, by rw [i64_iff]; decide, ⟨by decide, by decide⟩, by show 0 + 2 ≤ _; decide, trivial⟩, rfl⟩

end Go.Proofs.YtpoajfdfmiafnaaGreatDoor

/- A law that says how functions of the program and of the specification hang together. -/
set_option linter.unusedVariables false
set_option linter.unusedSimpArgs false
set_option maxRecDepth 100000
namespace Go.Proofs.YtpoajfdfmiafnaaGreatDoor
open Go Go.Am Go.Proofs

end Go.Proofs.YtpoajfdfmiafnaaGreatDoor

/- A law that says how functions of the program and of the specification hang together. -/
set_option linter.unusedVariables false
set_option linter.unusedSimpArgs false
set_option maxRecDepth 100000
namespace Go.Proofs.YtpoajfdfmiafnaaGreatDoor
open Go Go.Am Go.Proofs

def y4 (y : Nat) : List UInt8 := [50, 48, D10 (y % 100 / 10), D10 (y % 10)]
def dT (y m d : Nat) : ByteArray := ⟨⟨y4 y ++ 45 :: ([D10 (m / 10), D10 (m % 10)] ++ 45 :: [D10 (d / 10), D10 (d % 10)])⟩⟩

theorem dec_y4 {y : Nat} (h : 2000 ≤ y ∧ y ≤ 2099) : Lib.decDigits y = y4 y := by
  have e1 : y / 10 / 10 = 20 := by omega
  have e2 : y / 10 % 10 = y % 100 / 10 := by omega
  rw [Lib.decDigits, dif_neg (by omega), Lib.decDigits, dif_neg (by omega), e1, e2, Lib.decDigits, dif_neg (by decide), Lib.decDigits, dif_pos (by decide)]
  rfl

theorem dec_big {y : Nat} (h : 2000 ≤ y ∧ y ≤ 2099) : g21_0 (y : Int) = ⟨⟨y4 y⟩⟩ := by
  rw [← dec_y4 h]
  show numB _ = _
  unfold numB Lib.itoa
  rw [if_neg (by omega), Int.toNat_natCast]

theorem date_nat {y m d : Int} (h : Dat y m d) : ∃ a b c : Nat, y = (a : Int) ∧ m = (b : Int) ∧ d = (c : Int) ∧ (2000 ≤ a ∧ a ≤ 2099) ∧ (1 ≤ b ∧ b ≤ 12) ∧ (1 ≤ c ∧ c ≤ 31) := by
  obtain ⟨h0, h1, h2⟩ := h
  have := (len46 h0 (m := m)).2.2
  exact ⟨y.toNat, m.toNat, d.toNat, by omega, by omega, by omega, by omega, by omega, by omega⟩

theorem date_text {a b c : Nat} (h : Dat (a : Int) (b : Int) (c : Int)) (ha : 2000 ≤ a ∧ a ≤ 2099) (hb : b ≤ 12) (hc : c ≤ 31) : g20_0 (g46_0 (a : Int) (b : Int) (c : Int)) = dT a b c := by
  obtain ⟨hd, e0, e1, e2⟩ := date_back h
  have hi : g30_0 (g46_0 (a : Int) (b : Int) (c : Int)) = true := win.2 hd
  unfold g20_0
  rw [hi, e0, e1, e2, dec_big ha, (pad_two (n := b) (by omega)).2, (pad_two (n := c) (by omega)).2]
  apply ByteArray.ext
  apply Array.ext'
  simp [ByteArray.data_append, dT]

theorem text_pre {y m d : Int} (h : Dat y m d) : P20 (g46_0 y m d) := by
  obtain ⟨a, b, c, rfl, rfl, rfl, ha, hb, hc⟩ := date_nat h
  obtain ⟨hd, e0, e1, e2⟩ := date_back h
  unfold P20
  rw [e0, e1, e2, dec_big ha]
  obtain ⟨p1, q1⟩ := pad_two (n := b) (by omega)
  obtain ⟨p2, q2⟩ := pad_two (n := c) (by omega)
  rw [q1, q2]
  have s4 : (ByteArray.mk ⟨y4 a⟩).size = 4 := rfl
  have s1 : (ByteArray.mk #[45]).size = 1 := rfl
  have s2 : ∀ u v : UInt8, (ByteArray.mk ⟨[u, v]⟩).size = 2 := fun _ _ => rfl
  by_cases hc : (!g30_0 (g46_0 (a : Int) (b : Int) (c : Int))) = true
  · rw [if_pos hc]; trivial
  · rw [if_neg hc]
    simp only [ByteArray.size_append, s4, s1, s2]
    exact ⟨⟨by omega, by omega⟩, ⟨rfl, trivial⟩, by omega, p1, by omega, by omega, p2, by omega, trivial⟩

end Go.Proofs.YtpoajfdfmiafnaaGreatDoor

/- A law that says how functions of the program and of the specification hang together. -/
set_option linter.unusedVariables false
set_option linter.unusedSimpArgs false
set_option maxRecDepth 100000
namespace Go.Proofs.YtpoajfdfmiafnaaGreatDoor
open Go Go.Am Go.Proofs

theorem bas_first : bas 2000 = 0 := by decide

theorem date_fwd {day : Int} (h : 0 ≤ day ∧ day ≤ 36524) : ∃ y m d : Int, Dat y m d ∧ g46_0 y m d = day := by
  have hy : ∀ k : Nat, day < bas (2000 + (k : Int)) → ∃ y : Int, (2000 ≤ y ∧ y < 2000 + (k : Int)) ∧ bas y ≤ day ∧ day < bas (y + 1) := by
    intro k
    induction k with
    | zero => intro hk; have : bas (2000 + ((0 : Nat) : Int)) = 0 := bas_first; omega
    | succ k ih =>
      intro hk
      by_cases hc : day < bas (2000 + (k : Int))
      · obtain ⟨y, h1, h2⟩ := ih hc
        exact ⟨y, by omega, h2⟩
      · exact ⟨2000 + (k : Int), by omega, by omega, by rw [Int.add_assoc]; simpa using hk⟩
  obtain ⟨y, hy1, hy2, hy3⟩ := hy 100 (by have : bas (2000 + ((100 : Nat) : Int)) = 36525 := by decide
                                          omega)
  have hyr : 2000 ≤ y ∧ y ≤ 2099 := by omega
  have hm : ∀ k : Nat, day < bas y + ms46 y k → ∃ j : Nat, j < k ∧ bas y + ms46 y j ≤ day ∧ day < bas y + ms46 y (j + 1) := by
    intro k
    induction k with
    | zero => intro hk; simp only [ms46] at hk; omega
    | succ k ih =>
      intro hk
      by_cases hc : day < bas y + ms46 y k
      · obtain ⟨j, h1, h2⟩ := ih hc
        exact ⟨j, by omega, h2⟩
      · exact ⟨k, by omega, by omega, hk⟩
  obtain ⟨j, hj, hj1, hj2⟩ := hm 12 (by rw [ms_year hyr]; exact hy3)
  simp only [ms46] at hj2
  refine ⟨y, (j : Int) + 1, day - (bas y + ms46 y j) + 1, ⟨hyr, by omega, by omega, by omega⟩, ?_⟩
  rw [day_at hyr.1]
  have e : ((j : Int) + 1 - 1).toNat = j := by omega
  rw [e]; omega

end Go.Proofs.YtpoajfdfmiafnaaGreatDoor

/- A law that says how functions of the program and of the specification hang together. -/
set_option linter.unusedVariables false
set_option linter.unusedSimpArgs false
set_option maxRecDepth 100000
namespace Go.Proofs.YtpoajfdfmiafnaaGreatDoor
open Go Go.Am Go.Proofs

def pos (y m : Int) : Int := bas y + ms46 y (m - 1).toNat

theorem mlen {y m : Int} (hy : 2000 ≤ y ∧ y ≤ 2099) (hm : 1 ≤ m ∧ m ≤ 12) : g42_0 y m = g68_0 y m ∧ 28 ≤ g68_0 y m := by
  have e := len_eq (y := y) hm
  have h := (ln26 (y := y) (m := m) (by omega) hm).2.1
  exact ⟨e, by omega⟩

theorem pos_in {y m : Int} (hm : 1 ≤ m ∧ m < 12) : pos y m + g68_0 y m = pos y (m + 1) := by
  obtain ⟨k, hk⟩ : ∃ k : Nat, m = (k : Int) + 1 := ⟨(m - 1).toNat, by omega⟩
  subst hk
  unfold pos
  rw [show ((k : Int) + 1 - 1).toNat = k by omega, show ((k : Int) + 1 + 1 - 1).toNat = k + 1 by omega]
  simp only [ms46]
  omega

theorem pos_out {y : Int} (hy : 2000 ≤ y ∧ y ≤ 2099) : pos y 12 + g68_0 y 12 = pos (y + 1) 1 := by
  have h := ms_year hy
  unfold pos
  have e : ms46 y 12 = ms46 y 11 + g68_0 y 12 := rfl
  rw [e] at h
  have e2 : ((12 : Int) - 1).toNat = 11 := rfl
  have e3 : ((1 : Int) - 1).toNat = 0 := rfl
  rw [e2, e3]
  simp only [ms46] at *
  omega

theorem pos_mono {y m : Int} (hy : 2000 ≤ y ∧ y ≤ 2099) (hm : 1 ≤ m ∧ m ≤ 12) : ∀ (n : Nat) (Y M : Int), 12 * y + m = 12 * Y + M + n → 2000 ≤ Y → 1 ≤ M ∧ M ≤ 12 → pos Y M ≤ pos y m := by
  intro n
  induction n with
  | zero =>
    intro Y M h h1 h2
    have : Y = y := by omega
    have : M = m := by omega
    subst_vars
    exact Int.le_refl _
  | succ n ih =>
    intro Y M h h1 h2
    have hl := (mlen (y := Y) (m := M) (by omega) h2).2
    by_cases hM : M = 12
    · subst hM
      have := ih (Y + 1) 1 (by omega) (by omega) (by omega)
      have := pos_out (y := Y) (by omega)
      omega
    · have := ih Y (M + 1) (by omega) h1 (by omega)
      have := pos_in (y := Y) (m := M) (by omega)
      omega

theorem dt_go {y m d : Int} (h : Dat y m d) : ∀ (n k : Nat) (Y M e : Int), 12 * y + m = 12 * Y + M + n → 2000 ≤ Y → 1 ≤ M ∧ M ≤ 12 → n < k → e = pos y m + d - 1 - pos Y M → dt26 k e Y M = (y, m, d) := by
  obtain ⟨hy, hm, hd⟩ := h
  intro n
  induction n with
  | zero =>
    intro k Y M e h h1 h2 hk he
    have : Y = y := by omega
    have : M = m := by omega
    subst_vars
    obtain ⟨k, rfl⟩ : ∃ j, k = j + 1 := ⟨k - 1, by omega⟩
    have hl := mlen (y := Y) (m := M) hy hm
    unfold dt26
    rw [if_neg (by rw [hl.1]; omega)]
    simp only [Prod.mk.injEq, true_and]
    omega
  | succ n ih =>
    intro k Y M e h h1 h2 hk he
    obtain ⟨k, rfl⟩ : ∃ j, k = j + 1 := ⟨k - 1, by omega⟩
    have hl := mlen (y := Y) (m := M) (by omega) h2
    unfold dt26
    by_cases hM : M = 12
    · subst hM
      have hp := pos_mono hy hm n (Y + 1) 1 (by omega) (by omega) (by omega)
      have hq := pos_out (y := Y) (by omega)
      rw [if_pos (by rw [hl.1]; omega), if_pos rfl]
      exact ih k (Y + 1) 1 _ (by omega) (by omega) (by omega) (by omega) (by rw [hl.1]; omega)
    · have hp := pos_mono hy hm n Y (M + 1) (by omega) (by omega) (by omega)
      have hq := pos_in (y := Y) (m := M) (by omega)
      rw [if_pos (by rw [hl.1]; omega), if_neg hM]
      exact ih k Y (M + 1) _ (by omega) (by omega) (by omega) (by omega) (by rw [hl.1]; omega)

theorem date_of {y m d : Int} (h : Dat y m d) : g26_0 (g46_0 y m d) = y ∧ g26_1 (g46_0 y m d) = m ∧ g26_2 (g46_0 y m d) = d := by
  have hh := h
  obtain ⟨hy, hm, hd⟩ := h
  have e : dt26 1305 (g46_0 y m d) 2000 1 = (y, m, d) := by
    refine dt_go hh (12 * (y - 2000) + (m - 1)).toNat 1305 2000 1 _ (by omega) (by omega) (by omega) (by omega) ?_
    have e0 : pos 2000 1 = 0 := bas_first
    rw [day_at hy.1, e0]
    unfold pos
    omega
  unfold g26_0 g26_1 g26_2
  rw [e]
  exact ⟨rfl, rfl, rfl⟩

theorem two_s {n : Nat} (h : n < 100) : P27 (n : Int) ∧ g27_0 (n : Int) = ⟨⟨[D10 (n / 10), D10 (n % 10)]⟩⟩ := by
  have e : g15_0 (n : Int) = numB (n : Int) := rfl
  unfold P27 g27_0
  rw [e]
  by_cases h1 : n < 10
  · have d : decide ((n : Int) < 10) = true := decide_eq_true (by omega)
    have e0 : n / 10 = 0 := by omega
    have e1 : n % 10 = n := by omega
    rw [d, num_one h1, e0, e1]
    simp only [if_true]
    have e2 : (ByteArray.mk (Array.mk [D10 n])).size = 1 := rfl
    exact ⟨by rw [e2]; exact ⟨by omega, trivial⟩, rfl⟩
  · have d : decide ((n : Int) < 10) = false := decide_eq_false (by omega)
    rw [d, num_two (by omega) h]
    simp only [Bool.false_eq_true, if_false, and_self]

theorem text_s {a b c : Nat} (h : Dat (a : Int) (b : Int) (c : Int)) (ha : 2000 ≤ a ∧ a ≤ 2099) (hb : b ≤ 12) (hc : c ≤ 31) : g14_0 (g46_0 (a : Int) (b : Int) (c : Int)) = dT a b c := by
  obtain ⟨e0, e1, e2⟩ := date_of h
  unfold g14_0
  have e : g15_0 (a : Int) = ⟨⟨y4 a⟩⟩ := dec_big ha
  rw [e0, e1, e2, e, (two_s (n := b) (by omega)).2, (two_s (n := c) (by omega)).2]
  apply ByteArray.ext
  apply Array.ext'
  simp [ByteArray.data_append, dT]

theorem text_spre {y m d : Int} (h : Dat y m d) : P14 (g46_0 y m d) := by
  obtain ⟨a, b, c, rfl, rfl, rfl, ha, hb, hc⟩ := date_nat h
  obtain ⟨hd, _⟩ := date_back h
  obtain ⟨e0, e1, e2⟩ := date_of h
  have e : g15_0 (a : Int) = ⟨⟨y4 a⟩⟩ := dec_big ha
  unfold P14
  obtain ⟨p1, q1⟩ := two_s (n := b) (by omega)
  obtain ⟨p2, q2⟩ := two_s (n := c) (by omega)
  rw [e0, e1, e2, e, q1, q2]
  have s4 : (ByteArray.mk ⟨y4 a⟩).size = 4 := rfl
  have s1 : (ByteArray.mk #[45]).size = 1 := rfl
  have s2 : ∀ u v : UInt8, (ByteArray.mk ⟨[u, v]⟩).size = 2 := fun _ _ => rfl
  simp only [ByteArray.size_append, s4, s1, s2]
  refine ⟨⟨by omega, by omega⟩, ?_⟩
  repeat' (first | apply And.intro | exact p1 | exact p2 | exact trivial | omega)
  all_goals (first | rfl | trivial)

theorem day_text {n : Int} (h : 0 ≤ n ∧ n ≤ 36524) : ∃ a b c : Nat, g20_0 n = dT a b c ∧ g14_0 n = dT a b c ∧ P20 n ∧ P14 n ∧ (2000 ≤ a ∧ a ≤ 2099) ∧ b ≤ 12 ∧ c ≤ 31 := by
  obtain ⟨y, m, d, hD, he⟩ := date_fwd h
  obtain ⟨a, b, c, rfl, rfl, rfl, ha, hb, hc⟩ := date_nat hD
  subst he
  exact ⟨a, b, c, date_text hD ha (by omega) (by omega), text_s hD ha (by omega) (by omega), text_pre hD, text_spre hD, ha, by omega, by omega⟩

end Go.Proofs.YtpoajfdfmiafnaaGreatDoor

/- A law that says how functions of the program and of the specification hang together. -/
set_option linter.unusedVariables false
set_option linter.unusedSimpArgs false
set_option maxRecDepth 100000
namespace Go.Proofs.YtpoajfdfmiafnaaGreatDoor
open Go Go.Am Go.Proofs

end Go.Proofs.YtpoajfdfmiafnaaGreatDoor

/- A law that says how functions of the program and of the specification hang together. -/
set_option linter.unusedVariables false
set_option linter.unusedSimpArgs false
set_option maxRecDepth 100000
namespace Go.Proofs.YtpoajfdfmiafnaaGreatDoor
open Go Go.Am Go.Proofs

theorem one_Test (x : Int × Int × Int × Unit) : g44_0 x = g41_0 x := by
  unfold g44_0 g41_0
  rfl

theorem order_Test (xs : List (Int × Int × Int × Unit)) : g29_0 xs = g25_0 xs := by
  unfold g29_0 g25_0
  refine allI_congr xs 0 fun j y _ => ?_
  unfold ok29 ok25
  rw [one_Test]
  rfl

theorem list_Test (xs : List (Int × Int × Int × Unit)) : g19_0 xs = g13_0 xs := by
  unfold g19_0 g13_0
  rw [order_Test]
  cases g25_0 xs <;> cases decide ((xs.length : Int) ≤ 24) <;> rfl

end Go.Proofs.YtpoajfdfmiafnaaGreatDoor

/- A law that says how functions of the program and of the specification hang together. -/
set_option linter.unusedVariables false
set_option linter.unusedSimpArgs false
set_option maxRecDepth 100000
namespace Go.Proofs.YtpoajfdfmiafnaaGreatDoor
open Go Go.Am Go.Proofs

theorem test_in {x a b : Int} (h : g66_0 x a b = true) : a ≤ x ∧ x ≤ b := by
  unfold g66_0 at h
  by_cases c1 : x ≥ a
  · by_cases c2 : x ≤ b
    · exact ⟨c1, c2⟩
    · simp [c1, c2] at h
  · simp [c1] at h

theorem test_parts {x : Int × Int × Int × Unit} (h : g41_0 x = true) : (0 ≤ x.1 ∧ x.1 ≤ 36524) ∧ (0 ≤ x.2.1 ∧ x.2.1 ≤ 24000) ∧ (0 ≤ x.2.2.1 ∧ x.2.2.1 ≤ 1000) := by
  unfold g41_0 at h
  split at h
  · rename_i h0
    split at h
    · rename_i h1
      exact ⟨test_in h0, test_in h1, test_in h⟩
    · cases h
  · cases h

theorem test_all {xs : List (Int × Int × Int × Unit)} (h : g13_0 xs = true) : xs.length ≤ 24 ∧ ∀ x ∈ xs, g41_0 x = true := by
  unfold g13_0 at h
  have h1 : (xs.length : Int) ≤ 24 ∧ g25_0 xs = true := by
    by_cases c : (xs.length : Int) ≤ 24
    · rw [if_pos (by simpa using c)] at h; exact ⟨c, h⟩
    · rw [if_neg (by simpa using c)] at h; cases h
  refine ⟨by omega, fun x hx => ?_⟩
  have h2 := h1.2
  unfold g25_0 at h2
  obtain ⟨j, hj⟩ := allI_mem xs 0 h2 x hx
  unfold ok25 at hj
  simp only [Bool.and_eq_true] at hj
  exact hj.1

theorem D10_cell {a : Nat} (h : a < 10) : 33 ≤ (D10 a).toNat ∧ (D10 a).toNat ≤ 126 := by
  rw [D10_nat h]; omega

theorem dT_cell {a b c : Nat} (hb : b ≤ 12) (hc : c ≤ 31) : Cell (dT a b c) ∧ (dT a b c).size ≤ 1000 := by
  refine ⟨bytes_cell fun x hx => ?_, by show 10 ≤ 1000; decide⟩
  unfold y4 at hx
  simp only [List.mem_append, List.mem_cons, List.mem_nil_iff, or_false] at hx
  rcases hx with (rfl | rfl | rfl | rfl) | rfl | (rfl | rfl) | rfl | rfl | rfl
  · decide
  · decide
  · exact D10_cell (by omega)
  · exact D10_cell (by omega)
  · decide
  · exact D10_cell (by omega)
  · exact D10_cell (by omega)
  · decide
  · exact D10_cell (by omega)
  · exact D10_cell (by omega)

theorem test_row {x : Int × Int × Int × Unit} (h : g41_0 x = true) : rw7 x = rw5 x ∧ (∀ c ∈ rw5 x, Cell c ∧ c.size ≤ 1000) ∧ P14 x.1 ∧ P20 x.1 := by
  obtain ⟨h0, h1, h2⟩ := test_parts h
  obtain ⟨a, b, c, e1, e2, p1, p2, ha, hb, hc⟩ := day_text h0
  have d2 : ∀ n : Int, g15_0 n = numB n := fun n => rfl
  refine ⟨?_, fun c hc => ?_, p2, p1⟩
  · unfold rw7 rw5
    rw [e1, e2]
    rfl
  · unfold rw5 at hc
    rw [e2, d2, d2] at hc
    simp only [List.mem_cons, List.mem_nil_iff, or_false] at hc
    rcases hc with rfl | rfl | rfl
    · exact dT_cell hb (by omega)
    · obtain ⟨a, b⟩ := dec_cell (n := x.2.1) (by omega) (by omega); exact ⟨a, by omega⟩
    · obtain ⟨a, b⟩ := dec_cell (n := x.2.2.1) (by omega) (by omega); exact ⟨a, by omega⟩

theorem wear_report (xs : List (Int × Int × Int × Unit)) : P7 xs ∧ P5 xs ∧ g7_0 xs = g5_0 xs ∧ g7_1 xs = g5_1 xs ∧ (g5_0 xs).length ≤ 200 := by
  have hv := list_Test xs
  unfold P7 P5 g7_0 g7_1 g5_0 g5_1
  rw [hv]
  cases h : g13_0 xs with
  | false =>
    simp only [Bool.false_eq_true, if_false, false_implies, true_and]
    exact Nat.zero_le _
  | true =>
    obtain ⟨hl, ho⟩ := test_all h
    have er : xs.map rw7 = xs.map rw5 := List.map_congr_left fun x hx => (test_row (ho x hx)).1
    have eh : hd7 = hd5 := rfl
    have hok : ∀ r ∈ hd5 :: xs.map rw5, r.length ≤ 12 ∧ ∀ c ∈ r, Cell c := fun r hr => by
      rcases List.mem_cons.1 hr with rfl | hr
      · refine ⟨by decide, fun c hc => ?_⟩
        unfold hd5 at hc
        simp only [List.mem_cons, List.mem_nil_iff, or_false] at hc
        rcases hc with rfl | rfl | rfl <;> exact bytes_cell (by decide)
      · obtain ⟨x, hx, rfl⟩ := List.mem_map.1 hr
        exact ⟨by show 3 ≤ 12; decide, fun c hc => ((test_row (ho x hx)).2.1 c hc).1⟩
    obtain ⟨t0, t1⟩ := table_eq hok
    rw [er, eh, t0, t1]
    refine ⟨fun _ => ⟨by omega, fun f hf => ?_⟩, fun _ => ⟨by omega, fun f hf => ?_⟩, rfl, rfl, ?_⟩
    · refine ⟨(test_row (ho f hf)).2.2.2, ⟨rfl, trivial⟩, ⟨rfl, trivial⟩, fun c hc => ?_⟩
      rw [(test_row (ho f hf)).1] at hc
      have := ((test_row (ho f hf)).2.1 c hc).2
      omega
    · exact ⟨(test_row (ho f hf)).2.2.1, fun c hc => by have := ((test_row (ho f hf)).2.1 c hc).2; omega⟩
    · rw [if_pos rfl]
      exact done_len _

end Go.Proofs.YtpoajfdfmiafnaaGreatDoor

/- A law that says how functions of the program and of the specification hang together. -/
set_option linter.unusedVariables false
set_option linter.unusedSimpArgs false
set_option maxRecDepth 100000
namespace Go.Proofs.YtpoajfdfmiafnaaGreatDoor
open Go Go.Am Go.Proofs

theorem marked_test (xs : List (Int × Int × Int × Unit)) (h : xs.length ≤ 1048576) : P10 xs 1 ∧ (u10_0 xs 1).length = xs.length ∧ ¬ g10_0 xs 1 < 0 := by
  have hl : (u10_0 xs 1).length = xs.length := by rw [u10_0, M10_len]
  refine ⟨⟨by omega, by omega⟩, hl, ?_⟩
  unfold g10_0
  omega

end Go.Proofs.YtpoajfdfmiafnaaGreatDoor

/- A law that says how functions of the program and of the specification hang together. -/
set_option linter.unusedVariables false
set_option linter.unusedSimpArgs false
set_option maxRecDepth 100000
namespace Go.Proofs.YtpoajfdfmiafnaaGreatDoor
open Go Go.Am Go.Proofs

theorem marked_strs (xs : List ByteArray) (h : xs.length ≤ 1048576) : P11 xs 1 ∧ (u11_0 xs 1).length = xs.length ∧ ¬ g11_0 xs 1 < 0 := by
  have hl : (u11_0 xs 1).length = xs.length := by rw [u11_0, M11_len]
  refine ⟨⟨by omega, by omega⟩, hl, ?_⟩
  unfold g11_0
  omega

end Go.Proofs.YtpoajfdfmiafnaaGreatDoor

/- A law that says how functions of the program and of the specification hang together. -/
set_option linter.unusedVariables false
set_option linter.unusedSimpArgs false
set_option maxRecDepth 100000
namespace Go.Proofs.YtpoajfdfmiafnaaGreatDoor
open Go Go.Am Go.Proofs

theorem held_strs (xs : List ByteArray) (h : xs.length ≤ 1048576) : P12 (u11_0 xs 1) 1 ∧ g12_0 (u11_0 xs 1) 1 = g11_0 xs 1 := by
  have hl : (u11_0 xs 1).length = xs.length := by rw [u11_0, M11_len]
  refine ⟨⟨⟨by omega, by rw [hl]; omega⟩, fun i hi => ?_⟩, ?_⟩
  · rw [hl] at hi
    rw [getD_lt _ _ _ (by rw [hl]; exact hi)]
    simp [u11_0, M11]
  · unfold g12_0 g11_0
    rw [hl]

end Go.Proofs.YtpoajfdfmiafnaaGreatDoor

/- The plain law of FnExactWearReport. -/
set_option linter.unusedVariables false
set_option linter.unusedSimpArgs false
set_option maxRecDepth 100000
namespace Go.Proofs.YtpoajfdfmiafnaaGreatDoor
open Go Go.Am Go.Proofs

theorem law3 (x : List (Int × Int × Int × Unit)) (hw : Wf (.sl (.cons (.int .i64) (.cons (.int .i64) (.cons (.int .i64) .unit)))) x) : P3 x ∧ g3_0 x = true := by
  unfold P3 g3_0
  have hm : x.length ≤ 9223372036854775807 := hw.1
  have hz : P4 x 1048576 := ⟨by rw [i64_iff]; omega, trivial⟩
  by_cases h : g4_0 x 1048576 < 0
  · simp only [h, hz, decide_true, if_true, and_true]
  · have hs := (g4_le x 1048576 (by decide) (by decide) hw h).2
    have hp : P6 x := by
      show 24 * (x.length : Int) ≤ 281474976710656
      omega
    obtain ⟨p2, p1, e0, e1, hl⟩ := wear_report x
    obtain ⟨b1, b2, b3⟩ := marked_test x (by omega)
    obtain ⟨c1, c2, c3⟩ := marked_strs (g5_0 x) (by omega)
    obtain ⟨d1, d2⟩ := held_strs (g5_0 x) (by omega)
    have hn : ¬ g11_0 (g5_0 x) 1 < 0 := c3
    simp only [h, decide_false, Bool.false_eq_true, if_false, g6_0, e0, e1, p1, p2, g8_0, g9_0, decide_true, Bool.not_true, bne_self_eq_false, beq_self_eq_true, b1, b2, b3, c1, c2, c3, d1, d2, hp, hz, true_and, and_self]

end Go.Proofs.YtpoajfdfmiafnaaGreatDoor
