/- Several texts in one: the functions that this law reaches, and their laws. -/
import Derived.Test.YtalgkffjceljiaaGreatDoorZ3A
import Derived.Test.YtalgkffjceljiaaGreatDoorZ3B
import Derived.Test.YtalgkffjceljiaaGreatDoorZ3C
import Derived.Test.YtalgkffjceljiaaGreatDoorZ3D
import Derived.Lib.SliceRun
import Derived.Laws.AppendOwn
import Derived.WalkKit
import Derived.Deep.LoopGhost
import Derived.Lib.Walk
import Derived.Shelf.RegionOpenPlain
import Derived.Deep.RegionLaw
import Derived.Deep.AppendSrc
import Derived.Lib.JoinLaws
import Derived.Lib.AppendZeros
import Derived.Lib.AppendZerosOnto
import Derived.Lib.Overlaps
import Derived.Laws.Externs
import Derived.Laws.IdiomCopy
import Derived.Lib.ItoaNum
import Derived.Lib.IndexAny
import Derived.Lib.IndexMore
import Derived.Lib.TrimByte

/- Function 9 (impl.DamagedLines): its runs between cut points. Written by a program of this repo (gen). -/
set_option linter.unusedVariables false
set_option linter.unusedSimpArgs false
set_option maxRecDepth 100000
namespace Go.Proofs.YtalgkffjceljiaaGreatDoor
open Go Go.Am Go.Proofs
noncomputable section
def ext9 : Ext := [(17, S17), (18, S18), (19, S19)]
theorem call9_17 : Callable Tryz.prog 17 := ⟨Tryz.f17, Tryz.func17, by kernel_rfl, by kernel_rfl⟩
theorem call9_18 : Callable Tryz.prog 18 := ⟨Tryz.f18, Tryz.func18, by kernel_rfl, by kernel_rfl⟩
theorem call9_19 : Callable Tryz.prog 19 := ⟨Tryz.f19, Tryz.func19, by kernel_rfl, by kernel_rfl⟩
theorem ext9Ok : ExtOk Tryz.prog ext9 := ⟨⟨call9_17, con17⟩, ⟨call9_18, con18⟩, ⟨call9_19, con19⟩, trivial⟩

noncomputable def b9 : Code := bodyOf Tryz.f9
theorem hb9 : Tryz.f9.body = some b9 := by kernel_rfl
def sig9 : List AT := [AT.v (Ty.str)]
def tys9 : List Ty := [Ty.sl (Ty.int IntKind.i64)]
def kds9 : List RK := []
def oks9 : List AT := owns sig9
def E9_4 (v17 : Int) (h1 : List Int) (x0 : ByteArray) : Env := [(3, PV.a (Atom.osl 0 Option.none)), (4, PV.a (Atom.val (Value.string (g17_1 x0)))), (5, PV.a (Atom.osl 1 Option.none)), (15, PV.a (Atom.osl 0 Option.none)), (16, PV.a (Atom.val (Value.int IntKind.i64 (↑(List.length (g17_0 x0)) : Int)))), (17, PV.a (Atom.val (Value.int IntKind.i64 v17)))]
def L9_4 (v17 : Int) (h1 : List Int) (x0 : ByteArray) : Heap := [Option.some (Arr.mk Ty.str (g17_0 x0) Bool.false Option.none Option.none), Option.some (Arr.mk (Ty.int IntKind.i64) h1 Bool.false Option.none Option.none)]
mutual
def R9 : Nat → ByteArray → List Dyn → Prop
  | 0, _, _ => False
  | n + 1, x0, ds => ((P17 x0) ∧ (R9_4 n (0) ([]) (x0) ds))
def R9_4 : Nat → Int → List Int → ByteArray → List Dyn → Prop
  | 0, _, _, _, _ => False
  | n + 1, v17, h1, x0, ds => (if (Decidable.decide (v17 < (↑(List.length (g17_0 x0)) : Int))) = true then ((0 ≤ v17) ∧ (v17 < (↑(List.length (g17_0 x0)) : Int)) ∧ ((P18 (List.getD (g17_0 x0) (Int.toNat v17) ByteArray.empty)) ∧ (if (Decidable.decide (v17 > 0)) = true then (if (g18_1 (List.getD (g17_0 x0) (Int.toNat v17) ByteArray.empty) != 0) = true then ((InR IntKind.i64 (v17 + 1)) ∧ (((List.length h1 + 1) * 8 ≤ 140737488355328) ∧ ((InR IntKind.i64 (v17 + 1)) ∧ (R9_4 n (v17 + 1) (h1 ++ [v17 + 1]) (x0) ds)))) else ((InR IntKind.i64 (v17 + 1)) ∧ (R9_4 n (v17 + 1) (h1) (x0) ds))) else ((InR IntKind.i64 (v17 + 1)) ∧ (R9_4 n (v17 + 1) (h1) (x0) ds))))) else (if (!ByteArray.toList (g17_1 x0) == ByteArray.toList (ByteArray.mk #[])) = true then ((InR IntKind.i64 (g19_0 (g17_0 x0) + 1)) ∧ (((List.length h1 + 1) * 8 ≤ 140737488355328) ∧ (ds = [Dyn.mk (Ty.sl (Ty.int IntKind.i64)) (h1 ++ [g19_0 (g17_0 x0) + 1])]))) else (ds = [Dyn.mk (Ty.sl (Ty.int IntKind.i64)) h1])))
end
theorem snd9 : ∀ n, (∀ (x0 : ByteArray) ds, R9 n x0 ds → ∀ K q, AtV Tryz.prog 9 (PostR kds9 oks9 ds [] [] q K) 48 K q [] [.code b9] (entE 0 0 sig9 (x0, ())) (entL sig9 (x0, ()))) ∧ (∀ (v17 : Int) (h1 : List Int) (x0 : ByteArray) ds, R9_4 n v17 h1 x0 ds → ∀ K q, AtV Tryz.prog 9 (PostR kds9 oks9 ds [] [] q K) 48 K q [] (cutAt b9 4) (E9_4 v17 h1 x0) (L9_4 v17 h1 x0)) := by
  intro n
  induction n with
  | zero => exact ⟨fun _ _ h => by simp only [R9] at h, fun _ _ _ _ h => by simp only [R9_4] at h⟩
  | succ n ih =>
  obtain ⟨ih, ih4⟩ := ih
  refine ⟨?_, ?_⟩
  · intro x0 ds h K q
    rw [R9] at h
    obtain ⟨s0, h⟩ := h
    exact AtV.go tabOk ext9Ok mixed false [] [(5, Ty.int IntKind.i64)] [3, 4, 5, 15, 16, 17] [0, 1] [] (a1 s0 trivial) (ih4 _ _ _ _ h K q) (by kernel_rfl)

  · intro v17 h1 x0 ds h K q
    rw [R9_4] at h
    by_cases b0 : (Decidable.decide (v17 < (↑(List.length (g17_0 x0)) : Int))) = true
    · rw [if_pos b0] at h
      obtain ⟨s0, s1, h⟩ := h
      obtain ⟨s2, h⟩ := h
      by_cases b1 : (Decidable.decide (v17 > 0)) = true
      · rw [if_pos b1] at h
        by_cases b2 : (g18_1 (List.getD (g17_0 x0) (Int.toNat v17) ByteArray.empty) != 0) = true
        · rw [if_pos b2] at h
          obtain ⟨s3, h⟩ := h
          obtain ⟨s4, h⟩ := h
          obtain ⟨s5, h⟩ := h
          exact AtV.go tabOk ext9Ok mixed false [] [(5, Ty.int IntKind.i64)] [3, 4, 5, 15, 16, 17] [0, 1] [true, true, true] (a1 b0 (a1 s0 (a1 s1 (a1 s2 (a1 b1 (a1 b2 (a1 s3 (a1 s4 (a1 s5 trivial))))))))) (ih4 _ _ _ _ h K q) (by kernel_rfl)
        · rw [if_neg b2] at h
          replace b2 := Bool.eq_false_iff.2 b2
          obtain ⟨s3, h⟩ := h
          exact AtV.go tabOk ext9Ok mixed false [] [(5, Ty.int IntKind.i64)] [3, 4, 5, 15, 16, 17] [0, 1] [true, true, false] (a1 b0 (a1 s0 (a1 s1 (a1 s2 (a1 b1 (a1 b2 (a1 s3 trivial))))))) (ih4 _ _ _ _ h K q) (by kernel_rfl)
      · rw [if_neg b1] at h
        replace b1 := Bool.eq_false_iff.2 b1
        obtain ⟨s3, h⟩ := h
        exact AtV.go tabOk ext9Ok mixed false [] [(5, Ty.int IntKind.i64)] [3, 4, 5, 15, 16, 17] [0, 1] [true, false, false] (a1 b0 (a1 s0 (a1 s1 (a1 s2 (a1 b1 (a1 (rfl : Bool.false = Bool.false) (a1 s3 trivial))))))) (ih4 _ _ _ _ h K q) (by kernel_rfl)
    · rw [if_neg b0] at h
      replace b0 := Bool.eq_false_iff.2 b0
      by_cases b1 : (!ByteArray.toList (g17_1 x0) == ByteArray.toList (ByteArray.mk #[])) = true
      · rw [if_pos b1] at h
        obtain ⟨s0, h⟩ := h
        obtain ⟨s1, h⟩ := h
        subst h
        exact AtV.ret Tryz.func9 tabOk ext9Ok mixed false [] tys9 [false, true] (a1 b0 (a1 b1 (a1 trivial (a1 s0 (a1 s1 trivial))))) (by kernel_rfl)
      · rw [if_neg b1] at h
        replace b1 := Bool.eq_false_iff.2 b1
        subst h
        exact AtV.ret Tryz.func9 tabOk ext9Ok mixed false [] tys9 [false, false] (a1 b0 (a1 b1 trivial)) (by kernel_rfl)



def dm9 : Nat → List ByteArray → List Int
  | _, [] => []
  | i, x :: r => (if (decide ((i : Int) > 0)) = true then (if (g18_1 x != 0) = true then [(i : Int) + 1] else []) else []) ++ dm9 (i + 1) r
def tl9 (x0 : ByteArray) : List Int := if (!ByteArray.toList (g17_1 x0) == ByteArray.toList (ByteArray.mk #[])) = true then [((g17_0 x0).length : Int) + 1] else []
def g9_0 (x0 : ByteArray) : List Int := dm9 0 (g17_0 x0) ++ tl9 x0
def P9 (x0 : ByteArray) : Prop := P17 x0 ∧ (g17_0 x0).length ≤ 1048577 ∧ ∀ x ∈ g17_0 x0, P18 x

theorem run9 (x0 : ByteArray) (hl : (g17_0 x0).length ≤ 1048577) (hp : ∀ x ∈ g17_0 x0, P18 x) : ∀ (k i : Nat) (h : List Int), (g17_0 x0).length ≤ i + k → h.length ≤ i → i ≤ 1048578 →
    R9_4 (k + 1) (i : Int) h x0 [⟨.sl (.int .i64), h ++ (dm9 i ((g17_0 x0).drop i) ++ tl9 x0)⟩] := by
  have fin : ∀ (n i : Nat) (h : List Int), ¬ i < (g17_0 x0).length → h.length ≤ i → i ≤ 1048578 → R9_4 (n + 1) (i : Int) h x0 [⟨.sl (.int .i64), h ++ (dm9 i ((g17_0 x0).drop i) ++ tl9 x0)⟩] := by
    intro n i h hi hh h8
    rw [R9_4, if_neg (by simp; omega), List.drop_of_length_le (by omega)]
    unfold dm9 tl9
    by_cases hc : (!ByteArray.toList (g17_1 x0) == ByteArray.toList (ByteArray.mk #[])) = true
    · rw [if_pos hc, if_pos hc]
      exact ⟨by show InR .i64 (((g17_0 x0).length : Int) + 1); rw [i64_iff]; omega, by omega, rfl⟩
    · rw [if_neg hc, if_neg hc]
      simp
  intro k
  induction k with
  | zero =>
    intro i h hi hh h8
    exact fin 0 i h (by omega) hh h8
  | succ k ih =>
    intro i h hi hh h8
    by_cases hlt : i < (g17_0 x0).length
    · rw [R9_4, if_pos (by simp; omega), drop_get _ i ByteArray.empty hlt]
      simp only [Int.toNat_natCast]
      refine ⟨by omega, by omega, hp _ (mem_getD _ i _ hlt), ?_⟩
      have e1 : (i : Int) + 1 = ((i + 1 : Nat) : Int) := by omega
      unfold dm9
      have hz := ih (i + 1) h (by omega) (by omega) (by omega)
      rw [← e1] at hz
      by_cases h0 : (decide ((i : Int) > 0)) = true
      · rw [if_pos h0, if_pos h0]
        by_cases hc : (g18_1 (List.getD (g17_0 x0) i ByteArray.empty) != 0) = true
        · rw [if_pos hc, if_pos hc]
          refine ⟨by rw [i64_iff]; omega, by omega, by rw [i64_iff]; omega, ?_⟩
          have := ih (i + 1) (h ++ [(i : Int) + 1]) (by omega) (len_up hh) (by omega)
          rw [← e1] at this
          simpa using this
        · rw [if_neg hc, if_neg hc]
          exact ⟨by rw [i64_iff]; omega, by simpa using hz⟩
      · rw [if_neg h0, if_neg h0]
        exact ⟨by rw [i64_iff]; omega, by simpa using hz⟩
    · exact fin (k + 1) i h hlt hh h8

theorem top9 (x0 : ByteArray) (h : P9 x0) : R9 ((g17_0 x0).length + 1 + 1) x0 [⟨.sl (.int .i64), g9_0 x0⟩] := by
  rw [R9]
  refine ⟨h.1, ?_⟩
  have := run9 x0 h.2.1 h.2.2 (g17_0 x0).length 0 [] (by omega) (by simp) (by omega)
  simpa [g9_0] using this

def S9 : Am.Spec := { sig := sig9, pre := fun ⟨x0, _⟩ => P9 x0, res := fun ⟨x0, _⟩ => [⟨.sl (.int .i64), g9_0 x0⟩] }
theorem con9 : Contract Tryz.prog 9 S9 := contract_of Tryz.func9 hb9 (Nat.le_of_ble_eq_true (by kernel_rfl)) (fun ⟨x0, _⟩ h hwf K q =>
  (snd9 _).1 x0 _ (top9 x0 h) K q)

end
end Go.Proofs.YtalgkffjceljiaaGreatDoor

/- Function 96 (cmp.isNaN[string]): its runs between cut points. Written by a program of this repo (gen). -/
set_option linter.unusedVariables false
set_option linter.unusedSimpArgs false
set_option maxRecDepth 100000
namespace Go.Proofs.YtalgkffjceljiaaGreatDoor
open Go Go.Am Go.Proofs
noncomputable section
def ext96 : Ext := []
theorem ext96Ok : ExtOk Tryz.prog ext96 := trivial

noncomputable def b96 : Code := bodyOf Tryz.f96
theorem hb96 : Tryz.f96.body = some b96 := by kernel_rfl
def sig96 : List AT := [AT.v (Ty.str)]
def tys96 : List Ty := [Ty.bool]
def kds96 : List RK := []
def oks96 : List AT := owns sig96
def P96 (x0 : ByteArray) : Prop := True
def g96_0 (x0 : ByteArray) : Bool := !ByteArray.toList x0 == ByteArray.toList x0
theorem at96 (x0 : ByteArray) (h : P96 x0) (K : Ctx) (q : Nat → Value) : AtV Tryz.prog 96 (PostR kds96 oks96 [⟨Ty.bool, g96_0 x0⟩] [] [] q K) 6 K q [] [.code b96] (entE 0 0 sig96 (x0, ())) (entL sig96 (x0, ())) := by
  unfold P96 at h
  unfold g96_0
  exact AtV.ret Tryz.func96 tabOk ext96Ok mixed false [] tys96 [] trivial (by kernel_rfl)

def S96 : Am.Spec := { sig := sig96, pre := fun ⟨x0, _⟩ => P96 x0, res := fun ⟨x0, _⟩ => [⟨Ty.bool, g96_0 x0⟩], kds := kds96 }
theorem con96 : Contract Tryz.prog 96 S96 := contract_of Tryz.func96 hb96 (Nat.le_of_ble_eq_true (by kernel_rfl)) (fun ⟨x0, _⟩ h _ K q => at96 x0 h K q)


end
end Go.Proofs.YtalgkffjceljiaaGreatDoor

/- Function 79 (cmp.Compare[string]): its runs between cut points. Written by a program of this repo (gen). -/
set_option linter.unusedVariables false
set_option linter.unusedSimpArgs false
set_option maxRecDepth 100000
namespace Go.Proofs.YtalgkffjceljiaaGreatDoor
open Go Go.Am Go.Proofs
noncomputable section
def ext79 : Ext := [(96, S96)]
theorem call79_96 : Callable Tryz.prog 96 := ⟨Tryz.f96, Tryz.func96, by kernel_rfl, by kernel_rfl⟩
theorem ext79Ok : ExtOk Tryz.prog ext79 := ⟨⟨call79_96, con96⟩, trivial⟩

noncomputable def b79 : Code := bodyOf Tryz.f79
theorem hb79 : Tryz.f79.body = some b79 := by kernel_rfl
def sig79 : List AT := [AT.v (Ty.str), AT.v (Ty.str)]
def tys79 : List Ty := [Ty.int IntKind.i64]
def kds79 : List RK := []
def oks79 : List AT := owns sig79
def P79 (x0 : ByteArray) (x1 : ByteArray) : Prop := True
def g79_0 (x0 : ByteArray) (x1 : ByteArray) : Int := (if (g96_0 x0) = true then (if (g96_0 x1) = true then 0 else -1) else (if (g96_0 x1) = true then 1 else (if (Op.bytesLess (ByteArray.toList x0) (ByteArray.toList x1)) = true then -1 else (if (!(Op.bytesLess (ByteArray.toList x0) (ByteArray.toList x1) || ByteArray.toList x0 == ByteArray.toList x1)) = true then 1 else 0))))
theorem at79 (x0 : ByteArray) (x1 : ByteArray) (h : P79 x0 x1) (K : Ctx) (q : Nat → Value) : AtV Tryz.prog 79 (PostR kds79 oks79 [⟨Ty.int IntKind.i64, g79_0 x0 x1⟩] [] [] q K) 20 K q [] [.code b79] (entE 0 0 sig79 (x0, x1, ())) (entL sig79 (x0, x1, ())) := by
  unfold P79 at h
  unfold g79_0
  by_cases b0 : (g96_0 x0) = true
  · try simp only [if_pos b0] at h ⊢
    by_cases b1 : (g96_0 x1) = true
    · try simp only [if_pos b1] at h ⊢
      exact AtV.ret Tryz.func79 tabOk ext79Ok mixed false [] tys79 [true, true] (a1 trivial (a1 trivial (a1 b0 (a1 b1 trivial)))) (by kernel_rfl)
    · try simp only [if_neg b1] at h ⊢
      replace b1 := Bool.eq_false_iff.2 b1
      exact AtV.ret Tryz.func79 tabOk ext79Ok mixed false [] tys79 [true, false] (a1 trivial (a1 trivial (a1 b0 (a1 b1 trivial)))) (by kernel_rfl)
  · try simp only [if_neg b0] at h ⊢
    replace b0 := Bool.eq_false_iff.2 b0
    by_cases b1 : (g96_0 x1) = true
    · try simp only [if_pos b1] at h ⊢
      exact AtV.ret Tryz.func79 tabOk ext79Ok mixed false [] tys79 [false, true] (a1 trivial (a1 trivial (a1 b0 (a1 b1 trivial)))) (by kernel_rfl)
    · try simp only [if_neg b1] at h ⊢
      replace b1 := Bool.eq_false_iff.2 b1
      by_cases b2 : (Op.bytesLess (ByteArray.toList x0) (ByteArray.toList x1)) = true
      · try simp only [if_pos b2] at h ⊢
        exact AtV.ret Tryz.func79 tabOk ext79Ok mixed false [] tys79 [false, false, true] (a1 trivial (a1 trivial (a1 b0 (a1 b1 (a1 b2 trivial))))) (by kernel_rfl)
      · try simp only [if_neg b2] at h ⊢
        replace b2 := Bool.eq_false_iff.2 b2
        by_cases b3 : (!(Op.bytesLess (ByteArray.toList x0) (ByteArray.toList x1) || ByteArray.toList x0 == ByteArray.toList x1)) = true
        · try simp only [if_pos b3] at h ⊢
          exact AtV.ret Tryz.func79 tabOk ext79Ok mixed false [] tys79 [false, false, false, true] (a1 trivial (a1 trivial (a1 b0 (a1 b1 (a1 b2 (a1 b3 trivial)))))) (by kernel_rfl)
        · try simp only [if_neg b3] at h ⊢
          replace b3 := Bool.eq_false_iff.2 b3
          exact AtV.ret Tryz.func79 tabOk ext79Ok mixed false [] tys79 [false, false, false, false] (a1 trivial (a1 trivial (a1 b0 (a1 b1 (a1 b2 (a1 b3 trivial)))))) (by kernel_rfl)

def S79 : Am.Spec := { sig := sig79, pre := fun ⟨x0, x1, _⟩ => P79 x0 x1, res := fun ⟨x0, x1, _⟩ => [⟨Ty.int IntKind.i64, g79_0 x0 x1⟩], kds := kds79 }
theorem con79 : Contract Tryz.prog 79 S79 := contract_of Tryz.func79 hb79 (Nat.le_of_ble_eq_true (by kernel_rfl)) (fun ⟨x0, x1, _⟩ h _ K q => at79 x0 x1 h K q)


end
end Go.Proofs.YtalgkffjceljiaaGreatDoor

/- Function 78 (cmp.Or[int]): its runs between cut points. Written by a program of this repo (gen). -/
set_option linter.unusedVariables false
set_option linter.unusedSimpArgs false
set_option maxRecDepth 100000
namespace Go.Proofs.YtalgkffjceljiaaGreatDoor
open Go Go.Am Go.Proofs
noncomputable section
def ext78 : Ext := []
theorem ext78Ok : ExtOk Tryz.prog ext78 := trivial

noncomputable def b78 : Code := bodyOf Tryz.f78
theorem hb78 : Tryz.f78.body = some b78 := by kernel_rfl
def sig78 : List AT := [AT.v (Ty.sl (Ty.int IntKind.i64))]
def tys78 : List Ty := [Ty.int IntKind.i64]
def kds78 : List RK := []
def oks78 : List AT := owns sig78
def E78_3 (v8 : Int) (x0 : List Int) : Env := [(3, PV.a (Atom.val (Value.int IntKind.i64 0))), (6, PV.a (Atom.sl (Ty.int IntKind.i64) x0)), (7, PV.a (Atom.val (Value.int IntKind.i64 (↑(List.length x0) : Int)))), (8, PV.a (Atom.val (Value.int IntKind.i64 v8)))]
def L78_3 (v8 : Int) (x0 : List Int) : Heap := []
mutual
def R78 : Nat → List Int → List Dyn → Prop
  | 0, _, _ => False
  | n + 1, x0, ds => (R78_3 n (0) (x0) ds)
def R78_3 : Nat → Int → List Int → List Dyn → Prop
  | 0, _, _, _ => False
  | n + 1, v8, x0, ds => (if (Decidable.decide (v8 < (↑(List.length x0) : Int))) = true then ((0 ≤ v8) ∧ (v8 < (↑(List.length x0) : Int)) ∧ (if (List.getD x0 (Int.toNat v8) 0 != 0) = true then (ds = [Dyn.mk (Ty.int IntKind.i64) (List.getD x0 (Int.toNat v8) 0)]) else ((InR IntKind.i64 (v8 + 1)) ∧ (R78_3 n (v8 + 1) (x0) ds)))) else (ds = [Dyn.mk (Ty.int IntKind.i64) 0]))
end
theorem snd78 : ∀ n, (∀ (x0 : List Int) ds, R78 n x0 ds → ∀ K q, AtV Tryz.prog 78 (PostR kds78 oks78 ds [] [] q K) 18 K q [] [.code b78] (entE 0 0 sig78 (x0, ())) (entL sig78 (x0, ()))) ∧ (∀ (v8 : Int) (x0 : List Int) ds, R78_3 n v8 x0 ds → ∀ K q, AtV Tryz.prog 78 (PostR kds78 oks78 ds [] [] q K) 18 K q [] (cutAt b78 3) (E78_3 v8 x0) (L78_3 v8 x0)) := by
  intro n
  induction n with
  | zero => exact ⟨fun _ _ h => by simp only [R78] at h, fun _ _ _ h => by simp only [R78_3] at h⟩
  | succ n ih =>
  obtain ⟨ih, ih3⟩ := ih
  refine ⟨?_, ?_⟩
  · intro x0 ds h K q
    rw [R78] at h
    exact AtV.go tabOk ext78Ok mixed false [] [] [3, 6, 7, 8] [] [] trivial (ih3 _ _ _ h K q) (by kernel_rfl)

  · intro v8 x0 ds h K q
    rw [R78_3] at h
    by_cases b0 : (Decidable.decide (v8 < (↑(List.length x0) : Int))) = true
    · rw [if_pos b0] at h
      obtain ⟨s0, s1, h⟩ := h
      by_cases b1 : (List.getD x0 (Int.toNat v8) 0 != 0) = true
      · rw [if_pos b1] at h
        subst h
        exact AtV.ret Tryz.func78 tabOk ext78Ok mixed false [] tys78 [true, true] (a1 b0 (a1 s0 (a1 s1 (a1 b1 trivial)))) (by kernel_rfl)
      · rw [if_neg b1] at h
        replace b1 := Bool.eq_false_iff.2 b1
        obtain ⟨s2, h⟩ := h
        exact AtV.go tabOk ext78Ok mixed false [] [] [3, 6, 7, 8] [] [true, false] (a1 b0 (a1 s0 (a1 s1 (a1 b1 (a1 s2 trivial))))) (ih3 _ _ _ h K q) (by kernel_rfl)
    · rw [if_neg b0] at h
      replace b0 := Bool.eq_false_iff.2 b0
      subst h
      exact AtV.ret Tryz.func78 tabOk ext78Ok mixed false [] tys78 [false] (a1 b0 trivial) (by kernel_rfl)



def g78_0 : List Int → Int
  | [] => 0
  | x :: r => if x != 0 then x else g78_0 r
def P78 (x0 : List Int) : Prop := True

theorem goL78 : ∀ (xs : List Int), goL (fun (_ : Unit) (x : Int) => if (x != 0) = true then Except.error [(⟨.int .i64, x⟩ : Dyn)] else .ok ()) (fun _ => [⟨.int .i64, (0 : Int)⟩]) () xs = [⟨.int .i64, g78_0 xs⟩]
  | [] => rfl
  | x :: r => by
    simp only [goL, g78_0]
    cases h : x != 0 with
    | true => simp
    | false => simpa using goL78 r

theorem top78 (x0 : List Int) (hm : x0.length ≤ maxLen) : R78 (x0.length + 1 + 1) x0 [⟨.int .i64, g78_0 x0⟩] := by
  rw [R78, ← goL78]
  refine loop_all x0 0 _ _ (fun _ _ => True) (fun n i _ ds => R78_3 n i x0 ds) trivial ?_ ?_
  · intro n b _
    show R78_3 (n + 1) x0.length x0 _
    rw [R78_3, if_neg (by simp)]
  · intro n i b hi _
    cases h : (x0.getD i 0 != 0) with
    | true =>
      show R78_3 (n + 1) (i : Int) x0 _
      rw [R78_3, if_pos (by simp; omega)]
      refine ⟨by omega, by omega, ?_⟩
      simp only [Int.toNat_natCast]
      rw [if_pos h] <;> trivial
    | false =>
      refine ⟨trivial, fun ds hr => ?_⟩
      rw [R78_3, if_pos (by simp; omega)]
      refine ⟨by omega, by omega, ?_⟩
      simp only [Int.toNat_natCast]
      rw [if_neg (by rw [h]; simp)]
      exact ⟨inR_up hm hi, hr⟩

def S78 : Am.Spec := { sig := sig78, pre := fun ⟨x0, _⟩ => P78 x0, res := fun ⟨x0, _⟩ => [⟨Ty.int .i64, g78_0 x0⟩] }
theorem con78 : Contract Tryz.prog 78 S78 := contract_of Tryz.func78 hb78 (Nat.le_of_ble_eq_true (by kernel_rfl)) (fun ⟨x0, _⟩ h hwf K q =>
  (snd78 _).1 x0 _ (top78 x0 hwf.1.1) K q)

end
end Go.Proofs.YtalgkffjceljiaaGreatDoor

/- Function 60 (impl.compareBlocks): its runs between cut points. Written by a program of this repo (gen). -/
set_option linter.unusedVariables false
set_option linter.unusedSimpArgs false
set_option maxRecDepth 100000
namespace Go.Proofs.YtalgkffjceljiaaGreatDoor
open Go Go.Am Go.Proofs
noncomputable section
def ext60 : Ext := [(79, S79), (78, S78)]
theorem call60_79 : Callable Tryz.prog 79 := ⟨Tryz.f79, Tryz.func79, by kernel_rfl, by kernel_rfl⟩
theorem call60_78 : Callable Tryz.prog 78 := ⟨Tryz.f78, Tryz.func78, by kernel_rfl, by kernel_rfl⟩
theorem ext60Ok : ExtOk Tryz.prog ext60 := ⟨⟨call60_79, con79⟩, ⟨call60_78, con78⟩, trivial⟩

noncomputable def b60 : Code := bodyOf Tryz.f60
theorem hb60 : Tryz.f60.body = some b60 := by kernel_rfl
def sig60 : List AT := [AT.v (Ty.cons Ty.str (Ty.cons Ty.str (Ty.cons Ty.str Ty.unit))), AT.v (Ty.cons Ty.str (Ty.cons Ty.str (Ty.cons Ty.str Ty.unit)))]
def tys60 : List Ty := [Ty.int IntKind.i64]
def kds60 : List RK := []
def oks60 : List AT := owns sig60
def P60 (x0 : ByteArray × ByteArray × ByteArray × Unit) (x1 : ByteArray × ByteArray × ByteArray × Unit) : Prop := True
def g60_0 (x0 : ByteArray × ByteArray × ByteArray × Unit) (x1 : ByteArray × ByteArray × ByteArray × Unit) : Int := g78_0 [g79_0 (Prod.fst x0) (Prod.fst x1), g79_0 (Prod.fst (Prod.snd x0)) (Prod.fst (Prod.snd x1))]
theorem at60 (x0 : ByteArray × ByteArray × ByteArray × Unit) (x1 : ByteArray × ByteArray × ByteArray × Unit) (h : P60 x0 x1) (K : Ctx) (q : Nat → Value) : AtV Tryz.prog 60 (PostR kds60 oks60 [⟨Ty.int IntKind.i64, g60_0 x0 x1⟩] [] [] q K) 17 K q [] [.code b60] (entE 0 0 sig60 (x0, x1, ())) (entL sig60 (x0, x1, ())) := by
  unfold P60 at h
  unfold g60_0
  exact AtV.ret Tryz.func60 tabOk ext60Ok mixed false [] tys60 [] (a1 trivial (a1 trivial (a1 trivial trivial))) (by kernel_rfl)

def S60 : Am.Spec := { sig := sig60, pre := fun ⟨x0, x1, _⟩ => P60 x0 x1, res := fun ⟨x0, x1, _⟩ => [⟨Ty.int IntKind.i64, g60_0 x0 x1⟩], kds := kds60 }
theorem con60 : Contract Tryz.prog 60 S60 := contract_of Tryz.func60 hb60 (Nat.le_of_ble_eq_true (by kernel_rfl)) (fun ⟨x0, x1, _⟩ h _ K q => at60 x0 x1 h K q)


end
end Go.Proofs.YtalgkffjceljiaaGreatDoor

/- Function 36 (impl.ValidBlocks): its runs between cut points. Written by a program of this repo (gen). -/
set_option linter.unusedVariables false
set_option linter.unusedSimpArgs false
set_option maxRecDepth 100000
namespace Go.Proofs.YtalgkffjceljiaaGreatDoor
open Go Go.Am Go.Proofs
noncomputable section
def ext36 : Ext := [(34, S34), (60, S60)]
theorem call36_34 : Callable Tryz.prog 34 := ⟨Tryz.f34, Tryz.func34, by kernel_rfl, by kernel_rfl⟩
theorem call36_60 : Callable Tryz.prog 60 := ⟨Tryz.f60, Tryz.func60, by kernel_rfl, by kernel_rfl⟩
theorem ext36Ok : ExtOk Tryz.prog ext36 := ⟨⟨call36_34, con34⟩, ⟨call36_60, con60⟩, trivial⟩

noncomputable def b36 : Code := bodyOf Tryz.f36
theorem hb36 : Tryz.f36.body = some b36 := by kernel_rfl
def sig36 : List AT := [AT.v (Ty.sl (Ty.cons Ty.str (Ty.cons Ty.str (Ty.cons Ty.str Ty.unit))))]
def tys36 : List Ty := [Ty.bool]
def kds36 : List RK := []
def oks36 : List AT := owns sig36
def E36_2 (v7 : Int) (x0 : List (ByteArray × ByteArray × ByteArray × Unit)) : Env := [(0, PV.a (Atom.sl (Ty.cons Ty.str (Ty.cons Ty.str (Ty.cons Ty.str Ty.unit))) x0)), (5, PV.a (Atom.sl (Ty.cons Ty.str (Ty.cons Ty.str (Ty.cons Ty.str Ty.unit))) x0)), (6, PV.a (Atom.val (Value.int IntKind.i64 (↑(List.length x0) : Int)))), (7, PV.a (Atom.val (Value.int IntKind.i64 v7)))]
def L36_2 (v7 : Int) (x0 : List (ByteArray × ByteArray × ByteArray × Unit)) : Heap := []
mutual
def R36 : Nat → List (ByteArray × ByteArray × ByteArray × Unit) → List Dyn → Prop
  | 0, _, _ => False
  | n + 1, x0, ds => (R36_2 n (0) (x0) ds)
def R36_2 : Nat → Int → List (ByteArray × ByteArray × ByteArray × Unit) → List Dyn → Prop
  | 0, _, _, _ => False
  | n + 1, v7, x0, ds => (if (Decidable.decide (v7 < (↑(List.length x0) : Int))) = true then ((0 ≤ v7) ∧ (v7 < (↑(List.length x0) : Int)) ∧ ((P34 (List.getD x0 (Int.toNat v7) (ByteArray.empty, ByteArray.empty, ByteArray.empty, ()))) ∧ (if (!g34_0 (List.getD x0 (Int.toNat v7) (ByteArray.empty, ByteArray.empty, ByteArray.empty, ()))) = true then (ds = [Dyn.mk Ty.bool Bool.false]) else (if (Decidable.decide (v7 > 0)) = true then ((InR IntKind.i64 (v7 - 1)) ∧ ((0 ≤ v7 - 1) ∧ (v7 - 1 < (↑(List.length x0) : Int)) ∧ (if (Decidable.decide (g60_0 (List.getD x0 (Int.toNat (v7 - 1)) (ByteArray.empty, ByteArray.empty, ByteArray.empty, ())) (List.getD x0 (Int.toNat v7) (ByteArray.empty, ByteArray.empty, ByteArray.empty, ())) ≥ 0)) = true then (ds = [Dyn.mk Ty.bool Bool.false]) else ((InR IntKind.i64 (v7 + 1)) ∧ (R36_2 n (v7 + 1) (x0) ds))))) else ((InR IntKind.i64 (v7 + 1)) ∧ (R36_2 n (v7 + 1) (x0) ds)))))) else (ds = [Dyn.mk Ty.bool (Decidable.decide ((↑(List.length x0) : Int) ≤ 32))]))
end
theorem snd36 : ∀ n, (∀ (x0 : List (ByteArray × ByteArray × ByteArray × Unit)) ds, R36 n x0 ds → ∀ K q, AtV Tryz.prog 36 (PostR kds36 oks36 ds [] [] q K) 33 K q [] [.code b36] (entE 0 0 sig36 (x0, ())) (entL sig36 (x0, ()))) ∧ (∀ (v7 : Int) (x0 : List (ByteArray × ByteArray × ByteArray × Unit)) ds, R36_2 n v7 x0 ds → ∀ K q, AtV Tryz.prog 36 (PostR kds36 oks36 ds [] [] q K) 33 K q [] (cutAt b36 2) (E36_2 v7 x0) (L36_2 v7 x0)) := by
  intro n
  induction n with
  | zero => exact ⟨fun _ _ h => by simp only [R36] at h, fun _ _ _ h => by simp only [R36_2] at h⟩
  | succ n ih =>
  obtain ⟨ih, ih2⟩ := ih
  refine ⟨?_, ?_⟩
  · intro x0 ds h K q
    rw [R36] at h
    exact AtV.go tabOk ext36Ok mixed false [] [] [0, 5, 6, 7] [] [] trivial (ih2 _ _ _ h K q) (by kernel_rfl)

  · intro v7 x0 ds h K q
    rw [R36_2] at h
    by_cases b0 : (Decidable.decide (v7 < (↑(List.length x0) : Int))) = true
    · rw [if_pos b0] at h
      obtain ⟨s0, s1, h⟩ := h
      obtain ⟨s2, h⟩ := h
      by_cases b1 : (!g34_0 (List.getD x0 (Int.toNat v7) (ByteArray.empty, ByteArray.empty, ByteArray.empty, ()))) = true
      · rw [if_pos b1] at h
        subst h
        exact AtV.ret Tryz.func36 tabOk ext36Ok mixed false [] tys36 [true, true, true] (a1 b0 (a1 s0 (a1 s1 (a1 s2 (a1 b1 (a1 (rfl : Bool.true = Bool.true) trivial)))))) (by kernel_rfl)
      · rw [if_neg b1] at h
        replace b1 := Bool.eq_false_iff.2 b1
        by_cases b2 : (Decidable.decide (v7 > 0)) = true
        · rw [if_pos b2] at h
          obtain ⟨s3, h⟩ := h
          obtain ⟨s4, s5, h⟩ := h
          by_cases b3 : (Decidable.decide (g60_0 (List.getD x0 (Int.toNat (v7 - 1)) (ByteArray.empty, ByteArray.empty, ByteArray.empty, ())) (List.getD x0 (Int.toNat v7) (ByteArray.empty, ByteArray.empty, ByteArray.empty, ())) ≥ 0)) = true
          · rw [if_pos b3] at h
            subst h
            exact AtV.ret Tryz.func36 tabOk ext36Ok mixed false [] tys36 [true, false, true, true] (a1 b0 (a1 s0 (a1 s1 (a1 s2 (a1 b1 (a1 b2 (a1 s3 (a1 s4 (a1 s5 (a1 trivial (a1 b3 trivial))))))))))) (by kernel_rfl)
          · rw [if_neg b3] at h
            replace b3 := Bool.eq_false_iff.2 b3
            obtain ⟨s6, h⟩ := h
            exact AtV.go tabOk ext36Ok mixed false [] [] [0, 5, 6, 7] [] [true, false, true, false] (a1 b0 (a1 s0 (a1 s1 (a1 s2 (a1 b1 (a1 b2 (a1 s3 (a1 s4 (a1 s5 (a1 trivial (a1 b3 (a1 s6 trivial)))))))))))) (ih2 _ _ _ h K q) (by kernel_rfl)
        · rw [if_neg b2] at h
          replace b2 := Bool.eq_false_iff.2 b2
          obtain ⟨s3, h⟩ := h
          exact AtV.go tabOk ext36Ok mixed false [] [] [0, 5, 6, 7] [] [true, false, false, false] (a1 b0 (a1 s0 (a1 s1 (a1 s2 (a1 b1 (a1 b2 (a1 (rfl : Bool.false = Bool.false) (a1 s3 trivial)))))))) (ih2 _ _ _ h K q) (by kernel_rfl)
    · rw [if_neg b0] at h
      replace b0 := Bool.eq_false_iff.2 b0
      subst h
      exact AtV.ret Tryz.func36 tabOk ext36Ok mixed false [] tys36 [false] (a1 b0 trivial) (by kernel_rfl)



def ok36 (x0 : List (ByteArray × ByteArray × ByteArray × Unit)) (i : Nat) (x : ByteArray × ByteArray × ByteArray × Unit) : Bool :=
  g34_0 x && (i == 0 || !decide (g60_0 (x0.getD (i - 1) (ByteArray.empty, ByteArray.empty, ByteArray.empty, ())) x ≥ 0))
def g36_0 (x0 : List (ByteArray × ByteArray × ByteArray × Unit)) : Bool := allI (ok36 x0) 0 x0 && decide (x0.length ≤ 32)
def P36 (x0 : List (ByteArray × ByteArray × ByteArray × Unit)) : Prop := True

theorem step36 (n i : Nat) (x0 : List (ByteArray × ByteArray × ByteArray × Unit)) (hm : x0.length ≤ maxLen) (hi : i < x0.length) (ds : List Dyn) :
    (if ok36 x0 i (x0.getD i (ByteArray.empty, ByteArray.empty, ByteArray.empty, ())) = true then R36_2 n ((i : Int) + 1) x0 ds else ds = [⟨.bool, false⟩]) → R36_2 (n + 1) (i : Int) x0 ds := by
  intro h
  have hu := inR_up hm hi
  rw [R36_2, if_pos (by simp; omega)]
  refine ⟨by omega, by omega, ?_⟩
  simp only [Int.toNat_natCast]
  unfold ok36 at h
  refine ⟨pre34 _, ?_⟩
  by_cases h1 : g34_0 (x0.getD i (ByteArray.empty, ByteArray.empty, ByteArray.empty, ())) = true
  case neg =>
    have h1 := Bool.eq_false_iff.2 h1
    rw [h1] at h
    rw [if_pos (by rw [h1]; rfl)]
    simpa using h
  case pos =>
    rw [h1] at h
    rw [if_neg (by rw [h1]; simp)]
    by_cases h0 : (i : Int) > 0
    · rw [if_pos (by simpa using h0)]
      have hi0 : (i == 0) = false := by simp; omega
      have e : ((i : Int) - 1).toNat = i - 1 := by omega
      refine ⟨by rw [i64_iff]; have : maxLen ≤ 9223372036854775807 := by decide
                 omega, by omega, by omega, ?_⟩
      rw [e]
      by_cases h2 : g60_0 (x0.getD (i - 1) (ByteArray.empty, ByteArray.empty, ByteArray.empty, ())) (x0.getD i (ByteArray.empty, ByteArray.empty, ByteArray.empty, ())) ≥ 0
      · rw [if_pos (by simpa using h2)]
        rw [hi0, decide_eq_true h2] at h
        simpa using h
      · rw [if_neg (by simpa using h2)]
        rw [hi0, decide_eq_false h2] at h
        exact ⟨hu, by simpa using h⟩
    · rw [if_neg (by simpa using h0)]
      have hi0 : (i == 0) = true := by simp; omega
      rw [hi0] at h
      exact ⟨hu, by simpa using h⟩

theorem top36 (x0 : List (ByteArray × ByteArray × ByteArray × Unit)) (hw : x0.length ≤ maxLen) : R36 (x0.length + 1 + 1) x0 [⟨.bool, g36_0 x0⟩] := by
  rw [R36]
  have key := loop_testI x0 (ByteArray.empty, ByteArray.empty, ByteArray.empty, ()) (ok36 x0) [(⟨.bool, false⟩ : Dyn)] [⟨.bool, decide (x0.length ≤ 32)⟩] (fun n i ds => R36_2 n i x0 ds) (fun n => ?_) (fun n i hi hok ds hr => ?_) (fun n i hi hok => ?_)
  · unfold g36_0
    cases h : allI (ok36 x0) 0 x0 with
    | true => rw [if_pos h] at key; simpa using key
    | false => rw [if_neg (by rw [h]; simp)] at key; simpa using key
  · rw [R36_2, if_neg (by simp)]
    have hc : decide ((x0.length : Int) ≤ 32) = decide (x0.length ≤ 32) := by
      congr 1; exact propext ⟨fun h => by omega, fun h => by omega⟩
    rw [hc]
  · exact step36 n i x0 hw hi ds (by rw [if_pos hok]; exact hr)
  · exact step36 n i x0 hw hi _ (by rw [if_neg (by rw [hok]; simp)])

def S36 : Am.Spec := { sig := sig36, pre := fun ⟨x0, _⟩ => P36 x0, res := fun ⟨x0, _⟩ => [⟨Ty.bool, g36_0 x0⟩] }
theorem con36 : Contract Tryz.prog 36 S36 := contract_of Tryz.func36 hb36 (Nat.le_of_ble_eq_true (by kernel_rfl)) (fun ⟨x0, _⟩ h hwf K q =>
  (snd36 _).1 x0 _ (top36 x0 hwf.1.1) K q)

end
end Go.Proofs.YtalgkffjceljiaaGreatDoor

/- Function 61 (slices.Clone[[]impl.Block,impl.Block]): its contract, off what is known of the library. -/
set_option linter.unusedVariables false
set_option linter.unusedSimpArgs false
set_option maxRecDepth 100000
namespace Go.Proofs.YtalgkffjceljiaaGreatDoor
open Go Go.Am Go.Proofs

set_option maxHeartbeats 2000000 in
theorem nil61 (w : World) : Calls Tryz.prog 61 #[.slice none 0 0] w fun e w' => e = .returned (.slice none 0 0) ∧ w' = w := by
  have mixed := mixed
  have q22 : ∀ (w : World) (a : Option Addr) (n c n' c' : Nat), (binOp .eql 24 (.slice a n c) (.slice none n' c')).run Tryz.prog w = .ok (.bool a.isNone) w := fun w a n c n' c' => Lib.run_eql_slice_nil w _ _ a n c n' c' Tryz.underlying24
  go_enter Tryz.func61, Tryz.ntmps61
  go_wp2
  go_ret
  exact ⟨rfl, rfl⟩

set_option maxHeartbeats 4000000 in
theorem some61 (w : World) (a : Addr) (n c : Nat) (news : List Value) (hl : news.length = n * (Ty.size (Ty.cons Ty.str (Ty.cons Ty.str (Ty.cons Ty.str Ty.unit))))) (hn : n ≤ 1048576) (hc : ∀ (j : Nat) (u : Value), news[j]? = some u → w.cell? (a.add j) = some u) (h1 : ∀ u ∈ news, u.oneCell' = true) :
    Calls Tryz.prog 61 #[.slice (some a) n c] w fun r w' => ∃ v', r = .returned v' ∧ w'.ownsRow w.heap.size 43 (Ty.size (Ty.cons Ty.str (Ty.cons Ty.str (Ty.cons Ty.str Ty.unit)))) v' n news ∧ Go.RowKit.Below w.heap.size w w' := by
  have mixed := mixed
  have q22 : ∀ (w : World) (a : Option Addr) (n c n' c' : Nat), (binOp .eql 24 (.slice a n c) (.slice none n' c')).run Tryz.prog w = .ok (.bool a.isNone) w := fun w a n c n' c' => Lib.run_eql_slice_nil w _ _ a n c n' c' Tryz.underlying24
  have hinfo : TIOk Tryz.prog 24 (tabGet tab 24) := tabOk 24
  obtain ⟨_, _, ⟨_, ⟨i0, hi0, hz1, z, hz0, hzs, _⟩⟩, hby⟩ := hinfo
  rw [hi0] at hby
  simp only [Option.map_some, Option.some.injEq] at hby
  have hzs' : z.cells.size = Ty.size (Ty.cons Ty.str (Ty.cons Ty.str (Ty.cons Ty.str Ty.unit))) := by rw [← Array.length_toList, hzs]; rfl
  have A : Aside (∀ (j : Nat) (u : Value), news[j]? = some u → w.cell? (a.add j) = some u) := hc
  clear hc
  go_enter Tryz.func61, Tryz.ntmps61
  go_wp2_with (at_builtin; refine wpList_append_own _ rfl _ _ 24 rfl w.heap.size 43 i0 z (Ty.size (Ty.cons Ty.str (Ty.cons Ty.str (Ty.cons Ty.str Ty.unit)))) i0.bytes Tryz.underlying24 hi0 hz0 hz1 rfl hzs' (by decide) _ _ _ rfl (World.ownsRow_made w #[] 0 (Nat.le_refl _) (Nat.zero_le _) (by simp)) a n c news rfl ?qc1 ?qc2 ?qc3 ?qc4 ?qc5 ?qc6 ?_)
  case qc1 => exact hl
  case qc2 => intro j u hj; exact Lib.cell?_alloc_some _ (A.out j u hj)
  case qc3 => exact h1
  case qc4 => unfold maxLen; omega
  case qc5 => rw [hby]; omega
  case qc6 => simp
  intro v' w1 hown hgrow hnil
  go_wp2
  go_ret
  exact ⟨v', rfl, by simpa using hown, ((Go.RowKit.Below.refl _ w).alloc (Nat.le_refl _) _).grown hgrow (by simp) (by intro k hk; simp [Value.ownBlock] at hk; omega)⟩

def sig61 : List AT := [AT.v (Ty.sl (Ty.cons Ty.str (Ty.cons Ty.str (Ty.cons Ty.str Ty.unit))))]
def g61_0 (x0 : List (ByteArray × ByteArray × ByteArray × Unit)) : List (ByteArray × ByteArray × ByteArray × Unit) := x0
def P61 (x0 : List (ByteArray × ByteArray × ByteArray × Unit)) : Prop := x0.length ≤ 1048576
def S61 : Am.Spec := { sig := sig61, pre := fun ⟨x0, _⟩ => P61 x0, res := fun ⟨x0, _⟩ => [⟨Ty.sl (Ty.cons Ty.str (Ty.cons Ty.str (Ty.cons Ty.str Ty.unit))), g61_0 x0⟩] }
theorem con61 : Contract Tryz.prog 61 S61 := clone_contract (t := (Ty.cons Ty.str (Ty.cons Ty.str (Ty.cons Ty.str Ty.unit)))) (e := 43) rfl nil61 some61

end Go.Proofs.YtalgkffjceljiaaGreatDoor

/- Function 80 (slices.BinarySearchFunc[[]impl.Block,impl.Block,impl.Block]): its runs between cut points. Written by a program of this repo (gen). -/
set_option linter.unusedVariables false
set_option linter.unusedSimpArgs false
set_option maxRecDepth 100000
namespace Go.Proofs.YtalgkffjceljiaaGreatDoor
open Go Go.Am Go.Proofs
noncomputable section
def ext80c60 : Ext := [(60, S60)]
theorem call80c60_60 : Callable Tryz.prog 60 := ⟨Tryz.f60, Tryz.func60, by kernel_rfl, by kernel_rfl⟩
theorem ext80c60Ok : ExtOk Tryz.prog ext80c60 := ⟨⟨call80c60_60, con60⟩, trivial⟩

noncomputable def b80c60 : Code := bodyOf Tryz.f80
theorem hb80c60 : Tryz.f80.body = some b80c60 := by kernel_rfl
def sig80c60 : List AT := [AT.v (Ty.sl (Ty.cons Ty.str (Ty.cons Ty.str (Ty.cons Ty.str Ty.unit)))), AT.v (Ty.cons Ty.str (Ty.cons Ty.str (Ty.cons Ty.str Ty.unit))), AT.fn 60 []]
def tys80c60 : List Ty := [Ty.int IntKind.i64, Ty.bool]
def kds80c60 : List RK := []
def oks80c60 : List AT := owns sig80c60
def E80c60_3 (v9 : Int) (v10 : Int) (x0 : List (ByteArray × ByteArray × ByteArray × Unit)) (x1 : ByteArray × ByteArray × ByteArray × Unit) : Env := [(0, PV.a (Atom.sl (Ty.cons Ty.str (Ty.cons Ty.str (Ty.cons Ty.str Ty.unit))) x0)), (2, PV.fn 60 []), (4, PV.a (Atom.optr 0 0 [])), (8, PV.a (Atom.val (Value.int IntKind.i64 (↑(List.length x0) : Int)))), (9, PV.a (Atom.val (Value.int IntKind.i64 v9))), (10, PV.a (Atom.val (Value.int IntKind.i64 v10)))]
def L80c60_3 (v9 : Int) (v10 : Int) (x0 : List (ByteArray × ByteArray × ByteArray × Unit)) (x1 : ByteArray × ByteArray × ByteArray × Unit) : Heap := [Option.some (Arr.mk (Ty.cons Ty.str (Ty.cons Ty.str (Ty.cons Ty.str Ty.unit))) [x1] Bool.true Option.none (Option.some Bool.false))]
mutual
def R80c60 : Nat → List (ByteArray × ByteArray × ByteArray × Unit) → ByteArray × ByteArray × ByteArray × Unit → List Dyn → Prop
  | 0, _, _, _ => False
  | n + 1, x0, x1, ds => (R80c60_3 n (0) ((↑(List.length x0) : Int)) (x0) (x1) ds)
def R80c60_3 : Nat → Int → Int → List (ByteArray × ByteArray × ByteArray × Unit) → ByteArray × ByteArray × ByteArray × Unit → List Dyn → Prop
  | 0, _, _, _, _, _ => False
  | n + 1, v9, v10, x0, x1, ds => (if (Decidable.decide (v9 < v10)) = true then ((InR IntKind.i64 (v9 + v10)) ∧ ((InR IntKind.u64 (v9 + v10)) ∧ ((InR IntKind.u64 (Int.fdiv (v9 + v10) 2)) ∧ ((InR IntKind.i64 (Int.fdiv (v9 + v10) 2)) ∧ ((0 ≤ Int.fdiv (v9 + v10) 2) ∧ (Int.fdiv (v9 + v10) 2 < (↑(List.length x0) : Int)) ∧ (if (Decidable.decide (g60_0 (List.getD x0 (Int.toNat (Int.fdiv (v9 + v10) 2)) (ByteArray.empty, ByteArray.empty, ByteArray.empty, ())) x1 < 0)) = true then ((InR IntKind.i64 (Int.fdiv (v9 + v10) 2 + 1)) ∧ (R80c60_3 n (Int.fdiv (v9 + v10) 2 + 1) (v10) (x0) (x1) ds)) else (R80c60_3 n (v9) (Int.fdiv (v9 + v10) 2) (x0) (x1) ds))))))) else (if (Decidable.decide (v9 < (↑(List.length x0) : Int))) = true then ((0 ≤ v9) ∧ (v9 < (↑(List.length x0) : Int)) ∧ (ds = [Dyn.mk (Ty.int IntKind.i64) v9, Dyn.mk Ty.bool (g60_0 (List.getD x0 (Int.toNat v9) (ByteArray.empty, ByteArray.empty, ByteArray.empty, ())) x1 == 0)])) else (ds = [Dyn.mk (Ty.int IntKind.i64) v9, Dyn.mk Ty.bool Bool.false])))
end
theorem snd80c60 : ∀ n, (∀ (x0 : List (ByteArray × ByteArray × ByteArray × Unit)) (x1 : ByteArray × ByteArray × ByteArray × Unit) ds, R80c60 n x0 x1 ds → ∀ K q, AtV Tryz.prog 80 (PostR kds80c60 oks80c60 ds [] [] q K) 49 K q [] [.code b80c60] (entE 0 0 sig80c60 (x0, x1, (), ())) (entL sig80c60 (x0, x1, (), ()))) ∧ (∀ (v9 : Int) (v10 : Int) (x0 : List (ByteArray × ByteArray × ByteArray × Unit)) (x1 : ByteArray × ByteArray × ByteArray × Unit) ds, R80c60_3 n v9 v10 x0 x1 ds → ∀ K q, AtV Tryz.prog 80 (PostR kds80c60 oks80c60 ds [] [] q K) 49 K q [] (cutAt b80c60 3) (E80c60_3 v9 v10 x0 x1) (L80c60_3 v9 v10 x0 x1)) := by
  intro n
  induction n with
  | zero => exact ⟨fun _ _ _ h => by simp only [R80c60] at h, fun _ _ _ _ _ h => by simp only [R80c60_3] at h⟩
  | succ n ih =>
  obtain ⟨ih, ih3⟩ := ih
  refine ⟨?_, ?_⟩
  · intro x0 x1 ds h K q
    rw [R80c60] at h
    exact AtV.go tabOk ext80c60Ok mixed false [] [] [0, 2, 4, 8, 9, 10] [0] [] trivial (ih3 _ _ _ _ _ h K q) (by kernel_rfl)

  · intro v9 v10 x0 x1 ds h K q
    rw [R80c60_3] at h
    by_cases b0 : (Decidable.decide (v9 < v10)) = true
    · rw [if_pos b0] at h
      obtain ⟨s0, h⟩ := h
      obtain ⟨s1, h⟩ := h
      obtain ⟨s2, h⟩ := h
      obtain ⟨s3, h⟩ := h
      obtain ⟨s4, s5, h⟩ := h
      by_cases b1 : (Decidable.decide (g60_0 (List.getD x0 (Int.toNat (Int.fdiv (v9 + v10) 2)) (ByteArray.empty, ByteArray.empty, ByteArray.empty, ())) x1 < 0)) = true
      · rw [if_pos b1] at h
        obtain ⟨s6, h⟩ := h
        exact AtV.go tabOk ext80c60Ok mixed false [] [] [0, 2, 4, 8, 9, 10] [0] [true, true] (a1 b0 (a1 s0 (a1 s1 (a1 ((by decide) : (0 : Int) ≤ (1 : Int)) (a1 s2 (a1 s3 (a1 s4 (a1 s5 (a1 trivial (a1 b1 (a1 s6 trivial))))))))))) (ih3 _ _ _ _ _ h K q) (by kernel_rfl)
      · rw [if_neg b1] at h
        replace b1 := Bool.eq_false_iff.2 b1
        exact AtV.go tabOk ext80c60Ok mixed false [] [] [0, 2, 4, 8, 9, 10] [0] [true, false] (a1 b0 (a1 s0 (a1 s1 (a1 ((by decide) : (0 : Int) ≤ (1 : Int)) (a1 s2 (a1 s3 (a1 s4 (a1 s5 (a1 trivial (a1 b1 trivial)))))))))) (ih3 _ _ _ _ _ h K q) (by kernel_rfl)
    · rw [if_neg b0] at h
      replace b0 := Bool.eq_false_iff.2 b0
      by_cases b1 : (Decidable.decide (v9 < (↑(List.length x0) : Int))) = true
      · rw [if_pos b1] at h
        obtain ⟨s0, s1, h⟩ := h
        subst h
        exact AtV.ret Tryz.func80 tabOk ext80c60Ok mixed false [] tys80c60 [false, true] (a1 b0 (a1 b1 (a1 s0 (a1 s1 (a1 trivial trivial))))) (by kernel_rfl)
      · rw [if_neg b1] at h
        replace b1 := Bool.eq_false_iff.2 b1
        subst h
        exact AtV.ret Tryz.func80 tabOk ext80c60Ok mixed false [] tys80c60 [false, false] (a1 b0 (a1 b1 trivial)) (by kernel_rfl)



def p80c60 (x0 : List (ByteArray × ByteArray × ByteArray × Unit)) (x1 : ByteArray × ByteArray × ByteArray × Unit) (h : Nat) : Bool := decide (g60_0 (x0.getD h (ByteArray.empty, ByteArray.empty, ByteArray.empty, ())) x1 < 0)
def k80c60 (x0 : List (ByteArray × ByteArray × ByteArray × Unit)) (x1 : ByteArray × ByteArray × ByteArray × Unit) : Nat := bsearch (p80c60 x0 x1) (x0.length + 1) 0 x0.length
def f80c60 (x0 : List (ByteArray × ByteArray × ByteArray × Unit)) (x1 : ByteArray × ByteArray × ByteArray × Unit) (k : Nat) : Bool := if k < x0.length then g60_0 (x0.getD k (ByteArray.empty, ByteArray.empty, ByteArray.empty, ())) x1 == 0 else false
def g80c60_0 (x0 : List (ByteArray × ByteArray × ByteArray × Unit)) (x1 : ByteArray × ByteArray × ByteArray × Unit) : Int := (k80c60 x0 x1 : Nat)
def g80c60_1 (x0 : List (ByteArray × ByteArray × ByteArray × Unit)) (x1 : ByteArray × ByteArray × ByteArray × Unit) : Bool := f80c60 x0 x1 (k80c60 x0 x1)
def P80c60 (x0 : List (ByteArray × ByteArray × ByteArray × Unit)) (x1 : ByteArray × ByteArray × ByteArray × Unit) : Prop := x0.length ≤ 4611686018427387903

theorem u64_iff (n : Int) : InR .u64 n ↔ 0 ≤ n ∧ n ≤ 18446744073709551615 := by
  have e1 : (IntKind.u64).min = 0 := by decide
  have e2 : (IntKind.u64).max = 18446744073709551615 := by decide
  simp only [InR, e1, e2]

theorem run80c60 (x0 : List (ByteArray × ByteArray × ByteArray × Unit)) (x1 : ByteArray × ByteArray × ByteArray × Unit) (hm : x0.length ≤ 4611686018427387903) : ∀ (k i j : Nat), j - i < k → i ≤ j → j ≤ x0.length →
    R80c60_3 k (i : Int) (j : Int) x0 x1 [⟨.int .i64, ((bsearch (p80c60 x0 x1) k i j : Nat) : Int)⟩, ⟨.bool, f80c60 x0 x1 (bsearch (p80c60 x0 x1) k i j)⟩] := by
  intro k
  induction k with
  | zero => intro i j h; omega
  | succ k ih =>
    intro i j h hij hj
    rw [R80c60_3]
    by_cases hlt : i < j
    · rw [if_pos (by simpa using hlt)]
      have e : Int.fdiv ((i : Int) + (j : Int)) 2 = (((i + j) / 2 : Nat) : Int) := by
        rw [Int.fdiv_eq_ediv_of_nonneg _ (by omega)]
        omega
      rw [e]
      simp only [Int.toNat_natCast, i64_iff, u64_iff]
      refine ⟨by omega, by omega, by omega, by omega, by omega, by omega, ?_⟩
      simp only [bsearch, if_pos hlt]
      by_cases hp : p80c60 x0 x1 ((i + j) / 2) = true
      · rw [if_pos hp, if_pos (by exact hp)]
        refine ⟨by omega, ?_⟩
        exact ih ((i + j) / 2 + 1) j (by omega) (by omega) hj
      · rw [if_neg hp, if_neg (by exact hp)]
        exact ih i ((i + j) / 2) (by omega) (by omega) (by omega)
    · rw [if_neg (by simpa using hlt)]
      simp only [bsearch, if_neg hlt, f80c60]
      by_cases hl : i < x0.length
      · rw [if_pos (by simpa using hl)]
        refine ⟨by omega, by omega, ?_⟩
        simp [hl]
      · rw [if_neg (by simpa using hl)]
        simp [hl]

def S80c60 : Am.Spec := { sig := sig80c60, pre := fun ⟨x0, x1, _⟩ => P80c60 x0 x1, res := fun ⟨x0, x1, _⟩ => [⟨Ty.int .i64, g80c60_0 x0 x1⟩, ⟨Ty.bool, g80c60_1 x0 x1⟩] }
theorem con80c60 : Contract Tryz.prog 80 S80c60 := contract_of Tryz.func80 hb80c60 (Nat.le_of_ble_eq_true (by kernel_rfl)) (fun ⟨x0, x1, _⟩ h hwf K q =>
  (snd80c60 (x0.length + 1 + 1)).1 x0 x1 _ (by rw [R80c60]; exact run80c60 x0 x1 h (x0.length + 1) 0 x0.length (by omega) (by omega) (Nat.le_refl _)) K q)

end
end Go.Proofs.YtalgkffjceljiaaGreatDoor

/- Function 62 (impl.blockAt): its runs between cut points. Written by a program of this repo (gen). -/
set_option linter.unusedVariables false
set_option linter.unusedSimpArgs false
set_option maxRecDepth 100000
namespace Go.Proofs.YtalgkffjceljiaaGreatDoor
open Go Go.Am Go.Proofs
noncomputable section
def ext62 : Ext := [(80, S80c60)]
theorem call62_80 : Callable Tryz.prog 80 := ⟨Tryz.f80, Tryz.func80, by kernel_rfl, by kernel_rfl⟩
theorem ext62Ok : ExtOk Tryz.prog ext62 := ⟨⟨call62_80, con80c60⟩, trivial⟩

noncomputable def b62 : Code := bodyOf Tryz.f62
theorem hb62 : Tryz.f62.body = some b62 := by kernel_rfl
def sig62 : List AT := [AT.v (Ty.sl (Ty.cons Ty.str (Ty.cons Ty.str (Ty.cons Ty.str Ty.unit)))), AT.v (Ty.cons Ty.str (Ty.cons Ty.str (Ty.cons Ty.str Ty.unit)))]
def tys62 : List Ty := [Ty.int IntKind.i64, Ty.bool]
def kds62 : List RK := []
def oks62 : List AT := owns sig62
def P62 (x0 : List (ByteArray × ByteArray × ByteArray × Unit)) (x1 : ByteArray × ByteArray × ByteArray × Unit) : Prop := ((P80c60 x0 x1) ∧ True)
def g62_0 (x0 : List (ByteArray × ByteArray × ByteArray × Unit)) (x1 : ByteArray × ByteArray × ByteArray × Unit) : Int := g80c60_0 x0 x1
def g62_1 (x0 : List (ByteArray × ByteArray × ByteArray × Unit)) (x1 : ByteArray × ByteArray × ByteArray × Unit) : Bool := g80c60_1 x0 x1
theorem at62 (x0 : List (ByteArray × ByteArray × ByteArray × Unit)) (x1 : ByteArray × ByteArray × ByteArray × Unit) (h : P62 x0 x1) (K : Ctx) (q : Nat → Value) : AtV Tryz.prog 62 (PostR kds62 oks62 [⟨Ty.int IntKind.i64, g62_0 x0 x1⟩, ⟨Ty.bool, g62_1 x0 x1⟩] [] [] q K) 11 K q [] [.code b62] (entE 0 0 sig62 (x0, x1, ())) (entL sig62 (x0, x1, ())) := by
  unfold P62 at h
  unfold g62_0 g62_1
  obtain ⟨s0, h⟩ := h
  exact AtV.ret Tryz.func62 tabOk ext62Ok mixed false [] tys62 [] (a1 s0 trivial) (by kernel_rfl)

def S62 : Am.Spec := { sig := sig62, pre := fun ⟨x0, x1, _⟩ => P62 x0 x1, res := fun ⟨x0, x1, _⟩ => [⟨Ty.int IntKind.i64, g62_0 x0 x1⟩, ⟨Ty.bool, g62_1 x0 x1⟩], kds := kds62 }
theorem con62 : Contract Tryz.prog 62 S62 := contract_of Tryz.func62 hb62 (Nat.le_of_ble_eq_true (by kernel_rfl)) (fun ⟨x0, x1, _⟩ h _ K q => at62 x0 x1 h K q)


end
end Go.Proofs.YtalgkffjceljiaaGreatDoor

/- Function 63 (slices.Insert[[]impl.Block,impl.Block]): its contract, off what is known of the library. -/
set_option linter.unusedVariables false
set_option linter.unusedSimpArgs false
set_option maxRecDepth 100000
namespace Go.Proofs.YtalgkffjceljiaaGreatDoor
open Go Go.Am Go.Proofs

open Go.RowKit in
theorem wpcp63 {P : Program} (w : World) {o : Oper} {a : Act} {K : Act → World → Prop} {Q : Exit → Act → World → Prop} (d s : Operand) (t t' : TypeId)
    (ho : o.op = .call { callee := .builtin .copy, args := #[d, s], argTypes := #[t, t'] }) (v u : Value) (hd : a.eval d = v) (hs : a.eval s = u) {v' : Value} {w' : World}
    (hr : (Builtin.copy_ #[t, t'] o.type #[v, u]).run P w = .ok v' w') (h : K (a.put o.dst v') w') : o.wp P a w K Q := by
  unfold Oper.wp execOp
  simp only [ho, resolve, invoke, builtin, Sem.run_bind, Sem.run_pure, Result.andThen_ok, List.map_toArray, List.map_cons, List.map_nil, hd, hs, hr]
  exact h

theorem lcp63 {P : Program} (w : World) {ops : Array Oper} {rest : List Oper} {o : Oper} {a : Act} {Q : Exit → Act → World → Prop} (hgd : o.guard = none) (d s : Operand) (t t' : TypeId)
    (ho : o.op = .call { callee := .builtin .copy, args := #[d, s], argTypes := #[t, t'] }) (v u : Value) (hd : a.eval d = v) (hs : a.eval s = u) {v' : Value} {w' : World}
    (hr : (Builtin.copy_ #[t, t'] o.type #[v, u]).run P w = .ok v' w') (h : wpList P ops Q rest (a.put o.dst v') w') : wpList P ops Q (o :: rest) a w :=
  wpList_plain hgd fun _ hK => wpcp63 w d s t t' ho v u hd hs hr (hK _ _ h)

theorem scp63 {P : Program} {ops : Array Oper} {o : Oper} {a : Act} {w : World} {K : Act → World → Prop} {Q : Exit → Act → World → Prop} {E : Prop}
    (hg : o.guard = none) (d x : Operand) (dT sT : TypeId) (hop : o.op = Op.call { callee := Callee.builtin Builtin.copy, args := #[d, x], argTypes := #[dT, sT] })
    (v u : Value) (hd : a.eval d = v) (hx : a.eval x = u) {v' : Value} {w' : World} (hr : (Builtin.copy_ #[dT, sT] o.type #[v, u]).run P w = .ok v' w') (hK : K (a.put o.dst v') w') :
    if Region.wanted o (yielded ops a.tmps) = true then Oper.wp P o a w K Q else E := by
  have hw : Region.wanted o (yielded ops a.tmps) = true := by simp [Region.wanted, hg]
  rw [if_pos hw]
  unfold Oper.wp
  simp [execOp, hop, resolve, invoke, builtin, hd, hx, hr, Result.andThen]
  exact hK

theorem frozen_end63 {w : World} {ys : List (ByteArray × ByteArray × ByteArray × Unit)} {b off cap : Nat} {cur : Array Value} {ty : TypeId} {fz : Nat × Nat} (h : OwnAt w (Ty.cons Ty.str (Ty.cons Ty.str (Ty.cons Ty.str Ty.unit))) ys b off cap cur ty fz) : w.frozen? ⟨b, cur.size, none⟩ = false := by
  have h2 := (h.free.2.resolve_left (by decide)) cur.size (by omega)
  simp only [World.frozen?, h.blk]
  rw [Bool.eq_false_iff]
  intro hh
  simp only [Bool.and_eq_true, decide_eq_true_eq] at hh
  exact h2 hh

theorem info63 : ∃ (i0 : TypeInfo) (z : Value), Tryz.prog.info? 43 = some i0 ∧ i0.size = 3 ∧ i0.zero = some z ∧ z.cells = (dcells (Ty.cons Ty.str (Ty.cons Ty.str (Ty.cons Ty.str Ty.unit)))).toArray ∧ (Tryz.prog.info? 43).map (·.size) = some 3 ∧ ∃ by', i0.bytes = by' ∧ by' ≤ 256 ∧ i0.bytes * 1048577 ≤ 140737488355328 := by
  have hinfo : TIOk Tryz.prog 24 (tabGet tab 24) := tabOk 24
  obtain ⟨_, _, ⟨_, ⟨i0, hi0, hz1, z, hz0, hzs, hzv⟩⟩, hby⟩ := hinfo
  rw [hi0] at hby
  simp only [Option.map_some, Option.some.injEq] at hby
  refine ⟨i0, z, hi0, hz1, hz0, Array.toList_inj.1 (by rw [hzs]), by rw [hi0]; exact congrArg some hz1, _, rfl, ?_, ?_⟩
  · rw [hby]; decide
  · rw [hby]; decide

open Go.RowKit in
set_option maxHeartbeats 8000000 in
theorem end63 (w : World) (xs ys : List (ByteArray × ByteArray × ByteArray × Unit)) (b off cap : Nat) (cur : Array Value) (ty : TypeId) (fz : Nat × Nat) (vb voff vcap : Nat) (vcur : Array Value) (vty : TypeId) (vfz : Nat × Nat) (hA : OwnAt w (Ty.cons Ty.str (Ty.cons Ty.str (Ty.cons Ty.str Ty.unit))) xs b off cap cur ty fz) (hB : OwnAt w (Ty.cons Ty.str (Ty.cons Ty.str (Ty.cons Ty.str Ty.unit))) ys vb voff vcap vcur vty vfz) (h1 : ys.length = 1) (hvb : vb ≠ b) (hroom : xs.length + 1 ≤ cap) :
      Calls Tryz.prog 63 #[.slice (some ⟨b, off, none⟩) xs.length cap, .int .i64 xs.length, .slice (some ⟨vb, voff, none⟩) 1 vcap] w fun r w' => r = .returned (.slice (some ⟨b, off, none⟩) (xs.length + 1) cap) ∧
        ∃ q, w' = (w.drewN q).setCells b (off + xs.length * Ty.size (Ty.cons Ty.str (Ty.cons Ty.str (Ty.cons Ty.str Ty.unit)))) (fcs (Ty.cons Ty.str (Ty.cons Ty.str (Ty.cons Ty.str Ty.unit))) ys) := by
  have mixed := mixed
  obtain ⟨i0, z, hi0, hz1, hz0, hzc, hzm, _⟩ := info63
  have hlen := hA.len
  have hcapm := hA.capm
  have hvl : (fcs (Ty.cons Ty.str (Ty.cons Ty.str (Ty.cons Ty.str Ty.unit))) ys).length = 1 * 3 := by
    have := fcs_length (t := (Ty.cons Ty.str (Ty.cons Ty.str (Ty.cons Ty.str Ty.unit)))) rfl (xs := ys) hB.wf
    rw [this, h1]; rfl
  obtain ⟨vs, hvs⟩ : ∃ vs, vs = fcs (Ty.cons Ty.str (Ty.cons Ty.str (Ty.cons Ty.str Ty.unit))) ys := ⟨_, rfl⟩
  have hvc : ∀ (j : Nat) (u : Value), vs[j]? = some u → w.cell? ⟨vb, voff + j, none⟩ = some u := fun j u hj => hB.cell j u (by rw [← hvs]; exact hj)
  rw [← hvs] at hvl ⊢
  have hle : (xs.length + 1) * 3 ≤ cap * 3 := Nat.mul_le_mul_right _ hroom
  have s2 : ∀ u ∈ vs, u.oneCell' = true := by rw [hvs]; exact fcells_ones rfl _
  have hsrc : Src Tryz.prog i0.size 24 (.slice (some ⟨vb, voff, none⟩) 1 vcap) 1 vs w := by
    rw [hz1]
    exact Src.ofSlice w Tryz.underlying24 ⟨vb, voff, none⟩ 1 vcap vs hvl (fun j u hj => by rw [Addr.add_lit]; exact hvc j u hj) s2
  have A0 : ∀ k, k < cap * 3 → (w.cell? ⟨b, off + k, none⟩).isSome = true ∧ w.frozen? ⟨b, off + k, none⟩ = false := fun k hk => ⟨hA.some' k hk, hA.unfrozen k hk⟩
  have r1 : ∀ j, j < vs.length → (w.cell? ⟨b, off + xs.length * i0.size + j, none⟩).isSome = true := fun j hj => by rw [hz1, Nat.add_assoc]; exact (A0 _ (by omega)).1
  have r2 : ∀ j, j < vs.length → w.frozen? ⟨b, off + xs.length * i0.size + j, none⟩ = false := fun j hj => by rw [hz1, Nat.add_assoc]; exact (A0 _ (by omega)).2
  have R1 : Aside (∀ j, j < vs.length → (w.cell? ⟨b, off + xs.length * i0.size + j, none⟩).isSome = true) := r1
  have R2 : Aside (∀ j, j < vs.length → w.frozen? ⟨b, off + xs.length * i0.size + j, none⟩ = false) := r2
  have N : Aside (i0.size = 3) := hz1
  clear r1 r2 A0 s2 hvc hvs hzc hz0 hzm hA hB
  go_enter Tryz.func63, Tryz.ntmps63
  go_wp2_with (at_builtin; refine wpList_append_room_src _ rfl _ _ 24 24 rfl 43 i0 Tryz.underlying24 hi0 b off xs.length cap rfl _ rfl 1 vs hsrc hroom R1.out R2.out ?_)
  go_ret
  exact ⟨rfl, 0, rfl⟩

open Go.RowKit in
set_option maxHeartbeats 8000000 in
theorem last63 (w : World) (xs ys : List (ByteArray × ByteArray × ByteArray × Unit)) (ad : Option Addr) (cap : Nat) (vb voff vcap : Nat) (vcur : Array Value) (vty : TypeId) (vfz : Nat × Nat) (hw : ∀ x ∈ xs, Wf (Ty.cons Ty.str (Ty.cons Ty.str (Ty.cons Ty.str Ty.unit))) x) (hlen : xs.length ≤ cap) (hnil : ad = none → xs = []) (hcs : ∀ a, ad = some a → ∀ (j : Nat) (u : Value), (fcs (Ty.cons Ty.str (Ty.cons Ty.str (Ty.cons Ty.str Ty.unit))) xs)[j]? = some u → w.cell? (a.add j) = some u) (hB : OwnAt w (Ty.cons Ty.str (Ty.cons Ty.str (Ty.cons Ty.str Ty.unit))) ys vb voff vcap vcur vty vfz) (h1 : ys.length = 1) (hroom : cap < xs.length + 1) (hmax : xs.length ≤ 1048576) :
      Calls Tryz.prog 63 #[.slice ad xs.length cap, .int .i64 xs.length, .slice (some ⟨vb, voff, none⟩) 1 vcap] w fun r w' => ∃ v', r = .returned v' ∧ w'.ownsRow w.heap.size 43 (Ty.size (Ty.cons Ty.str (Ty.cons Ty.str (Ty.cons Ty.str Ty.unit)))) v' (xs.length + 1) (fcs (Ty.cons Ty.str (Ty.cons Ty.str (Ty.cons Ty.str Ty.unit))) (xs ++ ys)) ∧ Below w.heap.size w w' := by
  have mixed := mixed
  obtain ⟨i0, z, hi0, hz1, hz0, hzc, hzm, by', hb1, hb2, hb3⟩ := info63
  have hvl : (fcs (Ty.cons Ty.str (Ty.cons Ty.str (Ty.cons Ty.str Ty.unit))) ys).length = 1 * 3 := by
    have := fcs_length (t := (Ty.cons Ty.str (Ty.cons Ty.str (Ty.cons Ty.str Ty.unit)))) rfl (xs := ys) hB.wf
    rw [this, h1]; rfl
  have hcl : (fcs (Ty.cons Ty.str (Ty.cons Ty.str (Ty.cons Ty.str Ty.unit))) xs).length = xs.length * 3 := fcs_length (t := (Ty.cons Ty.str (Ty.cons Ty.str (Ty.cons Ty.str Ty.unit)))) rfl hw
  obtain ⟨vs, hvs⟩ : ∃ vs, vs = fcs (Ty.cons Ty.str (Ty.cons Ty.str (Ty.cons Ty.str Ty.unit))) ys := ⟨_, rfl⟩
  obtain ⟨cs, hcss⟩ : ∃ cs, cs = fcs (Ty.cons Ty.str (Ty.cons Ty.str (Ty.cons Ty.str Ty.unit))) xs := ⟨_, rfl⟩
  have hvc : ∀ (j : Nat) (u : Value), vs[j]? = some u → w.cell? ⟨vb, voff + j, none⟩ = some u := fun j u hj => hB.cell j u (by rw [← hvs]; exact hj)
  rw [fcs_append, ← hvs, ← hcss]
  rw [← hvs] at hvl
  rw [← hcss] at hcl hcs
  have s2 : ∀ u ∈ vs, u.oneCell' = true := by rw [hvs]; exact fcells_ones rfl _
  have hsrc : Src Tryz.prog i0.size 24 (.slice (some ⟨vb, voff, none⟩) 1 vcap) 1 vs w := by
    rw [hz1]
    exact Src.ofSlice w Tryz.underlying24 ⟨vb, voff, none⟩ 1 vcap vs hvl (fun j u hj => by rw [Addr.add_lit]; exact hvc j u hj) s2
  have hold : (Builtin.firstCells i0.size xs.length (.slice ad xs.length cap)).run Tryz.prog w.drew = .ok cs.toArray w.drew := by
    rw [hz1]
    cases ad with
    | none =>
      have h0 := hnil rfl
      subst h0
      rw [List.length_eq_zero_iff.1 (show cs.length = 0 by rw [hcl]; simp)]
      exact run_firstCells_none w.drew 3 0 0 cap
    | some a => exact run_firstCells_some w.drew 3 xs.length a xs.length cap cs hcl (fun j v hj => hcs a rfl j v hj)
  have hbig : (xs.length + 1) * i0.bytes ≤ 140737488355328 := by
    have : (xs.length + 1) * i0.bytes ≤ 1048577 * i0.bytes := Nat.mul_le_mul_right _ (by omega)
    rw [Nat.mul_comm 1048577] at this
    omega
  have hrun : ∀ ty, (Builtin.append_ #[24, 24] ty #[.slice ad xs.length cap, .slice (some ⟨vb, voff, none⟩) 1 vcap]).run Tryz.prog w = _ := fun ty =>
    run_append_grow_src w 24 24 ty 43 i0 z Tryz.underlying24 hi0 hz0 ad xs.length cap cs hold _ 1 vs hsrc hroom (by omega) (growslice_fits hroom hbig)
  have hge := grownCap_ge w (xs.length + 1) cap 43
  have hgm := grownCap_le_maxLen w (xs.length + 1) cap 43 (by unfold maxLen; omega)
  have fin : ∀ G, xs.length + 1 ≤ G → G ≤ maxLen → (w.drew.alloc (.cells ((cs ++ vs).toArray ++ Builtin.zeroCells z.cells (G - (xs.length + 1))) 43)).ownsRow w.heap.size 43 (Ty.size (Ty.cons Ty.str (Ty.cons Ty.str (Ty.cons Ty.str Ty.unit)))) (.slice (some ⟨w.heap.size, 0, none⟩) (xs.length + 1) G) (xs.length + 1) (cs ++ vs) ∧ Below w.heap.size w (w.drew.alloc (.cells ((cs ++ vs).toArray ++ Builtin.zeroCells z.cells (G - (xs.length + 1))) 43)) := fun G g1 g2 => by
    have el : (cs ++ vs).length = (xs.length + 1) * 3 := by rw [List.length_append, hcl, hvl, Nat.add_mul]
    refine ⟨⟨el, .inr ⟨w.heap.size, G, _, rfl, Nat.le_refl _, heap_alloc_new w.drew _, g1, g2, ?_, ?_⟩⟩, ((Below.refl w.heap.size w).drew).alloc (Nat.le_refl _) _⟩
    · have hz : (Builtin.zeroCells z.cells (G - (xs.length + 1))).size = (G - (xs.length + 1)) * 3 := by
        rw [← Array.length_toList, hzc, zeroCells_k]; simp [dcells]
      rw [Array.size_append, List.size_toArray, el, hz]
      show _ = G * 3
      rw [← Nat.add_mul]; congr 1; omega
    · rw [Array.toList_append]
      have : ((cs ++ vs).toArray.toList ++ (Builtin.zeroCells z.cells (G - (xs.length + 1))).toList).take ((cs ++ vs).length) = cs ++ vs := List.take_left
      rw [el] at this
      exact this
  obtain ⟨G, hG⟩ : ∃ G, G = grownCap w (xs.length + 1) cap 43 := ⟨_, rfl⟩
  rw [← hG] at hrun hge hgm
  have fin := fin G hge hgm
  have F : Aside (_ ∧ _) := fin
  obtain ⟨ROW, hROW⟩ : ∃ ROW, ROW = (cs ++ vs).toArray ++ Builtin.zeroCells z.cells (G - (xs.length + 1)) := ⟨_, rfl⟩
  rw [← hROW] at hrun F
  clear fin hold hROW hG hcs hsrc hvc hvs hcss s2 hz0 hzc hzm hB
  go_enter Tryz.func63, Tryz.ntmps63
  cases ad with
  | none =>
    have h0 := hnil rfl
    subst h0
    go_wp2_with (at_builtin; refine Lib.wpList_append_run _ rfl _ _ _ _ rfl _ _ rfl rfl _ _ (hrun _) ?_)
    go_ret
    exact ⟨_, rfl, F.out.1, F.out.2⟩
  | some a =>
    obtain ⟨ab, ao, asp⟩ := a
    go_wp2_with (at_builtin; refine Lib.wpList_append_run _ rfl _ _ _ _ rfl _ _ rfl rfl _ _ (hrun _) ?_)
    all_goals (go_ret; exact ⟨_, rfl, F.out.1, F.out.2⟩)

open Go.RowKit in
set_option maxHeartbeats 8000000 in
theorem shift63 (w : World) (xs ys : List (ByteArray × ByteArray × ByteArray × Unit)) (b off cap : Nat) (cur : Array Value) (ty : TypeId) (fz : Nat × Nat) (vb voff vcap : Nat) (vcur : Array Value) (vty : TypeId) (vfz : Nat × Nat) (i : Nat) (hA : OwnAt w (Ty.cons Ty.str (Ty.cons Ty.str (Ty.cons Ty.str Ty.unit))) xs b off cap cur ty fz) (hB : OwnAt w (Ty.cons Ty.str (Ty.cons Ty.str (Ty.cons Ty.str Ty.unit))) ys vb voff vcap vcur vty vfz) (h1 : ys.length = 1) (hvb : vb ≠ b) (hi : i < xs.length) (hroom : xs.length + 1 ≤ cap) :
      Calls Tryz.prog 63 #[.slice (some ⟨b, off, none⟩) xs.length cap, .int .i64 i, .slice (some ⟨vb, voff, none⟩) 1 vcap] w fun r w' => r = .returned (.slice (some ⟨b, off, none⟩) (xs.length + 1) cap) ∧
        ∃ q, w' = ((w.drewN q).setCells b (off + (i + 1) * Ty.size (Ty.cons Ty.str (Ty.cons Ty.str (Ty.cons Ty.str Ty.unit)))) (fcs (Ty.cons Ty.str (Ty.cons Ty.str (Ty.cons Ty.str Ty.unit))) (xs.drop i))).setCells b (off + i * Ty.size (Ty.cons Ty.str (Ty.cons Ty.str (Ty.cons Ty.str Ty.unit)))) (fcs (Ty.cons Ty.str (Ty.cons Ty.str (Ty.cons Ty.str Ty.unit))) ys) := by
  have mixed := mixed
  obtain ⟨i0, z, hi0, hz1, hz0, hzc, hzm, _⟩ := info63
  have hlen := hA.len
  have hcapm := hA.capm
  have hvl : (fcs (Ty.cons Ty.str (Ty.cons Ty.str (Ty.cons Ty.str Ty.unit))) ys).length = 1 * 3 := by
    have := fcs_length (t := (Ty.cons Ty.str (Ty.cons Ty.str (Ty.cons Ty.str Ty.unit)))) rfl (xs := ys) hB.wf
    rw [this, h1]; rfl
  have hdl : (fcs (Ty.cons Ty.str (Ty.cons Ty.str (Ty.cons Ty.str Ty.unit))) (xs.drop i)).length = (xs.length - i) * 3 := by
    have := fcs_length (t := (Ty.cons Ty.str (Ty.cons Ty.str (Ty.cons Ty.str Ty.unit)))) rfl (xs := xs.drop i) (fun x hx => hA.wf x (List.mem_of_mem_drop hx))
    rw [this, List.length_drop]; rfl
  have hdc : ∀ (k : Nat) (u : Value), (fcs (Ty.cons Ty.str (Ty.cons Ty.str (Ty.cons Ty.str Ty.unit))) (xs.drop i))[k]? = some u → w.cell? ⟨b, off + i * 3 + k, none⟩ = some u := fun k u hk => by
    have := hA.cell _ _ (fcs_drop rfl hA.wf i (by omega) k u hk)
    rwa [Nat.add_assoc]
  obtain ⟨vs, hvs⟩ : ∃ vs, vs = fcs (Ty.cons Ty.str (Ty.cons Ty.str (Ty.cons Ty.str Ty.unit))) ys := ⟨_, rfl⟩
  obtain ⟨ds, hds⟩ : ∃ ds, ds = fcs (Ty.cons Ty.str (Ty.cons Ty.str (Ty.cons Ty.str Ty.unit))) (xs.drop i) := ⟨_, rfl⟩
  have hvc : ∀ (j : Nat) (u : Value), vs[j]? = some u → w.cell? ⟨vb, voff + j, none⟩ = some u := fun j u hj => hB.cell j u (by rw [← hvs]; exact hj)
  have s1 : ∀ u ∈ ds, u.oneCell' = true := by rw [hds]; exact fcells_ones rfl _
  have s2 : ∀ u ∈ vs, u.oneCell' = true := by rw [hvs]; exact fcells_ones rfl _
  rw [← hvs] at hvl ⊢
  rw [← hds] at hdl hdc ⊢
  have hle : (xs.length + 1) * 3 ≤ cap * 3 := Nat.mul_le_mul_right _ hroom
  have A0 : ∀ k, k < cap * 3 → (w.cell? ⟨b, off + k, none⟩).isSome = true ∧ w.frozen? ⟨b, off + k, none⟩ = false := fun k hk => ⟨hA.some' k hk, hA.unfrozen k hk⟩
  have hsb : w.shape? b = some (ty, cur.size) := by simp only [World.shape?, hA.blk]
  have hsa : w.shape? vb = some (vty, vcur.size) := by simp only [World.shape?, hB.blk]
  have hkB : cur.size ≠ 0 := by have := hA.fit; simp only [show Ty.size (Ty.cons Ty.str (Ty.cons Ty.str (Ty.cons Ty.str Ty.unit))) = 3 from rfl] at this; omega
  have hfa : w.frozen? ⟨vb, voff, none⟩ = false := by have := hB.unfrozen 0 (by have := hB.len; simp only [show Ty.size (Ty.cons Ty.str (Ty.cons Ty.str (Ty.cons Ty.str Ty.unit))) = 3 from rfl]; omega); exact this
  have hfe : w.frozen? ⟨vb, vcur.size, none⟩ = false := frozen_end63 hB
  have hov : ∀ lb cb, (callFunc 81 #[.slice (some ⟨vb, voff, none⟩) 1 vcap, .slice (some ⟨b, off + (i + 1) * 3, none⟩) lb cb]).run Tryz.prog w = .ok (.value (.bool false)) w := fun lb cb => by
    rw [run_callFunc_extern Tryz.func81 (by kernel_rfl) (by kernel_rfl) (by kernel_rfl) (e := Extern.SlicesOverlaps.overlaps #[24, 24] #[4]) (by kernel_rfl),
      Lib.run_overlaps_apart w 24 4 43 Tryz.underlying24 3 (fun w => by simp [Go.sizeOf, typeInfo, hi0, hz1]) ⟨vb, voff, none⟩ ⟨b, off + (i + 1) * 3, none⟩ 1 vcap lb cb hvb vty ty vcur.size cur.size hsa hsb hkB hfa hfe]
    rfl
  have e1 : (i + 1) * 3 + (xs.length - i) * 3 = xs.length * 3 + 3 := by rw [← Nat.add_mul, ← Nat.succ_mul]; congr 1; omega
  have e2 : (i + 1) * 3 = i * 3 + 3 := Nat.succ_mul _ _
  have hcp1 : ∀ ty dc sc, (Builtin.copy_ #[24, 24] ty #[.slice (some ⟨b, off + (i + 1) * 3, none⟩) (xs.length - i) dc, .slice (some ⟨b, off + i * 3, none⟩) (xs.length + 1 - i) sc]).run Tryz.prog w.drew = .ok (goInt (Nat.min (xs.length + 1 - i) (xs.length - i))) (w.drew.setCells b (off + (i + 1) * 3) ds) := fun ty dc sc =>
    run_copy_k w.drew _ _ ty 43 3 b (off + (i + 1) * 3) (xs.length - i) dc ⟨b, off + i * 3, none⟩ (xs.length + 1 - i) sc ds Tryz.underlying24 hzm (by rw [hdl]; congr 1; simp only [Nat.min_def]; split <;> omega)
      (fun j v hj => by rw [Addr.add_lit]; exact hdc j v hj)
      (fun j hj => by rw [Nat.add_assoc]; exact (A0 _ (by omega)).1) (fun j hj => by rw [Nat.add_assoc]; exact (A0 _ (by omega)).2) s1
  obtain ⟨W1, hW1⟩ : ∃ W1, W1 = w.drew.setCells b (off + (i + 1) * 3) ds := ⟨_, rfl⟩
  have hcp2 : ∀ (W : World), (∀ x, W.cell? x = W1.cell? x) → (∀ x, W.frozen? x = W1.frozen? x) → ∀ ty dc, (Builtin.copy_ #[24, 24] ty #[.slice (some ⟨b, off + i * 3, none⟩) (xs.length + 1 - i) dc, .slice (some ⟨vb, voff, none⟩) 1 vcap]).run Tryz.prog W = .ok (goInt (Nat.min 1 (xs.length + 1 - i))) (W.setCells b (off + i * 3) vs) := fun W hWc hWf ty dc =>
    run_copy_k W _ _ ty 43 3 b (off + i * 3) (xs.length + 1 - i) dc ⟨vb, voff, none⟩ 1 vcap vs Tryz.underlying24 hzm (by rw [hvl]; congr 1; simp only [Nat.min_def]; split <;> omega)
      (fun j v hj => by
        rw [Addr.add_lit, hWc, hW1, World.cell?_setCells_out b _ _ _ _ (fun h _ => absurd h hvb)]
        exact hvc j v hj)
      (fun j hj => by rw [hWc, hW1]; exact isSome_put _ _ _ _ _ (by rw [Nat.add_assoc]; exact (A0 _ (by omega)).1)) (fun j hj => by rw [hWf, hW1, World.frozen?_setCells, Nat.add_assoc]; exact (A0 _ (by omega)).2) s2
  have N : Aside (W1 = w.drew.setCells b (off + (i + 1) * 3) ds) := hW1
  rw [← hW1] at hcp1
  have hz2 : ¬ ((i : Int) = (xs.length : Int)) := by omega
  have hw1 : IntKind.i64.wrap ((i : Int) + 1) = (i : Int) + 1 := by unfold maxLen at hcapm; rw [IntKind.wrap_i64]; omega
  have hw2 : IntKind.i64.wrap ((xs.length : Int) + 1) = (xs.length : Int) + 1 := by unfold maxLen at hcapm; rw [IntKind.wrap_i64]; omega
  have hb1 : (0 : Int) ≤ (i : Int) + 1 := by omega
  have hin : i ≤ xs.length := by omega
  have htn : ((i : Int) + 1).toNat = i + 1 := by omega
  have htn2 : ((xs.length : Int) + 1).toNat = xs.length + 1 := by omega
  have hb2 : ¬ (cap = i + 1) := by omega
  have hb3 : (i : Int) ≤ (xs.length : Int) + 1 := by omega
  have hb4 : ¬ (cap = i) := by omega
  have hb5 : ¬ ((cap : Int) < (xs.length : Int) + 1) := by omega
  clear hW1 s1 s2 hvc hvs hds hdc hdl hvl A0 hsb hsa hkB hfa hfe hzc hz0 hA hB e1 e2
  go_enter Tryz.func63, Tryz.ntmps63
  go_wp2_with (simp only [hov])
  go_region_law_o (refine scp63 rfl _ _ 24 24 rfl _ _ (by simp [Act.eval, Act.put]) (by simp [Act.eval, Act.put]) (hcp1 _ _ _) ?_)
  go_wp2_with (at_builtin; refine lcp63 _ rfl _ _ 24 24 rfl _ _ rfl rfl (hcp2 _ (fun _ => rfl) (fun _ => rfl) _ _) ?_)
  go_ret
  exact ⟨rfl, 1, by rw [N.out]; rfl⟩

open Go.RowKit in
set_option maxHeartbeats 8000000 in
theorem grow63 (w : World) (xs ys : List (ByteArray × ByteArray × ByteArray × Unit)) (b off cap : Nat) (cur : Array Value) (ty : TypeId) (fz : Nat × Nat) (vb voff vcap : Nat) (vcur : Array Value) (vty : TypeId) (vfz : Nat × Nat) (i : Nat) (hA : OwnAt w (Ty.cons Ty.str (Ty.cons Ty.str (Ty.cons Ty.str Ty.unit))) xs b off cap cur ty fz) (hB : OwnAt w (Ty.cons Ty.str (Ty.cons Ty.str (Ty.cons Ty.str Ty.unit))) ys vb voff vcap vcur vty vfz) (h1 : ys.length = 1) (hvb : vb ≠ b) (hi : i < xs.length) (hroom : cap < xs.length + 1) (hmax : xs.length ≤ 1048576) :
      Calls Tryz.prog 63 #[.slice (some ⟨b, off, none⟩) xs.length cap, .int .i64 i, .slice (some ⟨vb, voff, none⟩) 1 vcap] w fun r w' => ∃ v', r = .returned v' ∧ w'.ownsRow w.heap.size 43 (Ty.size (Ty.cons Ty.str (Ty.cons Ty.str (Ty.cons Ty.str Ty.unit)))) v' (xs.length + 1) (fcs (Ty.cons Ty.str (Ty.cons Ty.str (Ty.cons Ty.str Ty.unit))) (xs.take i ++ (ys ++ xs.drop i))) ∧ Below w.heap.size w w' := by
  have mixed := mixed
  obtain ⟨i0, z, hi0, hz1, hz0, hzc, hzm, by', hb1, hb2, hb3⟩ := info63
  have hlen := hA.len
  have hcapm := hA.capm
  have hvl : (fcs (Ty.cons Ty.str (Ty.cons Ty.str (Ty.cons Ty.str Ty.unit))) ys).length = 1 * 3 := by
    have := fcs_length (t := (Ty.cons Ty.str (Ty.cons Ty.str (Ty.cons Ty.str Ty.unit)))) rfl (xs := ys) hB.wf
    rw [this, h1]; rfl
  have hdl : (fcs (Ty.cons Ty.str (Ty.cons Ty.str (Ty.cons Ty.str Ty.unit))) (xs.drop i)).length = (xs.length - i) * 3 := by
    have := fcs_length (t := (Ty.cons Ty.str (Ty.cons Ty.str (Ty.cons Ty.str Ty.unit)))) rfl (xs := xs.drop i) (fun x hx => hA.wf x (List.mem_of_mem_drop hx))
    rw [this, List.length_drop]; rfl
  have htl : (fcs (Ty.cons Ty.str (Ty.cons Ty.str (Ty.cons Ty.str Ty.unit))) (xs.take i)).length = i * 3 := by
    have := fcs_length (t := (Ty.cons Ty.str (Ty.cons Ty.str (Ty.cons Ty.str Ty.unit)))) rfl (xs := xs.take i) (fun x hx => hA.wf x (List.mem_of_mem_take hx))
    rw [this, List.length_take, Nat.min_eq_left (by omega)]; rfl
  have hdc : ∀ (k : Nat) (u : Value), (fcs (Ty.cons Ty.str (Ty.cons Ty.str (Ty.cons Ty.str Ty.unit))) (xs.drop i))[k]? = some u → w.cell? ⟨b, off + i * 3 + k, none⟩ = some u := fun k u hk => by
    have := hA.cell _ _ (fcs_drop rfl hA.wf i (by omega) k u hk)
    rwa [Nat.add_assoc]
  have htc : ∀ (k : Nat) (u : Value), (fcs (Ty.cons Ty.str (Ty.cons Ty.str (Ty.cons Ty.str Ty.unit))) (xs.take i))[k]? = some u → w.cell? ⟨b, off + k, none⟩ = some u := fun k u hk => hA.cell _ _ (fcs_take rfl hA.wf i k u hk)
  have hbw := hA.lt
  have hvw := hB.lt
  obtain ⟨vs, hvs⟩ : ∃ vs, vs = fcs (Ty.cons Ty.str (Ty.cons Ty.str (Ty.cons Ty.str Ty.unit))) ys := ⟨_, rfl⟩
  obtain ⟨ds, hds⟩ : ∃ ds, ds = fcs (Ty.cons Ty.str (Ty.cons Ty.str (Ty.cons Ty.str Ty.unit))) (xs.drop i) := ⟨_, rfl⟩
  obtain ⟨ts, hts⟩ : ∃ ts, ts = fcs (Ty.cons Ty.str (Ty.cons Ty.str (Ty.cons Ty.str Ty.unit))) (xs.take i) := ⟨_, rfl⟩
  have hvc : ∀ (j : Nat) (u : Value), vs[j]? = some u → w.cell? ⟨vb, voff + j, none⟩ = some u := fun j u hj => hB.cell j u (by rw [← hvs]; exact hj)
  have s1 : ∀ u ∈ ds, u.oneCell' = true := by rw [hds]; exact fcells_ones rfl _
  have s2 : ∀ u ∈ vs, u.oneCell' = true := by rw [hvs]; exact fcells_ones rfl _
  rw [fcs_append, fcs_append, ← hvs, ← hds, ← hts]
  rw [← hvs] at hvl
  rw [← hds] at hdl hdc
  rw [← hts] at htl htc
  have hbig : (xs.length + 1) * i0.bytes ≤ 140737488355328 := by
    have : (xs.length + 1) * i0.bytes ≤ 1048577 * i0.bytes := Nat.mul_le_mul_right _ (by omega)
    rw [Nat.mul_comm 1048577] at this
    omega
  have hkk : (xs.length : Int) + 1 - (i : Int) = ((xs.length + 1 - i : Nat) : Int) := by omega
  have hik : i + (xs.length + 1 - i) = xs.length + 1 := by omega
  have hold : (Builtin.firstCells i0.size i (.slice (some ⟨b, off, none⟩) i cap)).run Tryz.prog w.drew = .ok ts.toArray w.drew := by
    rw [hz1]
    exact run_firstCells_some w.drew 3 i ⟨b, off, none⟩ i cap ts htl (fun j v hj => by rw [Addr.add_lit]; exact htc j v hj)
  have h48 : (xs.length + 1 - i) * i0.bytes ≤ 281474976710656 := by
    have : (xs.length + 1 - i) * i0.bytes ≤ (xs.length + 1) * i0.bytes := Nat.mul_le_mul_right _ (by omega)
    omega
  have hrz : ∀ ty, (Builtin.append_ #[24, 3] ty #[.slice (some ⟨b, off, none⟩) i cap, .int .i64 ((xs.length : Int) + 1 - (i : Int))]).run Tryz.prog w =
      .ok (.slice (some ⟨w.heap.size, 0, none⟩) (xs.length + 1) (grownCap w (xs.length + 1) cap 43)) (w.drew.alloc (.cells (ts.toArray ++ Builtin.zeroCells z.cells (xs.length + 1 - i) ++ Builtin.zeroCells z.cells (grownCap w (xs.length + 1) cap 43 - (xs.length + 1))) 43)) := fun ty => by
    have h := Lib.run_append_grow_zeros w 24 3 ty 43 i0 z .i64 .i64 Tryz.underlying24 Tryz.underlying3 hi0 hz0 (some ⟨b, off, none⟩) i cap ts hold (xs.length + 1 - i) (by omega) (by omega) (by omega) (by omega) h48 (by rw [hik]; exact growslice_fits hroom hbig)
    rw [hik] at h
    rw [hkk]
    exact h
  have hge := grownCap_ge w (xs.length + 1) cap 43
  have hgm := grownCap_le_maxLen w (xs.length + 1) cap 43 (by unfold maxLen; omega)
  obtain ⟨G, hG⟩ : ∃ G, G = grownCap w (xs.length + 1) cap 43 := ⟨_, rfl⟩
  rw [← hG] at hrz hge hgm
  obtain ⟨ROW, hROW⟩ : ∃ ROW : Array Value, ROW = ts.toArray ++ Builtin.zeroCells z.cells (xs.length + 1 - i) ++ Builtin.zeroCells z.cells (G - (xs.length + 1)) := ⟨_, rfl⟩
  rw [← hROW] at hrz
  have hzs : ∀ k, (Builtin.zeroCells z.cells k).size = k * 3 := fun k => by
    rw [← Array.length_toList, hzc, zeroCells_k]; simp [dcells]
  have hRs : ROW.size = G * 3 := by
    rw [hROW, Array.size_append, Array.size_append, List.size_toArray, htl, hzs, hzs, ← Nat.add_mul, hik, ← Nat.add_mul]
    congr 1; omega
  have hRt : ∀ (k : Nat) (u : Value), ts[k]? = some u → ROW[k]? = some u := fun k u hk => by
    have hlt := (List.getElem?_eq_some_iff.1 hk).1
    rw [hROW, Array.append_assoc, Array.getElem?_append_left (by simpa using hlt)]
    simpa using hk
  have hmul : (xs.length + 1) * 3 ≤ G * 3 := Nat.mul_le_mul_right _ hge
  obtain ⟨W1, hW1⟩ : ∃ W1, W1 = w.drew.alloc (.cells ROW 43) := ⟨_, rfl⟩
  rw [← hW1] at hrz
  have hblk : W1.heap[w.heap.size]? = some (.cells ROW 43 (0, 0)) := by rw [hW1]; exact heap_alloc_new w.drew _
  have hN : ∀ j, j < G * 3 → (W1.cell? ⟨w.heap.size, j, none⟩).isSome = true := fun j hj => by
    simp only [World.cell?, hblk]; rw [Array.getElem?_eq_getElem (by omega)]; rfl
  have hNf : ∀ j, W1.frozen? ⟨w.heap.size, j, none⟩ = false := fun j => by
    simp only [World.frozen?, hblk]; simp
  have hOld : ∀ k, k < w.heap.size → W1.heap[k]? = w.heap[k]? := fun k hk => by rw [hW1]; exact heap_alloc_old w.drew _ hk
  have hOb : ∀ j v, w.cell? ⟨b, j, none⟩ = some v → W1.cell? ⟨b, j, none⟩ = some v := fun j v h => by simp only [World.cell?] at h ⊢; rw [hOld b hbw]; exact h
  have hOv : ∀ j v, w.cell? ⟨vb, j, none⟩ = some v → W1.cell? ⟨vb, j, none⟩ = some v := fun j v h => by simp only [World.cell?] at h ⊢; rw [hOld vb hvw]; exact h
  have hbN : b ≠ w.heap.size := by omega
  have e2 : (i + 1) * 3 = i * 3 + 3 := Nat.succ_mul _ _
  have e1 : (i + 1) * 3 + (xs.length - i) * 3 = (xs.length + 1) * 3 := by rw [← Nat.add_mul]; congr 1; omega
  have hcpA : ∀ (W : World), (∀ x, W.cell? x = W1.cell? x) → (∀ x, W.frozen? x = W1.frozen? x) → ∀ ty dc, (Builtin.copy_ #[24, 24] ty #[.slice (some ⟨w.heap.size, i * 3, none⟩) (xs.length + 1 - i) dc, .slice (some ⟨vb, voff, none⟩) 1 vcap]).run Tryz.prog W = .ok (goInt (Nat.min 1 (xs.length + 1 - i))) (W.setCells w.heap.size (i * 3) vs) := fun W hWc hWf ty dc =>
    run_copy_k W _ _ ty 43 3 w.heap.size (i * 3) (xs.length + 1 - i) dc ⟨vb, voff, none⟩ 1 vcap vs Tryz.underlying24 hzm (by rw [hvl]; congr 1; simp only [Nat.min_def]; split <;> omega)
      (fun j v hj => by rw [Addr.add_lit, hWc]; exact hOv _ v (hvc j v hj))
      (fun j hj => by rw [hWc]; exact hN _ (by omega)) (fun j hj => by rw [hWf]; exact hNf _) s2
  have hcpB : ∀ (W : World), (∀ x, W.cell? x = (W1.setCells w.heap.size (i * 3) vs).cell? x) → (∀ x, W.frozen? x = (W1.setCells w.heap.size (i * 3) vs).frozen? x) → ∀ ty dc sc, (Builtin.copy_ #[24, 24] ty #[.slice (some ⟨w.heap.size, (i + 1) * 3, none⟩) (xs.length - i) dc, .slice (some ⟨b, off + i * 3, none⟩) (xs.length - i) sc]).run Tryz.prog W = .ok (goInt (Nat.min (xs.length - i) (xs.length - i))) (W.setCells w.heap.size ((i + 1) * 3) ds) := fun W hWc hWf ty dc sc =>
    run_copy_k W _ _ ty 43 3 w.heap.size ((i + 1) * 3) (xs.length - i) dc ⟨b, off + i * 3, none⟩ (xs.length - i) sc ds Tryz.underlying24 hzm (by rw [hdl]; congr 1; simp only [Nat.min_def]; split <;> omega)
      (fun j v hj => by
        rw [Addr.add_lit, hWc, World.cell?_setCells_out _ _ _ _ _ (fun h _ => absurd h hbN)]
        exact hOb _ v (hdc j v hj))
      (fun j hj => by rw [hWc]; exact isSome_put _ _ _ _ _ (hN _ (by omega)))
      (fun j hj => by rw [hWf, World.frozen?_setCells]; exact hNf _) s1
  -- what the new row holds at the end
  have fin : ∀ q1 q2 : Nat, (((W1.drewN q1).setCells w.heap.size (i * 3) vs).drewN q2 |>.setCells w.heap.size ((i + 1) * 3) ds).ownsRow w.heap.size 43 (Ty.size (Ty.cons Ty.str (Ty.cons Ty.str (Ty.cons Ty.str Ty.unit)))) (.slice (some ⟨w.heap.size, 0, none⟩) (xs.length + 1) G) (xs.length + 1) (ts ++ (vs ++ ds)) ∧
      Below w.heap.size w (((W1.drewN q1).setCells w.heap.size (i * 3) vs).drewN q2 |>.setCells w.heap.size ((i + 1) * 3) ds) := fun q1 q2 => by
    have el : (ts ++ (vs ++ ds)).length = (xs.length + 1) * 3 := by
      rw [List.length_append, List.length_append, htl, hvl, hdl, ← Nat.add_mul, ← Nat.add_mul]; congr 1; omega
    have l1 : i * 3 + vs.length ≤ ROW.size := by rw [hvl, hRs]; omega
    obtain ⟨c1, g1, g2, g3, g4, g5, g6⟩ := setCells_block vs (show (W1.drewN q1).heap[w.heap.size]? = some (.cells ROW 43 (0, 0)) from hblk) l1
    have l2 : (i + 1) * 3 + ds.length ≤ c1.size := by rw [hdl, g2, hRs]; omega
    obtain ⟨c2, k1, k2, k3, k4, k5, k6⟩ := setCells_block ds (show (((W1.drewN q1).setCells w.heap.size (i * 3) vs).drewN q2).heap[w.heap.size]? = some (.cells c1 43 (0, 0)) from g1) l2
    have kA := setCells_kept vs (show (W1.drewN q1).heap[w.heap.size]? = some (.cells ROW 43 (0, 0)) from hblk) l1
    have kB := setCells_kept ds (show (((W1.drewN q1).setCells w.heap.size (i * 3) vs).drewN q2).heap[w.heap.size]? = some (.cells c1 43 (0, 0)) from g1) l2
    have kAll : Kept [w.heap.size] w (((W1.drewN q1).setCells w.heap.size (i * 3) vs).drewN q2 |>.setCells w.heap.size ((i + 1) * 3) ds) := by
      have k0 : Kept [w.heap.size] w W1 := by rw [hW1]; exact ((Kept.refl _ w).drew).alloc _
      have k1 : Kept [w.heap.size] W1 (W1.drewN q1) := ⟨rfl, rfl, rfl, Nat.le_refl _, fun _ _ _ => rfl⟩
      have k2 : Kept [w.heap.size] ((W1.drewN q1).setCells w.heap.size (i * 3) vs) (((W1.drewN q1).setCells w.heap.size (i * 3) vs).drewN q2) := ⟨rfl, rfl, rfl, Nat.le_refl _, fun _ _ _ => rfl⟩
      exact ((k0.trans k1).trans (kA.trans k2)).trans kB
    refine ⟨⟨el, .inr ⟨w.heap.size, G, c2, rfl, Nat.le_refl _, k1, hge, hgm, by rw [k2, g2, hRs]; rfl, ?_⟩⟩, ⟨kAll.os, kAll.tape, kAll.output, kAll.size, fun k hk => kAll.block k hk (by simp; omega)⟩⟩
    apply List.ext_getElem?
    intro k
    rw [List.getElem?_take]
    by_cases hk : k < (xs.length + 1) * 3
    · rw [if_pos (show k < (xs.length + 1) * Ty.size (Ty.cons Ty.str (Ty.cons Ty.str (Ty.cons Ty.str Ty.unit))) from hk), Array.getElem?_toList]
      have hk' : k < (ts ++ (vs ++ ds)).length := by rw [el]; exact hk
      obtain ⟨u, hu⟩ : ∃ u, (ts ++ (vs ++ ds))[k]? = some u := ⟨_, List.getElem?_eq_getElem hk'⟩
      rw [hu]
      by_cases h1 : k < i * 3
      · rw [List.getElem?_append_left (by omega)] at hu
        rw [k4 _ (.inl (by omega)), g4 _ (.inl (by omega))]
        exact hRt k u hu
      · rw [List.getElem?_append_right (by omega), htl] at hu
        by_cases h2 : k < i * 3 + 3
        · rw [List.getElem?_append_left (by omega)] at hu
          have := g3 _ u hu
          rw [k4 _ (.inl (by omega))]
          rwa [show i * 3 + (k - i * 3) = k by omega] at this
        · rw [List.getElem?_append_right (by omega), hvl] at hu
          have := k3 _ u hu
          rwa [show (i + 1) * 3 + (k - i * 3 - 1 * 3) = k by omega] at this
    · rw [if_neg (show ¬ k < (xs.length + 1) * Ty.size (Ty.cons Ty.str (Ty.cons Ty.str (Ty.cons Ty.str Ty.unit))) from hk), List.getElem?_eq_none (by rw [el]; omega)]
  have F : Aside (∀ q1 q2 : Nat, (((W1.drewN q1).setCells w.heap.size (i * 3) vs).drewN q2 |>.setCells w.heap.size ((i + 1) * 3) ds).ownsRow w.heap.size 43 (Ty.size (Ty.cons Ty.str (Ty.cons Ty.str (Ty.cons Ty.str Ty.unit)))) (.slice (some ⟨w.heap.size, 0, none⟩) (xs.length + 1) G) (xs.length + 1) (ts ++ (vs ++ ds)) ∧
      Below w.heap.size w (((W1.drewN q1).setCells w.heap.size (i * 3) vs).drewN q2 |>.setCells w.heap.size ((i + 1) * 3) ds)) := fin
  subst hW1
  have hE1 : ∀ x, ((w.alloc (.cells ROW 43)).drew).cell? x = (w.drew.alloc (.cells ROW 43)).cell? x := fun x => rfl
  have hE2 : ∀ x, ((w.alloc (.cells ROW 43)).drew).frozen? x = (w.drew.alloc (.cells ROW 43)).frozen? x := fun x => rfl
  have hF1 : ∀ x, (((w.alloc (.cells ROW 43)).drew.setCells w.heap.size (i * 3) vs).drew).cell? x = ((w.drew.alloc (.cells ROW 43)).setCells w.heap.size (i * 3) vs).cell? x := fun x => rfl
  have hF2 : ∀ x, (((w.alloc (.cells ROW 43)).drew.setCells w.heap.size (i * 3) vs).drew).frozen? x = ((w.drew.alloc (.cells ROW 43)).setCells w.heap.size (i * 3) vs).frozen? x := fun x => rfl
  have hz2 : ¬ ((i : Int) = (xs.length : Int)) := by omega
  have hw1 : IntKind.i64.wrap ((i : Int) + 1) = (i : Int) + 1 := by rw [IntKind.wrap_i64]; omega
  have hw2 : IntKind.i64.wrap ((xs.length : Int) + 1) = (xs.length : Int) + 1 := by rw [IntKind.wrap_i64]; omega
  have hw3 : IntKind.i64.wrap ((xs.length : Int) + 1 - (i : Int)) = (xs.length : Int) + 1 - (i : Int) := by rw [IntKind.wrap_i64]; omega
  have hb1 : (0 : Int) ≤ (i : Int) + 1 := by omega
  have hin : i ≤ xs.length := by omega
  have htn : ((i : Int) + 1).toNat = i + 1 := by omega
  have hGi : ¬ (G = i) := by omega
  have hGim : ¬ (G = i + 1) := by omega
  have hci : ¬ (cap = i) := by omega
  have hb3 : (i : Int) ≤ (xs.length : Int) := by omega
  have hb5 : (cap : Int) < (xs.length : Int) + 1 := by omega
  have hG63 : G ≤ 9223372036854775807 := by unfold maxLen at hgm; exact hgm
  clear hkk hik hold hROW hG hRs hRt hzs hN hNf hOld hOb hOv fin s1 s2 hvc hvs hds hts hdc htc hdl htl hvl hzc hz0 hA hB e1 e2 hmul hblk
  go_enter Tryz.func63, Tryz.ntmps63
  go_wp2_with (first
    | (at_builtin; refine Lib.wpList_append_run _ rfl _ _ _ _ rfl _ _ rfl rfl _ _ (hrz _) ?_)
    | (at_builtin; refine lcp63 _ rfl _ _ 24 24 rfl _ _ rfl rfl (hcpA _ hE1 hE2 _ _) ?_)
    | (at_builtin; refine lcp63 _ rfl _ _ 24 24 rfl _ _ rfl rfl (hcpB _ (fun _ => rfl) (fun _ => rfl) _ _ _) ?_))
  go_region_law_o (refine scp63 rfl _ _ 24 24 rfl (.slice (some ⟨w.heap.size, (i + 1) * 3, none⟩) (xs.length - i) (G - (i + 1))) (.slice (some ⟨b, off + i * 3, none⟩) (xs.length - i) (cap - i)) (by simp [Act.eval, Act.put]) (by simp [Act.eval, Act.put]) (hcpB _ hF1 hF2 3 (G - (i + 1)) (cap - i)) ?_)
  go_wp2
  go_ret
  exact ⟨_, rfl, (F.out 0 1).1, (F.out 0 1).2⟩

def sig63 : List AT := [AT.own (Ty.cons Ty.str (Ty.cons Ty.str (Ty.cons Ty.str Ty.unit))), AT.v (Ty.int .i64), AT.own (Ty.cons Ty.str (Ty.cons Ty.str (Ty.cons Ty.str Ty.unit)))]
def g63_0 (x0 : List (ByteArray × ByteArray × ByteArray × Unit)) (x1 : Int) (x2 : List (ByteArray × ByteArray × ByteArray × Unit)) : List (ByteArray × ByteArray × ByteArray × Unit) := x0.take x1.toNat ++ (x2 ++ x0.drop x1.toNat)
def P63 (x0 : List (ByteArray × ByteArray × ByteArray × Unit)) (x1 : Int) (x2 : List (ByteArray × ByteArray × ByteArray × Unit)) : Prop := 0 ≤ x1 ∧ x1 ≤ x0.length ∧ x2.length = 1 ∧ x0.length ≤ 1048576
def S63 : Am.Spec := { sig := sig63, pre := fun ⟨x0, x1, x2, _⟩ => P63 x0 x1 x2, upd := fun _ => [none, none], res := fun ⟨x0, x1, x2, _⟩ => [⟨Ty.sl (Ty.cons Ty.str (Ty.cons Ty.str (Ty.cons Ty.str Ty.unit))), g63_0 x0 x1 x2⟩] }
theorem con63 : Contract Tryz.prog 63 S63 := insert_contract (t := (Ty.cons Ty.str (Ty.cons Ty.str (Ty.cons Ty.str Ty.unit)))) (e := 43) rfl shift63 grow63 end63 last63

end Go.Proofs.YtalgkffjceljiaaGreatDoor

/- Function 37 (impl.putBlock): its runs between cut points. Written by a program of this repo (gen). -/
set_option linter.unusedVariables false
set_option linter.unusedSimpArgs false
set_option maxRecDepth 100000
namespace Go.Proofs.YtalgkffjceljiaaGreatDoor
open Go Go.Am Go.Proofs
noncomputable section
def ext37 : Ext := [(61, S61), (62, S62), (63, S63)]
theorem call37_61 : Callable Tryz.prog 61 := ⟨Tryz.f61, Tryz.func61, by kernel_rfl, by kernel_rfl⟩
theorem call37_62 : Callable Tryz.prog 62 := ⟨Tryz.f62, Tryz.func62, by kernel_rfl, by kernel_rfl⟩
theorem call37_63 : Callable Tryz.prog 63 := ⟨Tryz.f63, Tryz.func63, by kernel_rfl, by kernel_rfl⟩
theorem ext37Ok : ExtOk Tryz.prog ext37 := ⟨⟨call37_61, con61⟩, ⟨call37_62, con62⟩, ⟨call37_63, con63⟩, trivial⟩

noncomputable def b37 : Code := bodyOf Tryz.f37
theorem hb37 : Tryz.f37.body = some b37 := by kernel_rfl
def sig37 : List AT := [AT.v (Ty.sl (Ty.cons Ty.str (Ty.cons Ty.str (Ty.cons Ty.str Ty.unit)))), AT.v (Ty.cons Ty.str (Ty.cons Ty.str (Ty.cons Ty.str Ty.unit)))]
def tys37 : List Ty := [Ty.sl (Ty.cons Ty.str (Ty.cons Ty.str (Ty.cons Ty.str Ty.unit)))]
def kds37 : List RK := []
def oks37 : List AT := owns sig37
def P37 (x0 : List (ByteArray × ByteArray × ByteArray × Unit)) (x1 : ByteArray × ByteArray × ByteArray × Unit) : Prop := ((P61 x0) ∧ ((P62 (g61_0 x0) x1) ∧ (if (g62_1 (g61_0 x0) x1) = true then ((0 ≤ g62_0 (g61_0 x0) x1) ∧ (g62_0 (g61_0 x0) x1 < (↑(List.length (g61_0 x0)) : Int)) ∧ True) else ((P63 (g61_0 x0) (g62_0 (g61_0 x0) x1) [x1]) ∧ True))))
def g37_0 (x0 : List (ByteArray × ByteArray × ByteArray × Unit)) (x1 : ByteArray × ByteArray × ByteArray × Unit) : List (ByteArray × ByteArray × ByteArray × Unit) := (if (g62_1 (g61_0 x0) x1) = true then List.set (g61_0 x0) (Int.toNat (g62_0 (g61_0 x0) x1)) x1 else g63_0 (g61_0 x0) (g62_0 (g61_0 x0) x1) [x1])
theorem at37 (x0 : List (ByteArray × ByteArray × ByteArray × Unit)) (x1 : ByteArray × ByteArray × ByteArray × Unit) (h : P37 x0 x1) (K : Ctx) (q : Nat → Value) : AtV Tryz.prog 37 (PostR kds37 oks37 [⟨Ty.sl (Ty.cons Ty.str (Ty.cons Ty.str (Ty.cons Ty.str Ty.unit))), g37_0 x0 x1⟩] [] [] q K) 27 K q [] [.code b37] (entE 0 0 sig37 (x0, x1, ())) (entL sig37 (x0, x1, ())) := by
  unfold P37 at h
  unfold g37_0
  obtain ⟨s0, h⟩ := h
  obtain ⟨s1, h⟩ := h
  by_cases b0 : (g62_1 (g61_0 x0) x1) = true
  · try simp only [if_pos b0] at h ⊢
    obtain ⟨s2, s3, h⟩ := h
    exact AtV.ret Tryz.func37 tabOk ext37Ok mixed false [] tys37 [true] (a1 s0 (a1 s1 (a1 b0 (a1 s2 (a1 s3 trivial))))) (by kernel_rfl)
  · try simp only [if_neg b0] at h ⊢
    replace b0 := Bool.eq_false_iff.2 b0
    obtain ⟨s2, h⟩ := h
    exact AtV.ret Tryz.func37 tabOk ext37Ok mixed false [] tys37 [false] (a1 s0 (a1 s1 (a1 b0 (a1 s2 trivial)))) (by kernel_rfl)

def S37 : Am.Spec := { sig := sig37, pre := fun ⟨x0, x1, _⟩ => P37 x0 x1, res := fun ⟨x0, x1, _⟩ => [⟨Ty.sl (Ty.cons Ty.str (Ty.cons Ty.str (Ty.cons Ty.str Ty.unit))), g37_0 x0 x1⟩], kds := kds37 }
theorem con37 : Contract Tryz.prog 37 S37 := contract_of Tryz.func37 hb37 (Nat.le_of_ble_eq_true (by kernel_rfl)) (fun ⟨x0, x1, _⟩ h _ K q => at37 x0 x1 h K q)


theorem bsb37 (p : Nat → Bool) : ∀ (m i j : Nat), i ≤ j → i ≤ bsearch p m i j ∧ bsearch p m i j ≤ j
  | 0, i, j, h => ⟨Nat.le_refl _, h⟩
  | m + 1, i, j, h => by
    simp only [bsearch]
    split
    · split
      · have := bsb37 p m ((i + j) / 2 + 1) j (by omega); omega
      · have := bsb37 p m i ((i + j) / 2) (by omega); omega
    · omega

theorem atk37 (x0 : List (ByteArray × ByteArray × ByteArray × Unit)) (x1 : (ByteArray × ByteArray × ByteArray × Unit)) : 0 ≤ g62_0 x0 x1 ∧ g62_0 x0 x1 ≤ x0.length ∧ (g62_1 x0 x1 = true → g62_0 x0 x1 < x0.length) := by
  have := bsb37 (p80c60 x0 x1) (x0.length + 1) 0 x0.length (by omega)
  unfold g62_0 g62_1 g80c60_0 g80c60_1 f80c60
  unfold k80c60 at *
  refine ⟨by omega, by omega, fun h => ?_⟩
  split at h
  · omega
  · cases h

theorem pre37 (x0 : List (ByteArray × ByteArray × ByteArray × Unit)) (x1 : (ByteArray × ByteArray × ByteArray × Unit)) (hl : x0.length ≤ 1048576) : P37 x0 x1 := by
  obtain ⟨a1, a2, a3⟩ := atk37 x0 x1
  have p1 : P61 x0 := hl
  have p2 : P62 x0 x1 := ⟨(show x0.length ≤ 4611686018427387903 from by omega), trivial⟩
  unfold P37
  refine ⟨p1, p2, ?_⟩
  by_cases h : g62_1 (g61_0 x0) x1 = true
  · rw [if_pos h]
    exact ⟨a1, a3 h, trivial⟩
  · rw [if_neg h]
    exact ⟨⟨a1, a2, rfl, hl⟩, trivial⟩

end
end Go.Proofs.YtalgkffjceljiaaGreatDoor

/- Function 20 (impl.PutBlock): its runs between cut points. Written by a program of this repo (gen). -/
set_option linter.unusedVariables false
set_option linter.unusedSimpArgs false
set_option maxRecDepth 100000
namespace Go.Proofs.YtalgkffjceljiaaGreatDoor
open Go Go.Am Go.Proofs
noncomputable section
def ext20 : Ext := [(36, S36), (34, S34), (37, S37)]
theorem call20_36 : Callable Tryz.prog 36 := ⟨Tryz.f36, Tryz.func36, by kernel_rfl, by kernel_rfl⟩
theorem call20_34 : Callable Tryz.prog 34 := ⟨Tryz.f34, Tryz.func34, by kernel_rfl, by kernel_rfl⟩
theorem call20_37 : Callable Tryz.prog 37 := ⟨Tryz.f37, Tryz.func37, by kernel_rfl, by kernel_rfl⟩
theorem ext20Ok : ExtOk Tryz.prog ext20 := ⟨⟨call20_36, con36⟩, ⟨call20_34, con34⟩, ⟨call20_37, con37⟩, trivial⟩

noncomputable def b20 : Code := bodyOf Tryz.f20
theorem hb20 : Tryz.f20.body = some b20 := by kernel_rfl
def sig20 : List AT := [AT.v (Ty.sl (Ty.cons Ty.str (Ty.cons Ty.str (Ty.cons Ty.str Ty.unit)))), AT.v (Ty.cons Ty.str (Ty.cons Ty.str (Ty.cons Ty.str Ty.unit)))]
def tys20 : List Ty := [Ty.sl (Ty.cons Ty.str (Ty.cons Ty.str (Ty.cons Ty.str Ty.unit))), Ty.int IntKind.i64]
def kds20 : List RK := []
def oks20 : List AT := owns sig20
def P20 (x0 : List (ByteArray × ByteArray × ByteArray × Unit)) (x1 : ByteArray × ByteArray × ByteArray × Unit) : Prop := (if (!g36_0 x0) = true then True else ((P34 x1) ∧ (if (!g34_0 x1) = true then True else ((P37 x0 x1) ∧ True))))
def g20_0 (x0 : List (ByteArray × ByteArray × ByteArray × Unit)) (x1 : ByteArray × ByteArray × ByteArray × Unit) : List (ByteArray × ByteArray × ByteArray × Unit) := (if (!g36_0 x0) = true then [] else (if (!g34_0 x1) = true then [] else (if (Decidable.decide ((↑(List.length (g37_0 x0 x1)) : Int) > 32)) = true then [] else g37_0 x0 x1)))
def g20_1 (x0 : List (ByteArray × ByteArray × ByteArray × Unit)) (x1 : ByteArray × ByteArray × ByteArray × Unit) : Int := (if (!g36_0 x0) = true then 1 else (if (!g34_0 x1) = true then 1 else (if (Decidable.decide ((↑(List.length (g37_0 x0 x1)) : Int) > 32)) = true then 5 else 0)))
theorem at20 (x0 : List (ByteArray × ByteArray × ByteArray × Unit)) (x1 : ByteArray × ByteArray × ByteArray × Unit) (h : P20 x0 x1) (K : Ctx) (q : Nat → Value) : AtV Tryz.prog 20 (PostR kds20 oks20 [⟨Ty.sl (Ty.cons Ty.str (Ty.cons Ty.str (Ty.cons Ty.str Ty.unit))), g20_0 x0 x1⟩, ⟨Ty.int IntKind.i64, g20_1 x0 x1⟩] [] [] q K) 22 K q [] [.code b20] (entE 0 0 sig20 (x0, x1, ())) (entL sig20 (x0, x1, ())) := by
  unfold P20 at h
  unfold g20_0 g20_1
  by_cases b0 : (!g36_0 x0) = true
  · try simp only [if_pos b0] at h ⊢
    exact AtV.ret Tryz.func20 tabOk ext20Ok mixed false [] tys20 [true, true] (a1 trivial (a1 b0 (a1 (rfl : Bool.true = Bool.true) trivial))) (by kernel_rfl)
  · try simp only [if_neg b0] at h ⊢
    replace b0 := Bool.eq_false_iff.2 b0
    obtain ⟨s0, h⟩ := h
    by_cases b1 : (!g34_0 x1) = true
    · try simp only [if_pos b1] at h ⊢
      exact AtV.ret Tryz.func20 tabOk ext20Ok mixed false [] tys20 [false, true] (a1 trivial (a1 b0 (a1 s0 (a1 b1 trivial)))) (by kernel_rfl)
    · try simp only [if_neg b1] at h ⊢
      replace b1 := Bool.eq_false_iff.2 b1
      obtain ⟨s1, h⟩ := h
      by_cases b2 : (Decidable.decide ((↑(List.length (g37_0 x0 x1)) : Int) > 32)) = true
      · try simp only [if_pos b2] at h ⊢
        exact AtV.ret Tryz.func20 tabOk ext20Ok mixed false [] tys20 [false, false, true] (a1 trivial (a1 b0 (a1 s0 (a1 b1 (a1 s1 (a1 b2 trivial)))))) (by kernel_rfl)
      · try simp only [if_neg b2] at h ⊢
        replace b2 := Bool.eq_false_iff.2 b2
        exact AtV.ret Tryz.func20 tabOk ext20Ok mixed false [] tys20 [false, false, false] (a1 trivial (a1 b0 (a1 s0 (a1 b1 (a1 s1 (a1 b2 trivial)))))) (by kernel_rfl)

def S20 : Am.Spec := { sig := sig20, pre := fun ⟨x0, x1, _⟩ => P20 x0 x1, res := fun ⟨x0, x1, _⟩ => [⟨Ty.sl (Ty.cons Ty.str (Ty.cons Ty.str (Ty.cons Ty.str Ty.unit))), g20_0 x0 x1⟩, ⟨Ty.int IntKind.i64, g20_1 x0 x1⟩], kds := kds20 }
theorem con20 : Contract Tryz.prog 20 S20 := contract_of Tryz.func20 hb20 (Nat.le_of_ble_eq_true (by kernel_rfl)) (fun ⟨x0, x1, _⟩ h _ K q => at20 x0 x1 h K q)


end
end Go.Proofs.YtalgkffjceljiaaGreatDoor

/- Function 10 (impl.SalvageBlocks): its runs between cut points. Written by a program of this repo (gen). -/
set_option linter.unusedVariables false
set_option linter.unusedSimpArgs false
set_option maxRecDepth 100000
namespace Go.Proofs.YtalgkffjceljiaaGreatDoor
open Go Go.Am Go.Proofs
noncomputable section
def ext10 : Ext := [(17, S17), (18, S18), (20, S20)]
theorem call10_17 : Callable Tryz.prog 17 := ⟨Tryz.f17, Tryz.func17, by kernel_rfl, by kernel_rfl⟩
theorem call10_18 : Callable Tryz.prog 18 := ⟨Tryz.f18, Tryz.func18, by kernel_rfl, by kernel_rfl⟩
theorem call10_20 : Callable Tryz.prog 20 := ⟨Tryz.f20, Tryz.func20, by kernel_rfl, by kernel_rfl⟩
theorem ext10Ok : ExtOk Tryz.prog ext10 := ⟨⟨call10_17, con17⟩, ⟨call10_18, con18⟩, ⟨call10_20, con20⟩, trivial⟩

noncomputable def b10 : Code := bodyOf Tryz.f10
theorem hb10 : Tryz.f10.body = some b10 := by kernel_rfl
def sig10 : List AT := [AT.v (Ty.str)]
def tys10 : List Ty := [Ty.sl (Ty.cons Ty.str (Ty.cons Ty.str (Ty.cons Ty.str Ty.unit)))]
def kds10 : List RK := []
def oks10 : List AT := owns sig10
def E10_4 (v19 : Int) (h0 : List (ByteArray × ByteArray × ByteArray × Unit)) (x0 : ByteArray) : Env := [(5, PV.a (Atom.osl 0 Option.none)), (17, PV.a (Atom.osl 1 Option.none)), (18, PV.a (Atom.val (Value.int IntKind.i64 (↑(List.length (g17_0 x0)) : Int)))), (19, PV.a (Atom.val (Value.int IntKind.i64 v19)))]
def L10_4 (v19 : Int) (h0 : List (ByteArray × ByteArray × ByteArray × Unit)) (x0 : ByteArray) : Heap := [Option.some (Arr.mk (Ty.cons Ty.str (Ty.cons Ty.str (Ty.cons Ty.str Ty.unit))) h0 Bool.false Option.none Option.none), Option.some (Arr.mk Ty.str (g17_0 x0) Bool.false Option.none Option.none)]
mutual
def R10 : Nat → ByteArray → List Dyn → Prop
  | 0, _, _ => False
  | n + 1, x0, ds => ((P17 x0) ∧ (R10_4 n (0) ([]) (x0) ds))
def R10_4 : Nat → Int → List (ByteArray × ByteArray × ByteArray × Unit) → ByteArray → List Dyn → Prop
  | 0, _, _, _, _ => False
  | n + 1, v19, h0, x0, ds => (if (Decidable.decide (v19 < (↑(List.length (g17_0 x0)) : Int))) = true then ((0 ≤ v19) ∧ (v19 < (↑(List.length (g17_0 x0)) : Int)) ∧ ((P18 (List.getD (g17_0 x0) (Int.toNat v19) ByteArray.empty)) ∧ (if (v19 == 0) = true then ((InR IntKind.i64 (v19 + 1)) ∧ (R10_4 n (v19 + 1) (h0) (x0) ds)) else (if (g18_1 (List.getD (g17_0 x0) (Int.toNat v19) ByteArray.empty) != 0) = true then ((InR IntKind.i64 (v19 + 1)) ∧ (R10_4 n (v19 + 1) (h0) (x0) ds)) else ((P20 h0 (g18_0 (List.getD (g17_0 x0) (Int.toNat v19) ByteArray.empty))) ∧ (if (g20_1 h0 (g18_0 (List.getD (g17_0 x0) (Int.toNat v19) ByteArray.empty)) == 0) = true then ((InR IntKind.i64 (v19 + 1)) ∧ (R10_4 n (v19 + 1) (g20_0 h0 (g18_0 (List.getD (g17_0 x0) (Int.toNat v19) ByteArray.empty))) (x0) ds)) else ((InR IntKind.i64 (v19 + 1)) ∧ (R10_4 n (v19 + 1) (h0) (x0) ds)))))))) else (ds = [Dyn.mk (Ty.sl (Ty.cons Ty.str (Ty.cons Ty.str (Ty.cons Ty.str Ty.unit)))) h0]))
end
theorem snd10 : ∀ n, (∀ (x0 : ByteArray) ds, R10 n x0 ds → ∀ K q, AtV Tryz.prog 10 (PostR kds10 oks10 ds [] [] q K) 46 K q [] [.code b10] (entE 0 0 sig10 (x0, ())) (entL sig10 (x0, ()))) ∧ (∀ (v19 : Int) (h0 : List (ByteArray × ByteArray × ByteArray × Unit)) (x0 : ByteArray) ds, R10_4 n v19 h0 x0 ds → ∀ K q, AtV Tryz.prog 10 (PostR kds10 oks10 ds [] [] q K) 46 K q [] (cutAt b10 4) (E10_4 v19 h0 x0) (L10_4 v19 h0 x0)) := by
  intro n
  induction n with
  | zero => exact ⟨fun _ _ h => by simp only [R10] at h, fun _ _ _ _ h => by simp only [R10_4] at h⟩
  | succ n ih =>
  obtain ⟨ih, ih4⟩ := ih
  refine ⟨?_, ?_⟩
  · intro x0 ds h K q
    rw [R10] at h
    obtain ⟨s0, h⟩ := h
    exact AtV.go tabOk ext10Ok mixed false [] [(5, Ty.cons Ty.str (Ty.cons Ty.str (Ty.cons Ty.str Ty.unit)))] [5, 17, 18, 19] [1, 0] [] (a1 s0 trivial) (ih4 _ _ _ _ h K q) (by kernel_rfl)

  · intro v19 h0 x0 ds h K q
    rw [R10_4] at h
    by_cases b0 : (Decidable.decide (v19 < (↑(List.length (g17_0 x0)) : Int))) = true
    · rw [if_pos b0] at h
      obtain ⟨s0, s1, h⟩ := h
      obtain ⟨s2, h⟩ := h
      by_cases b1 : (v19 == 0) = true
      · rw [if_pos b1] at h
        obtain ⟨s3, h⟩ := h
        exact AtV.go tabOk ext10Ok mixed false [] [(5, Ty.cons Ty.str (Ty.cons Ty.str (Ty.cons Ty.str Ty.unit)))] [5, 17, 18, 19] [0, 1] [true, true, true] (a1 b0 (a1 s0 (a1 s1 (a1 s2 (a1 b1 (a1 (rfl : Bool.true = Bool.true) (a1 s3 trivial))))))) (ih4 _ _ _ _ h K q) (by kernel_rfl)
      · rw [if_neg b1] at h
        replace b1 := Bool.eq_false_iff.2 b1
        by_cases b2 : (g18_1 (List.getD (g17_0 x0) (Int.toNat v19) ByteArray.empty) != 0) = true
        · rw [if_pos b2] at h
          obtain ⟨s3, h⟩ := h
          exact AtV.go tabOk ext10Ok mixed false [] [(5, Ty.cons Ty.str (Ty.cons Ty.str (Ty.cons Ty.str Ty.unit)))] [5, 17, 18, 19] [0, 1] [true, false, true] (a1 b0 (a1 s0 (a1 s1 (a1 s2 (a1 b1 (a1 b2 (a1 s3 trivial))))))) (ih4 _ _ _ _ h K q) (by kernel_rfl)
        · rw [if_neg b2] at h
          replace b2 := Bool.eq_false_iff.2 b2
          obtain ⟨s3, h⟩ := h
          by_cases b3 : (g20_1 h0 (g18_0 (List.getD (g17_0 x0) (Int.toNat v19) ByteArray.empty)) == 0) = true
          · rw [if_pos b3] at h
            obtain ⟨s4, h⟩ := h
            exact AtV.go tabOk ext10Ok mixed false [] [(5, Ty.cons Ty.str (Ty.cons Ty.str (Ty.cons Ty.str Ty.unit)))] [5, 17, 18, 19] [3, 1] [true, false, false, true] (a1 b0 (a1 s0 (a1 s1 (a1 s2 (a1 b1 (a1 b2 (a1 s3 (a1 b3 (a1 s4 trivial))))))))) (ih4 _ _ _ _ h K q) (by kernel_rfl)
          · rw [if_neg b3] at h
            replace b3 := Bool.eq_false_iff.2 b3
            obtain ⟨s4, h⟩ := h
            exact AtV.go tabOk ext10Ok mixed false [] [(5, Ty.cons Ty.str (Ty.cons Ty.str (Ty.cons Ty.str Ty.unit)))] [5, 17, 18, 19] [0, 1] [true, false, false, false] (a1 b0 (a1 s0 (a1 s1 (a1 s2 (a1 b1 (a1 b2 (a1 s3 (a1 b3 (a1 s4 trivial))))))))) (ih4 _ _ _ _ h K q) (by kernel_rfl)
    · rw [if_neg b0] at h
      replace b0 := Bool.eq_false_iff.2 b0
      subst h
      exact AtV.ret Tryz.func10 tabOk ext10Ok mixed false [] tys10 [false] (a1 b0 trivial) (by kernel_rfl)



def ls10 (x0 : ByteArray) : List ByteArray := g17_0 x0
def st10 (h : List (ByteArray × ByteArray × ByteArray × Unit)) (w : ByteArray) : List (ByteArray × ByteArray × ByteArray × Unit) := if g18_1 w ≠ 0 then h else if g20_1 h (g18_0 w) = 0 then g20_0 h (g18_0 w) else h
def g10_0 (x0 : ByteArray) : List (ByteArray × ByteArray × ByteArray × Unit) := ((ls10 x0).drop 1).foldl st10 []
def P10 (x0 : ByteArray) : Prop := P17 x0 ∧ (ls10 x0).length ≤ 1048577 ∧ ∀ w ∈ ls10 x0, P18 w

theorem put10 (h : List (ByteArray × ByteArray × ByteArray × Unit)) (b : (ByteArray × ByteArray × ByteArray × Unit)) : P20 h b := by
  unfold P20
  cases hv : g36_0 h with
  | false => rw [if_pos (show (!false) = true from rfl)]; trivial
  | true =>
    have hl : h.length ≤ 32 := by
      unfold g36_0 at hv
      rw [Bool.and_eq_true] at hv
      exact of_decide_eq_true hv.2
    rw [if_neg (show ¬ (!true) = true by decide)]
    refine ⟨pre34 b, ?_⟩
    split
    · trivial
    · exact ⟨pre37 h b (by omega), trivial⟩

theorem run10 (x0 : ByteArray) (hl : (ls10 x0).length ≤ 1048577) (hP : ∀ w ∈ ls10 x0, P18 w) : ∀ (k i : Nat) (h : List (ByteArray × ByteArray × ByteArray × Unit)), i + k = (ls10 x0).length → 1 ≤ i →
    R10_4 (k + 1) (i : Int) h x0 [⟨.sl (.cons .str (.cons .str (.cons .str .unit))), ((ls10 x0).drop i).foldl st10 h⟩] := by
  have ew : g17_0 x0 = ls10 x0 := rfl
  intro k
  induction k with
  | zero =>
    intro i h hi h1
    rw [R10_4, ew, if_neg (by simp only [decide_eq_true_eq]; omega), List.drop_of_length_le (by omega)]
    rfl
  | succ k ih =>
    intro i h hi h1
    have hlt : i < (ls10 x0).length := by omega
    have hup : InR .i64 ((i : Int) + 1) := by rw [i64_iff]; omega
    have e1 : (i : Int) + 1 = ((i + 1 : Nat) : Int) := by omega
    have hb := hP _ (mem_getD (ls10 x0) i ByteArray.empty hlt)
    obtain ⟨w, hw⟩ : ∃ w, (ls10 x0).getD i ByteArray.empty = w := ⟨_, rfl⟩
    have hd : (ls10 x0).drop i = w :: (ls10 x0).drop (i + 1) := by rw [drop_get (ls10 x0) i ByteArray.empty hlt, hw]
    rw [hw] at hb
    rw [hd, List.foldl_cons, R10_4, ew, if_pos (by simp only [decide_eq_true_eq]; omega)]
    simp only [Int.toNat_natCast, hw]
    refine ⟨by omega, by omega, hb, ?_⟩
    have hi0 : ((i : Int) == 0) = false := by rw [Bool.eq_false_iff, ne_eq, beq_iff_eq]; omega
    rw [hi0, if_neg (show ¬ false = true by decide)]
    have nx := ih (i + 1) (st10 h w) (by omega) (by omega)
    unfold st10 at nx ⊢
    by_cases hc : g18_1 w = 0
    · have hb0 : (g18_1 w != 0) = false := by rw [hc]; rfl
      rw [hb0, if_neg (show ¬ false = true by decide)]
      rw [if_neg (show ¬ (g18_1 w ≠ 0) from fun hx => hx hc)] at nx ⊢
      refine ⟨put10 h _, ?_⟩
      by_cases hp : g20_1 h (g18_0 w) = 0
      · rw [if_pos (show (g20_1 h (g18_0 w) == 0) = true from by rw [hp]; rfl)]
        rw [if_pos hp] at nx ⊢
        exact ⟨hup, by rw [e1]; exact nx⟩
      · rw [if_neg (show ¬ (g20_1 h (g18_0 w) == 0) = true from fun hh => hp (beq_iff_eq.1 hh))]
        rw [if_neg hp] at nx ⊢
        exact ⟨hup, by rw [e1]; exact nx⟩
    · have hb0 : (g18_1 w != 0) = true := by simpa using hc
      rw [hb0, if_pos rfl]
      rw [if_pos (show g18_1 w ≠ 0 from hc)] at nx ⊢
      exact ⟨hup, by rw [e1]; exact nx⟩

theorem top10 (x0 : ByteArray) (hp : P10 x0) : ∃ n, R10 n x0 [⟨.sl (.cons .str (.cons .str (.cons .str .unit))), g10_0 x0⟩] := by
  obtain ⟨p1, p2, p3⟩ := hp
  have ew : g17_0 x0 = ls10 x0 := rfl
  refine ⟨((ls10 x0).length + 1) + 1, ?_⟩
  rw [R10]
  refine ⟨p1, ?_⟩
  rw [R10_4, ew]
  by_cases h0 : (ls10 x0).length = 0
  · rw [if_neg (by simp only [decide_eq_true_eq]; omega)]
    have : ls10 x0 = [] := List.eq_nil_of_length_eq_zero h0
    unfold g10_0
    rw [this]
    rfl
  · rw [if_pos (by simp only [decide_eq_true_eq]; omega)]
    have hz : Int.toNat 0 = 0 := rfl
    rw [hz]
    refine ⟨by omega, by omega, p3 _ (mem_getD (ls10 x0) 0 ByteArray.empty (by omega)), ?_⟩
    rw [if_pos (show ((0 : Int) == 0) = true from rfl)]
    refine ⟨by rw [i64_iff]; omega, ?_⟩
    have := run10 x0 p2 p3 ((ls10 x0).length - 1) 1 [] (by omega) (by omega)
    rw [show (ls10 x0).length - 1 + 1 = (ls10 x0).length by omega] at this
    exact this

def S10 : Am.Spec := { sig := sig10, pre := fun ⟨x0, _⟩ => P10 x0, res := fun ⟨x0, _⟩ => [⟨.sl (.cons .str (.cons .str (.cons .str .unit))), g10_0 x0⟩] }
theorem con10 : Contract Tryz.prog 10 S10 := contract_of Tryz.func10 hb10 (Nat.le_of_ble_eq_true (by kernel_rfl)) (fun ⟨x0, _⟩ h hwf K q => by
  obtain ⟨n, hn⟩ := top10 x0 h
  exact (snd10 n).1 x0 _ hn K q)

end
end Go.Proofs.YtalgkffjceljiaaGreatDoor

/- Function 11 (laws.r8Same): its runs between cut points. Written by a program of this repo (gen). -/
set_option linter.unusedVariables false
set_option linter.unusedSimpArgs false
set_option maxRecDepth 100000
namespace Go.Proofs.YtalgkffjceljiaaGreatDoor
open Go Go.Am Go.Proofs
noncomputable section
def ext11 : Ext := []
theorem ext11Ok : ExtOk Tryz.prog ext11 := trivial

noncomputable def b11 : Code := bodyOf Tryz.f11
theorem hb11 : Tryz.f11.body = some b11 := by kernel_rfl
def sig11 : List AT := [AT.v (Ty.sl (Ty.int IntKind.i64)), AT.v (Ty.sl (Ty.int IntKind.i64))]
def tys11 : List Ty := [Ty.bool]
def kds11 : List RK := []
def oks11 : List AT := owns sig11
def E11_4 (v5 : Int) (x0 : List Int) (x1 : List Int) : Env := [(0, PV.a (Atom.sl (Ty.int IntKind.i64) x0)), (1, PV.a (Atom.sl (Ty.int IntKind.i64) x1)), (5, PV.a (Atom.val (Value.int IntKind.i64 v5)))]
def L11_4 (v5 : Int) (x0 : List Int) (x1 : List Int) : Heap := []
mutual
def R11 : Nat → List Int → List Int → List Dyn → Prop
  | 0, _, _, _ => False
  | n + 1, x0, x1, ds => (if ((↑(List.length x0) : Int) != (↑(List.length x1) : Int)) = true then (ds = [Dyn.mk Ty.bool Bool.false]) else (R11_4 n (0) (x0) (x1) ds))
def R11_4 : Nat → Int → List Int → List Int → List Dyn → Prop
  | 0, _, _, _, _ => False
  | n + 1, v5, x0, x1, ds => (if (Decidable.decide (v5 < (↑(List.length x0) : Int))) = true then ((0 ≤ v5) ∧ (v5 < (↑(List.length x0) : Int)) ∧ ((0 ≤ v5) ∧ (v5 < (↑(List.length x1) : Int)) ∧ (if (List.getD x0 (Int.toNat v5) 0 != List.getD x1 (Int.toNat v5) 0) = true then (ds = [Dyn.mk Ty.bool Bool.false]) else ((InR IntKind.i64 (v5 + 1)) ∧ (R11_4 n (v5 + 1) (x0) (x1) ds))))) else (ds = [Dyn.mk Ty.bool Bool.true]))
end
theorem snd11 : ∀ n, (∀ (x0 : List Int) (x1 : List Int) ds, R11 n x0 x1 ds → ∀ K q, AtV Tryz.prog 11 (PostR kds11 oks11 ds [] [] q K) 26 K q [] [.code b11] (entE 0 0 sig11 (x0, x1, ())) (entL sig11 (x0, x1, ()))) ∧ (∀ (v5 : Int) (x0 : List Int) (x1 : List Int) ds, R11_4 n v5 x0 x1 ds → ∀ K q, AtV Tryz.prog 11 (PostR kds11 oks11 ds [] [] q K) 26 K q [] (cutAt b11 4) (E11_4 v5 x0 x1) (L11_4 v5 x0 x1)) := by
  intro n
  induction n with
  | zero => exact ⟨fun _ _ _ h => by simp only [R11] at h, fun _ _ _ _ h => by simp only [R11_4] at h⟩
  | succ n ih =>
  obtain ⟨ih, ih4⟩ := ih
  refine ⟨?_, ?_⟩
  · intro x0 x1 ds h K q
    rw [R11] at h
    by_cases b0 : ((↑(List.length x0) : Int) != (↑(List.length x1) : Int)) = true
    · rw [if_pos b0] at h
      subst h
      exact AtV.ret Tryz.func11 tabOk ext11Ok mixed false [] tys11 [true] (a1 b0 trivial) (by kernel_rfl)
    · rw [if_neg b0] at h
      replace b0 := Bool.eq_false_iff.2 b0
      exact AtV.go tabOk ext11Ok mixed false [] [] [0, 1, 5] [] [false] (a1 b0 trivial) (ih4 _ _ _ _ h K q) (by kernel_rfl)

  · intro v5 x0 x1 ds h K q
    rw [R11_4] at h
    by_cases b0 : (Decidable.decide (v5 < (↑(List.length x0) : Int))) = true
    · rw [if_pos b0] at h
      obtain ⟨s0, s1, h⟩ := h
      obtain ⟨s2, s3, h⟩ := h
      by_cases b1 : (List.getD x0 (Int.toNat v5) 0 != List.getD x1 (Int.toNat v5) 0) = true
      · rw [if_pos b1] at h
        subst h
        exact AtV.ret Tryz.func11 tabOk ext11Ok mixed false [] tys11 [true, true] (a1 b0 (a1 s0 (a1 s1 (a1 s2 (a1 s3 (a1 b1 trivial)))))) (by kernel_rfl)
      · rw [if_neg b1] at h
        replace b1 := Bool.eq_false_iff.2 b1
        obtain ⟨s4, h⟩ := h
        exact AtV.go tabOk ext11Ok mixed false [] [] [0, 1, 5] [] [true, false] (a1 b0 (a1 s0 (a1 s1 (a1 s2 (a1 s3 (a1 b1 (a1 s4 trivial))))))) (ih4 _ _ _ _ h K q) (by kernel_rfl)
    · rw [if_neg b0] at h
      replace b0 := Bool.eq_false_iff.2 b0
      subst h
      exact AtV.ret Tryz.func11 tabOk ext11Ok mixed false [] tys11 [false] (a1 b0 trivial) (by kernel_rfl)



theorem eq11 (x0 x1 : List (Int)) (hl : x0.length = x1.length) (hm : x0.length ≤ maxLen) : ∀ k i : Nat, i + k = x0.length → R11_4 (k + 1) (i : Int) x0 x1 [⟨.bool, decide (x0.drop i = x1.drop i)⟩] := by
  intro k
  induction k with
  | zero =>
    intro i hi
    have h1 : ¬ (i : Int) < (x0.length : Int) := by omega
    rw [R11_4, if_neg (by simpa using h1), drop_end x0 i (by omega), drop_end x1 i (by omega)]
    simp
  | succ k ih =>
    intro i hi
    have h1 : (i : Int) < (x0.length : Int) := by omega
    rw [R11_4, if_pos (by simpa using h1)]
    refine ⟨by omega, h1, by omega, by omega, ?_⟩
    simp only [Int.toNat_natCast]
    rw [drop_get x0 i 0 (by omega), drop_get x1 i 0 (by omega)]
    by_cases he : x0.getD i 0 = x1.getD i 0
    · rw [if_neg (by simp only [he, bne_self_eq_false, Bool.false_eq_true, not_false_eq_true])]
      refine ⟨inR_up hm (by omega), ?_⟩
      have := ih (i + 1) (by omega)
      simp only [he, List.cons.injEq, true_and]
      exact this
    · rw [if_pos (by simpa only [bne_iff_ne, ne_eq] using he)]
      simp only [he, List.cons.injEq, false_and, decide_false]

def g11_0 (x0 x1 : List (Int)) : Bool := decide (x0 = x1)
def P11 (x0 x1 : List (Int)) : Prop := True
def S11 : Am.Spec := { sig := sig11, pre := fun ⟨x0, x1, _⟩ => P11 x0 x1, res := fun ⟨x0, x1, _⟩ => [⟨Ty.bool, g11_0 x0 x1⟩] }
theorem con11 : Contract Tryz.prog 11 S11 := contract_of Tryz.func11 hb11 (Nat.le_of_ble_eq_true (by kernel_rfl)) (fun ⟨x0, x1, _⟩ h hwf K q => by
  refine (snd11 (x0.length + 2)).1 x0 x1 _ ?_ K q
  show R11 (x0.length + 1 + 1) x0 x1 [⟨Ty.bool, decide (x0 = x1)⟩]
  rw [R11]
  by_cases hl : x0.length = x1.length
  · rw [if_neg (by simp [hl])]
    have := eq11 x0 x1 hl hwf.1.1 x0.length 0 (by omega)
    simpa using this
  · rw [if_pos (by simp; omega)]
    have : x0 ≠ x1 := fun h => hl (by rw [h])
    simp [this])

end
end Go.Proofs.YtalgkffjceljiaaGreatDoor

/- Function 21 (spec.l29Same): its runs between cut points. Written by a program of this repo (gen). -/
set_option linter.unusedVariables false
set_option linter.unusedSimpArgs false
set_option maxRecDepth 100000
namespace Go.Proofs.YtalgkffjceljiaaGreatDoor
open Go Go.Am Go.Proofs
noncomputable section
def ext21 : Ext := []
theorem ext21Ok : ExtOk Tryz.prog ext21 := trivial

noncomputable def b21 : Code := bodyOf Tryz.f21
theorem hb21 : Tryz.f21.body = some b21 := by kernel_rfl
def sig21 : List AT := [AT.v (Ty.sl (Ty.cons Ty.str (Ty.cons Ty.str (Ty.cons Ty.str Ty.unit)))), AT.v (Ty.sl (Ty.cons Ty.str (Ty.cons Ty.str (Ty.cons Ty.str Ty.unit))))]
def tys21 : List Ty := [Ty.bool]
def kds21 : List RK := []
def oks21 : List AT := owns sig21
def E21_4 (v5 : Int) (x0 : List (ByteArray × ByteArray × ByteArray × Unit)) (x1 : List (ByteArray × ByteArray × ByteArray × Unit)) : Env := [(0, PV.a (Atom.sl (Ty.cons Ty.str (Ty.cons Ty.str (Ty.cons Ty.str Ty.unit))) x0)), (1, PV.a (Atom.sl (Ty.cons Ty.str (Ty.cons Ty.str (Ty.cons Ty.str Ty.unit))) x1)), (5, PV.a (Atom.val (Value.int IntKind.i64 v5)))]
def L21_4 (v5 : Int) (x0 : List (ByteArray × ByteArray × ByteArray × Unit)) (x1 : List (ByteArray × ByteArray × ByteArray × Unit)) : Heap := []
mutual
def R21 : Nat → List (ByteArray × ByteArray × ByteArray × Unit) → List (ByteArray × ByteArray × ByteArray × Unit) → List Dyn → Prop
  | 0, _, _, _ => False
  | n + 1, x0, x1, ds => (if ((↑(List.length x0) : Int) != (↑(List.length x1) : Int)) = true then (ds = [Dyn.mk Ty.bool Bool.false]) else (R21_4 n (0) (x0) (x1) ds))
def R21_4 : Nat → Int → List (ByteArray × ByteArray × ByteArray × Unit) → List (ByteArray × ByteArray × ByteArray × Unit) → List Dyn → Prop
  | 0, _, _, _, _ => False
  | n + 1, v5, x0, x1, ds => (if (Decidable.decide (v5 < (↑(List.length x0) : Int))) = true then ((0 ≤ v5) ∧ (v5 < (↑(List.length x0) : Int)) ∧ ((0 ≤ v5) ∧ (v5 < (↑(List.length x1) : Int)) ∧ (if (!eqD (Ty.cons Ty.str (Ty.cons Ty.str (Ty.cons Ty.str Ty.unit))) (List.getD x0 (Int.toNat v5) (ByteArray.empty, ByteArray.empty, ByteArray.empty, ())) (List.getD x1 (Int.toNat v5) (ByteArray.empty, ByteArray.empty, ByteArray.empty, ()))) = true then (ds = [Dyn.mk Ty.bool Bool.false]) else ((InR IntKind.i64 (v5 + 1)) ∧ (R21_4 n (v5 + 1) (x0) (x1) ds))))) else (ds = [Dyn.mk Ty.bool Bool.true]))
end
theorem snd21 : ∀ n, (∀ (x0 : List (ByteArray × ByteArray × ByteArray × Unit)) (x1 : List (ByteArray × ByteArray × ByteArray × Unit)) ds, R21 n x0 x1 ds → ∀ K q, AtV Tryz.prog 21 (PostR kds21 oks21 ds [] [] q K) 26 K q [] [.code b21] (entE 0 0 sig21 (x0, x1, ())) (entL sig21 (x0, x1, ()))) ∧ (∀ (v5 : Int) (x0 : List (ByteArray × ByteArray × ByteArray × Unit)) (x1 : List (ByteArray × ByteArray × ByteArray × Unit)) ds, R21_4 n v5 x0 x1 ds → ∀ K q, AtV Tryz.prog 21 (PostR kds21 oks21 ds [] [] q K) 26 K q [] (cutAt b21 4) (E21_4 v5 x0 x1) (L21_4 v5 x0 x1)) := by
  intro n
  induction n with
  | zero => exact ⟨fun _ _ _ h => by simp only [R21] at h, fun _ _ _ _ h => by simp only [R21_4] at h⟩
  | succ n ih =>
  obtain ⟨ih, ih4⟩ := ih
  refine ⟨?_, ?_⟩
  · intro x0 x1 ds h K q
    rw [R21] at h
    by_cases b0 : ((↑(List.length x0) : Int) != (↑(List.length x1) : Int)) = true
    · rw [if_pos b0] at h
      subst h
      exact AtV.ret Tryz.func21 tabOk ext21Ok mixed false [] tys21 [true] (a1 b0 trivial) (by kernel_rfl)
    · rw [if_neg b0] at h
      replace b0 := Bool.eq_false_iff.2 b0
      exact AtV.go tabOk ext21Ok mixed false [] [] [0, 1, 5] [] [false] (a1 b0 trivial) (ih4 _ _ _ _ h K q) (by kernel_rfl)

  · intro v5 x0 x1 ds h K q
    rw [R21_4] at h
    by_cases b0 : (Decidable.decide (v5 < (↑(List.length x0) : Int))) = true
    · rw [if_pos b0] at h
      obtain ⟨s0, s1, h⟩ := h
      obtain ⟨s2, s3, h⟩ := h
      by_cases b1 : (!eqD (Ty.cons Ty.str (Ty.cons Ty.str (Ty.cons Ty.str Ty.unit))) (List.getD x0 (Int.toNat v5) (ByteArray.empty, ByteArray.empty, ByteArray.empty, ())) (List.getD x1 (Int.toNat v5) (ByteArray.empty, ByteArray.empty, ByteArray.empty, ()))) = true
      · rw [if_pos b1] at h
        subst h
        exact AtV.ret Tryz.func21 tabOk ext21Ok mixed false [] tys21 [true, true] (a1 b0 (a1 s0 (a1 s1 (a1 s2 (a1 s3 (a1 b1 trivial)))))) (by kernel_rfl)
      · rw [if_neg b1] at h
        replace b1 := Bool.eq_false_iff.2 b1
        obtain ⟨s4, h⟩ := h
        exact AtV.go tabOk ext21Ok mixed false [] [] [0, 1, 5] [] [true, false] (a1 b0 (a1 s0 (a1 s1 (a1 s2 (a1 s3 (a1 b1 (a1 s4 trivial))))))) (ih4 _ _ _ _ h K q) (by kernel_rfl)
    · rw [if_neg b0] at h
      replace b0 := Bool.eq_false_iff.2 b0
      subst h
      exact AtV.ret Tryz.func21 tabOk ext21Ok mixed false [] tys21 [false] (a1 b0 trivial) (by kernel_rfl)



theorem eq21 (x0 x1 : List (ByteArray × ByteArray × ByteArray × Unit)) (hl : x0.length = x1.length) (hm : x0.length ≤ maxLen) : ∀ k i : Nat, i + k = x0.length → R21_4 (k + 1) (i : Int) x0 x1 [⟨.bool, decide (x0.drop i = x1.drop i)⟩] := by
  intro k
  induction k with
  | zero =>
    intro i hi
    have h1 : ¬ (i : Int) < (x0.length : Int) := by omega
    rw [R21_4, if_neg (by simpa using h1), drop_end x0 i (by omega), drop_end x1 i (by omega)]
    simp
  | succ k ih =>
    intro i hi
    have h1 : (i : Int) < (x0.length : Int) := by omega
    rw [R21_4, if_pos (by simpa using h1)]
    refine ⟨by omega, h1, by omega, by omega, ?_⟩
    simp only [Int.toNat_natCast]
    rw [drop_get x0 i (ByteArray.empty, ByteArray.empty, ByteArray.empty, ()) (by omega), drop_get x1 i (ByteArray.empty, ByteArray.empty, ByteArray.empty, ()) (by omega)]
    by_cases he : x0.getD i (ByteArray.empty, ByteArray.empty, ByteArray.empty, ()) = x1.getD i (ByteArray.empty, ByteArray.empty, ByteArray.empty, ())
    · have hd := (eqD_eq (t := (.cons .str (.cons .str (.cons .str .unit)))) rfl).2 he
      rw [if_neg (by rw [hd]; simp)]
      refine ⟨inR_up hm (by omega), ?_⟩
      have := ih (i + 1) (by omega)
      simp only [he, List.cons.injEq, true_and]
      exact this
    · have hd : eqD (.cons .str (.cons .str (.cons .str .unit))) (x0.getD i (ByteArray.empty, ByteArray.empty, ByteArray.empty, ())) (x1.getD i (ByteArray.empty, ByteArray.empty, ByteArray.empty, ())) = false :=
        Bool.eq_false_iff.2 fun h => he ((eqD_eq (t := (.cons .str (.cons .str (.cons .str .unit)))) rfl).1 h)
      rw [if_pos (by rw [hd]; rfl)]
      simp only [he, List.cons.injEq, false_and, decide_false]

def g21_0 (x0 x1 : List (ByteArray × ByteArray × ByteArray × Unit)) : Bool := decide (x0 = x1)
def P21 (x0 x1 : List (ByteArray × ByteArray × ByteArray × Unit)) : Prop := True
def S21 : Am.Spec := { sig := sig21, pre := fun ⟨x0, x1, _⟩ => P21 x0 x1, res := fun ⟨x0, x1, _⟩ => [⟨Ty.bool, g21_0 x0 x1⟩] }
theorem con21 : Contract Tryz.prog 21 S21 := contract_of Tryz.func21 hb21 (Nat.le_of_ble_eq_true (by kernel_rfl)) (fun ⟨x0, x1, _⟩ h hwf K q => by
  refine (snd21 (x0.length + 2)).1 x0 x1 _ ?_ K q
  show R21 (x0.length + 1 + 1) x0 x1 [⟨Ty.bool, decide (x0 = x1)⟩]
  rw [R21]
  by_cases hl : x0.length = x1.length
  · rw [if_neg (by simp [hl])]
    have := eq21 x0 x1 hl hwf.1.1 x0.length 0 (by omega)
    simpa using this
  · rw [if_pos (by simp; omega)]
    have : x0 ≠ x1 := fun h => hl (by rw [h])
    simp [this])

end
end Go.Proofs.YtalgkffjceljiaaGreatDoor

/- Function 12 (spec.SameBlocks): its runs between cut points. Written by a program of this repo (gen). -/
set_option linter.unusedVariables false
set_option linter.unusedSimpArgs false
set_option maxRecDepth 100000
namespace Go.Proofs.YtalgkffjceljiaaGreatDoor
open Go Go.Am Go.Proofs
noncomputable section
def ext12 : Ext := [(21, S21)]
theorem call12_21 : Callable Tryz.prog 21 := ⟨Tryz.f21, Tryz.func21, by kernel_rfl, by kernel_rfl⟩
theorem ext12Ok : ExtOk Tryz.prog ext12 := ⟨⟨call12_21, con21⟩, trivial⟩

noncomputable def b12 : Code := bodyOf Tryz.f12
theorem hb12 : Tryz.f12.body = some b12 := by kernel_rfl
def sig12 : List AT := [AT.v (Ty.sl (Ty.cons Ty.str (Ty.cons Ty.str (Ty.cons Ty.str Ty.unit)))), AT.v (Ty.sl (Ty.cons Ty.str (Ty.cons Ty.str (Ty.cons Ty.str Ty.unit))))]
def tys12 : List Ty := [Ty.bool]
def kds12 : List RK := []
def oks12 : List AT := owns sig12
def P12 (x0 : List (ByteArray × ByteArray × ByteArray × Unit)) (x1 : List (ByteArray × ByteArray × ByteArray × Unit)) : Prop := True
def g12_0 (x0 : List (ByteArray × ByteArray × ByteArray × Unit)) (x1 : List (ByteArray × ByteArray × ByteArray × Unit)) : Bool := g21_0 x0 x1
theorem at12 (x0 : List (ByteArray × ByteArray × ByteArray × Unit)) (x1 : List (ByteArray × ByteArray × ByteArray × Unit)) (h : P12 x0 x1) (K : Ctx) (q : Nat → Value) : AtV Tryz.prog 12 (PostR kds12 oks12 [⟨Ty.bool, g12_0 x0 x1⟩] [] [] q K) 8 K q [] [.code b12] (entE 0 0 sig12 (x0, x1, ())) (entL sig12 (x0, x1, ())) := by
  unfold P12 at h
  unfold g12_0
  exact AtV.ret Tryz.func12 tabOk ext12Ok mixed false [] tys12 [] (a1 trivial trivial) (by kernel_rfl)

def S12 : Am.Spec := { sig := sig12, pre := fun ⟨x0, x1, _⟩ => P12 x0 x1, res := fun ⟨x0, x1, _⟩ => [⟨Ty.bool, g12_0 x0 x1⟩], kds := kds12 }
theorem con12 : Contract Tryz.prog 12 S12 := contract_of Tryz.func12 hb12 (Nat.le_of_ble_eq_true (by kernel_rfl)) (fun ⟨x0, x1, _⟩ h _ K q => at12 x0 x1 h K q)


end
end Go.Proofs.YtalgkffjceljiaaGreatDoor

/- A law that says how functions of the program and of the specification hang together. -/
set_option linter.unusedVariables false
set_option linter.unusedSimpArgs false
set_option maxRecDepth 100000
namespace Go.Proofs.YtalgkffjceljiaaGreatDoor
open Go Go.Am Go.Proofs

def isD (b : UInt8) : Prop := 48 ≤ b.toNat ∧ b.toNat ≤ 57
def dval : List UInt8 → Nat → Nat
  | [], n => n
  | b :: r, n => dval r (10 * n + (b.toNat - 48))
theorem dval_append : ∀ (l : List UInt8) (b : UInt8) (n : Nat), dval (l ++ [b]) n = 10 * dval l n + (b.toNat - 48)
  | [], _, _ => rfl
  | c :: r, b, n => dval_append r b _
theorem dsign_nat {a : Nat} (h : a < 10) : (UInt8.ofNat (48 + a)).toNat = 48 + a := by rw [UInt8.toNat_ofNat']; omega

theorem dec_facts (n : Nat) : (∀ b ∈ Lib.decDigits n, isD b) ∧ dval (Lib.decDigits n) 0 = n ∧ 0 < (Lib.decDigits n).length ∧ (1 ≤ n → ((Lib.decDigits n).getD 0 0).toNat ≠ 48) := by
  induction n using Nat.strongRecOn with
  | _ n ih =>
    by_cases h : n < 10
    · rw [Lib.decDigits, dif_pos h]
      have e := dsign_nat h
      refine ⟨fun b hb => ?_, ?_, by simp, fun h1 => ?_⟩
      · rw [List.mem_singleton.1 hb]; unfold isD; omega
      · show 10 * 0 + ((UInt8.ofNat (48 + n)).toNat - 48) = n; omega
      · show (UInt8.ofNat (48 + n)).toNat ≠ 48; omega
    · rw [Lib.decDigits, dif_neg h]
      obtain ⟨i1, i2, i3, i4⟩ := ih (n / 10) (by omega)
      have e := dsign_nat (a := n % 10) (by omega)
      refine ⟨fun b hb => ?_, ?_, by simp, fun h1 => ?_⟩
      · rcases List.mem_append.1 hb with hb | hb
        · exact i1 b hb
        · rw [List.mem_singleton.1 hb]; unfold isD; omega
      · rw [dval_append, i2, e]; omega
      · have i4 := i4 (by omega)
        cases hd : Lib.decDigits (n / 10) with
        | nil => rw [hd] at i3; simp at i3
        | cons c r => rw [hd] at i4; exact i4

theorem dec_len : ∀ (k n : Nat), n < 10 ^ (k + 1) → (Lib.decDigits n).length ≤ k + 1
  | 0, n, h => by rw [Lib.decDigits, dif_pos (by simpa using h)]; simp
  | k + 1, n, h => by
    rw [Lib.decDigits]
    split
    · simp
    · have := dec_len k (n / 10) (by rw [Nat.pow_succ] at h; omega)
      simp; omega


end Go.Proofs.YtalgkffjceljiaaGreatDoor

/- A law that says how functions of the program and of the specification hang together. -/
set_option linter.unusedVariables false
set_option linter.unusedSimpArgs false
set_option maxRecDepth 100000
namespace Go.Proofs.YtalgkffjceljiaaGreatDoor
open Go Go.Am Go.Proofs

def pz : Nat → Nat → List UInt8
  | 0, _ => []
  | d + 1, n => pz d (n / 10) ++ [UInt8.ofNat (48 + n % 10)]

theorem pz_len : ∀ d n, (pz d n).length = d
  | 0, _ => rfl
  | d + 1, n => by rw [pz, List.length_append, pz_len d]; rfl

theorem pz_zero : ∀ d, pz d 0 = List.replicate d 48
  | 0 => rfl
  | d + 1 => by
    rw [pz, Nat.zero_div, pz_zero d, List.replicate_succ']
    rfl

theorem dec_zeros : ∀ (d n : Nat), 1 ≤ d → n < 10 ^ d → List.replicate (d - (Lib.decDigits n).length) 48 ++ Lib.decDigits n = pz d n
  | 0, _, h, _ => by omega
  | d + 1, n, _, h => by
    rw [pz]
    by_cases hs : n < 10
    · rw [Lib.decDigits, dif_pos hs, show n / 10 = 0 by omega, show n % 10 = n by omega, pz_zero]
      rfl
    · rw [Nat.pow_succ] at h
      have hd : 1 ≤ d := by
        rcases Nat.eq_zero_or_pos d with rfl | hd
        · simp at h; omega
        · exact hd
      have ih := dec_zeros d (n / 10) hd (by omega)
      rw [Lib.decDigits, dif_neg hs, List.length_append, List.length_singleton, Nat.add_sub_add_right, ← List.append_assoc, ih]

theorem pz_all : ∀ (d n : Nat), ∀ b ∈ pz d n, isD b
  | 0, _, b, hb => by cases hb
  | d + 1, n, b, hb => by
    rw [pz] at hb
    rcases List.mem_append.1 hb with hb | hb
    · exact pz_all d _ b hb
    · rw [List.mem_singleton.1 hb]
      have := dsign_nat (a := n % 10) (by omega)
      unfold isD
      omega

theorem pz_val : ∀ (d n : Nat), n < 10 ^ d → ∀ m, dval (pz d n) m = m * 10 ^ d + n
  | 0, n, h, m => by
    obtain rfl : n = 0 := by simpa using h
    show m = _
    simp
  | d + 1, n, h, m => by
    rw [pz, dval_append, Nat.pow_succ] at *
    rw [pz_val d (n / 10) (by omega), dsign_nat (by omega), Nat.mul_add, ← Nat.mul_assoc]
    rw [show 10 * m * 10 ^ d = m * (10 ^ d * 10) by rw [Nat.mul_comm 10 m, Nat.mul_assoc, Nat.mul_comm 10]]
    omega

end Go.Proofs.YtalgkffjceljiaaGreatDoor

/- A law that says how functions of the program and of the specification hang together. -/
set_option linter.unusedVariables false
set_option linter.unusedSimpArgs false
set_option maxRecDepth 100000
namespace Go.Proofs.YtalgkffjceljiaaGreatDoor
open Go Go.Am Go.Proofs

theorem bvn (a : Nat) (h : a < 9223372036854775808) : (BitVec.ofInt 64 (a : Int)).toNat = a := by
  rw [BitVec.toNat_ofInt]
  omega

theorem wrn (a : Nat) (h : a < 9223372036854775808) : IntKind.wrap IntKind.i64 (a : Int) = (a : Int) := wrap_of_inR (by rw [i64_iff]; omega)

theorem bit_bound {s : Int} (h : 0 ≤ s ∧ s ≤ 65535) : 0 ≤ bit47 s ∧ bit47 s ≤ 65535 := by
  obtain ⟨a, rfl⟩ := Int.eq_ofNat_of_zero_le h.1
  unfold bit47
  have e : (a : Int) * 2 = ((a * 2 : Nat) : Int) := by omega
  have e6 : BitVec.ofInt 64 65535 = BitVec.ofInt 64 ((65535 : Nat) : Int) := rfl
  have e7 : BitVec.ofInt 64 4129 = BitVec.ofInt 64 ((4129 : Nat) : Int) := rfl
  rw [e, wrn _ (by omega), e6, e7]
  have h1 : (a * 2) &&& 65535 < 65536 := Nat.lt_of_le_of_lt Nat.and_le_right (by decide)
  have h2 : ((a * 2) &&& 65535) ^^^ 4129 < 2 ^ 16 := Nat.xor_lt_two_pow h1 (by decide)
  split
  · rw [BitVec.toNat_and, bvn (a * 2) (by omega), bvn 65535 (by omega), wrn (a * 2 &&& 65535) (by omega), BitVec.toNat_xor, bvn (a * 2 &&& 65535) (by omega), bvn 4129 (by omega), wrn (a * 2 &&& 65535 ^^^ 4129) (by omega)]
    omega
  · rename_i hc
    have hc' : ¬ ((a * 2 : Nat) : Int) > 65535 := fun hh => hc (decide_eq_true hh)
    omega

theorem bits_bound : ∀ (k : Nat) {s : Int}, 0 ≤ s ∧ s ≤ 65535 → 0 ≤ bits47 k s ∧ bits47 k s ≤ 65535
  | 0, _, h => h
  | k + 1, _, h => bits_bound k (bit_bound h)

theorem byte_bound {s c : Int} (h : 0 ≤ s ∧ s ≤ 65535) (hc : 0 ≤ c ∧ c ≤ 255) : 0 ≤ byte47 s c ∧ byte47 s c ≤ 65535 := by
  refine bits_bound 8 ?_
  obtain ⟨a, rfl⟩ := Int.eq_ofNat_of_zero_le h.1
  obtain ⟨b, rfl⟩ := Int.eq_ofNat_of_zero_le hc.1
  have e : (b : Int) * 256 = ((b * 256 : Nat) : Int) := by omega
  have h2 : a ^^^ (b * 256) < 2 ^ 16 := Nat.xor_lt_two_pow (by omega) (by omega)
  rw [e, wrn (b * 256) (by omega), BitVec.toNat_xor, bvn a (by omega), bvn (b * 256) (by omega), wrn (a ^^^ (b * 256)) (by omega)]
  omega

theorem crc_bound (x : ByteArray) {s : Int} (h : 0 ≤ s ∧ s ≤ 65535) : 0 ≤ g47_0 x s ∧ g47_0 x s ≤ 65535 := by
  unfold g47_0
  have hb := bytesOf_range x
  revert hb
  generalize bytesOf x = l
  revert s
  induction l with
  | nil => intro s h _; exact h
  | cons c r ih =>
    intro s h hb
    rw [List.foldl_cons]
    have hc := hb c (List.mem_cons_self ..)
    exact ih (byte_bound h ⟨hc.1, hc.2⟩) fun b hb' => hb b (List.mem_cons_of_mem _ hb')

theorem crc_eq (x : ByteArray) {s : Int} (h : 0 ≤ s ∧ s ≤ 65535) : g32_0 x s = g47_0 x s := by
  unfold g32_0
  rw [if_neg (by
    have c1 : s ≥ 0 := h.1
    unfold g51_0
    simp [c1, h.2])]
  have e : byte32 = byte47 := by
    funext s c
    unfold byte32 byte47
    have : ∀ (k : Nat) (t : Int), bits32 k t = bits47 k t := by
      intro k
      induction k with
      | zero => intro t; rfl
      | succ k ih => intro t; exact ih _
    exact this 8 _
  rw [e]
  rfl

end Go.Proofs.YtalgkffjceljiaaGreatDoor

/- A law that says how functions of the program and of the specification hang together. -/
set_option linter.unusedVariables false
set_option linter.unusedSimpArgs false
set_option maxRecDepth 100000
namespace Go.Proofs.YtalgkffjceljiaaGreatDoor
open Go Go.Am Go.Proofs

theorem f5_list : ∀ (k : Nat) (l : List UInt8), l.length ≤ 5 → 5 ≤ l.length + k → f546 k ⟨⟨l⟩⟩ = ⟨⟨List.replicate (5 - l.length) 48 ++ l⟩⟩
  | 0, l, h1, h2 => by
    rw [show 5 - l.length = 0 by omega]
    rfl
  | k + 1, l, h1, h2 => by
    unfold f546
    have es : (ByteArray.mk ⟨l⟩).size = l.length := rfl
    rw [es]
    split
    · have e : ByteArray.mk #[48] ++ ByteArray.mk ⟨l⟩ = ⟨⟨48 :: l⟩⟩ := by
        apply ByteArray.ext
        apply Array.ext'
        simp [ByteArray.data_append]
      rw [e, f5_list k (48 :: l) (by simp; omega) (by simp; omega)]
      congr 2
      rw [List.length_cons, show 5 - l.length = (5 - (l.length + 1)) + 1 by omega, List.replicate_succ']
      simp
    · rw [show 5 - l.length = 0 by omega]
      rfl

theorem dec_nat (n : Nat) : g27_0 (n : Int) = ⟨⟨Lib.decDigits n⟩⟩ := by
  show numB _ = _
  unfold numB Lib.itoa
  rw [if_neg (by omega), Int.toNat_natCast]

theorem five_pz {n : Nat} (h : n ≤ 65535) : g46_0 (n : Int) = ⟨⟨pz 5 n⟩⟩ := by
  unfold g46_0
  have hl := dec_len 4 n (by omega)
  rw [dec_nat, f5_list 5 _ (by omega) (by omega), dec_zeros 5 n (by decide) (by omega)]

theorem rep_pz {n : Nat} (h : n ≤ 65535) : g33_0 (ByteArray.mk #[48]) (5 - (((g31_0 (n : Int)).size : Nat) : Int)) ++ g31_0 (n : Int) = ⟨⟨pz 5 n⟩⟩ ∧ (((g31_0 (n : Int)).size : Nat) : Int) ≤ 5 ∧ 1 ≤ (((g31_0 (n : Int)).size : Nat) : Int) := by
  have e : g31_0 (n : Int) = ⟨⟨Lib.decDigits n⟩⟩ := dec_nat n
  have hs : (ByteArray.mk ⟨Lib.decDigits n⟩).size = (Lib.decDigits n).length := rfl
  have hl := dec_len 4 n (by omega)
  have h0 := (dec_facts n).2.2.1
  rw [e, hs]
  refine ⟨?_, by omega, by omega⟩
  have hc : (5 : Int) - ((Lib.decDigits n).length : Int) = ((5 - (Lib.decDigits n).length : Nat) : Int) := by omega
  rw [hc]
  apply ByteArray.ext
  apply Array.ext'
  have hr : Lib.repeatL (List.replicate 1 48) (5 - (Lib.decDigits n).length) = List.replicate (5 - (Lib.decDigits n).length) (48 : UInt8) := by
    rw [Lib.repeatL_replicate, Nat.mul_one]
  unfold g33_0
  rw [Int.toNat_natCast, ByteArray.data_append, Array.toList_append]
  show Lib.repeatL [48] _ ++ Lib.decDigits n = _
  have h48 : ([48] : List UInt8) = List.replicate 1 48 := rfl
  rw [h48, hr, dec_zeros 5 n (by decide) (by omega)]

end Go.Proofs.YtalgkffjceljiaaGreatDoor

/- A law that says how functions of the program and of the specification hang together. -/
set_option linter.unusedVariables false
set_option linter.unusedSimpArgs false
set_option maxRecDepth 100000
namespace Go.Proofs.YtalgkffjceljiaaGreatDoor
open Go Go.Am Go.Proofs

def crcN (r : ByteArray) : Nat := (g47_0 r 65535).toNat
theorem crcN_le (r : ByteArray) : crcN r ≤ 65535 := by
  have := crc_bound r (s := 65535) (by decide)
  unfold crcN; omega
theorem crc_s (r : ByteArray) : g47_0 r 65535 = (crcN r : Int) := by
  have := crc_bound r (s := 65535) (by decide)
  unfold crcN; omega
theorem crc_i (r : ByteArray) : g32_0 r 65535 = (crcN r : Int) := by
  rw [crc_eq r (by decide), crc_s]

def restB (b : (ByteArray × ByteArray × ByteArray × Unit)) : List UInt8 := b.1.data.toList ++ 32 :: b.2.1.data.toList ++ 32 :: b.2.2.1.data.toList
theorem rest_eq (b : (ByteArray × ByteArray × ByteArray × Unit)) : Prod.fst b ++ ByteArray.mk #[32] ++ Prod.fst (Prod.snd b) ++ ByteArray.mk #[32] ++ Prod.fst (Prod.snd (Prod.snd b)) = ⟨⟨restB b⟩⟩ := by
  apply ByteArray.ext
  apply Array.ext'
  simp [ByteArray.data_append, restB]

theorem line_eq (b : (ByteArray × ByteArray × ByteArray × Unit)) : g35_0 b = ⟨⟨pz 5 (crcN ⟨⟨restB b⟩⟩) ++ 32 :: restB b⟩⟩ := by
  unfold g35_0
  rw [rest_eq, crc_i, (rep_pz (crcN_le _)).1]
  apply ByteArray.ext
  apply Array.ext'
  simp [ByteArray.data_append]

theorem rep_size {n : Nat} (h : n ≤ 65535) : (g33_0 (ByteArray.mk #[48]) (5 - (((g31_0 (n : Int)).size : Nat) : Int))).size + (g31_0 (n : Int)).size = 5 := by
  have := congrArg ByteArray.size (rep_pz h).1
  rw [ByteArray.size_append] at this
  have e : (ByteArray.mk ⟨pz 5 n⟩).size = (pz 5 n).length := rfl
  rw [e, pz_len] at this
  exact this

theorem line_pre (b : (ByteArray × ByteArray × ByteArray × Unit)) (h1 : b.1.size ≤ 1048576) (h2 : b.2.1.size ≤ 1048576) (h3 : b.2.2.1.size ≤ 1048576) : P35 b := by
  unfold P35
  have e : g32_0 (Prod.fst b ++ ByteArray.mk #[32] ++ Prod.fst (Prod.snd b) ++ ByteArray.mk #[32] ++ Prod.fst (Prod.snd (Prod.snd b))) 65535 = (crcN ⟨⟨restB b⟩⟩ : Int) := by rw [rest_eq, crc_i]
  rw [e]
  have hn := crcN_le ⟨⟨restB b⟩⟩
  generalize crcN ⟨⟨restB b⟩⟩ = n at *
  have r := rep_size hn
  obtain ⟨_, r2, r3⟩ := rep_pz hn
  have i32 : (ByteArray.mk #[32]).size = 1 := rfl
  have i48 : (((ByteArray.mk #[48]).size : Nat) : Int) = 1 := rfl
  simp only [ByteArray.size_append, i32]
  refine ⟨by omega, by omega, by omega, by omega, ⟨rfl, trivial⟩, by rw [i64_iff]; omega, ⟨by omega, by rw [i48]; omega⟩, by omega, by omega, by omega, trivial⟩


theorem line_size (b : (ByteArray × ByteArray × ByteArray × Unit)) : (g35_0 b).size = b.1.size + b.2.1.size + b.2.2.1.size + 8 := by
  rw [line_eq]
  have e : (ByteArray.mk ⟨pz 5 (crcN ⟨⟨restB b⟩⟩) ++ 32 :: restB b⟩).size = (pz 5 (crcN ⟨⟨restB b⟩⟩) ++ 32 :: restB b).length := rfl
  have e1 : b.1.data.toList.length = b.1.size := rfl
  have e2 : b.2.1.data.toList.length = b.2.1.size := rfl
  have e3 : b.2.2.1.data.toList.length = b.2.2.1.size := rfl
  rw [e]
  unfold restB
  simp only [List.length_append, List.length_cons, pz_len, e1, e2, e3]
  omega

theorem line_both (b : (ByteArray × ByteArray × ByteArray × Unit)) : g28_0 b = g35_0 b ++ ByteArray.mk #[10] := by
  rw [line_eq]
  unfold g28_0
  rw [rest_eq, crc_s, five_pz (crcN_le _)]
  apply ByteArray.ext
  apply Array.ext'
  simp [ByteArray.data_append]

theorem line_spre (b : (ByteArray × ByteArray × ByteArray × Unit)) (h1 : b.1.size ≤ 1048576) (h2 : b.2.1.size ≤ 1048576) (h3 : b.2.2.1.size ≤ 1048576) : P28 b := by
  unfold P28
  rw [rest_eq, crc_s, five_pz (crcN_le _)]
  have i32 : (ByteArray.mk #[32]).size = 1 := rfl
  have i10 : (ByteArray.mk #[10]).size = 1 := rfl
  have s5 : (ByteArray.mk ⟨pz 5 (crcN ⟨⟨restB b⟩⟩)⟩).size = 5 := by
    show (pz 5 _).length = 5
    rw [pz_len]
  have sr : (ByteArray.mk ⟨restB b⟩).size = b.1.size + b.2.1.size + b.2.2.1.size + 2 := by
    have e1 : b.1.data.toList.length = b.1.size := rfl
    have e2 : b.2.1.data.toList.length = b.2.1.size := rfl
    have e3 : b.2.2.1.data.toList.length = b.2.2.1.size := rfl
    show (restB b).length = _
    unfold restB
    simp only [List.length_append, List.length_cons, e1, e2, e3]
    omega
  simp only [ByteArray.size_append, i32, s5, sr]
  exact ⟨by omega, by omega, by omega, by omega, by omega, by omega, by omega, trivial⟩

end Go.Proofs.YtalgkffjceljiaaGreatDoor

/- A law that says how functions of the program and of the specification hang together. -/
set_option linter.unusedVariables false
set_option linter.unusedSimpArgs false
set_option maxRecDepth 100000
namespace Go.Proofs.YtalgkffjceljiaaGreatDoor
open Go Go.Am Go.Proofs
theorem name_eq (s : ByteArray) : g58_0 s = g45_0 s := by
  have hs : ∀ c, g66_0 c = (decide (97 ≤ c) && decide (c ≤ 122)) := fun c => by
    unfold g66_0
    by_cases h1 : (97 : Int) ≤ c <;> simp [h1]
  have hd : ∀ c, g67_0 c = (decide (48 ≤ c) && decide (c ≤ 57)) := fun c => by
    unfold g67_0
    by_cases h1 : (48 : Int) ≤ c <;> simp [h1]
  unfold g58_0 g45_0
  have hl := bytesOf_length s
  by_cases h1 : 1 ≤ s.size
  · cases hb : bytesOf s with
    | nil => rw [hb] at hl; simp at hl; omega
    | cons c r =>
      have hr : allI ok58 1 r = r.all fun b => g66_0 b || g67_0 b := by
        rw [← allI_plain (fun b => g66_0 b || g67_0 b) r 1]
        refine allI_congr r 1 fun j x hj => ?_
        have : (j == 0) = false := by simp; omega
        simp only [ok58, this, hs, hd, Bool.not_false, Bool.true_and]
      have h0 : ok58 0 c = g66_0 c := by simp [ok58, hs]
      simp only [allI, hr, h0, List.all_cons, List.getD_cons_zero]
      cases g66_0 c <;> simp
  · simp [h1]


end Go.Proofs.YtalgkffjceljiaaGreatDoor

/- A law that says how functions of the program and of the specification hang together. -/
set_option linter.unusedVariables false
set_option linter.unusedSimpArgs false
set_option maxRecDepth 100000
namespace Go.Proofs.YtalgkffjceljiaaGreatDoor
open Go Go.Am Go.Proofs

theorem index_one (c : UInt8) : ∀ s : List UInt8, Lib.index s [c] = Lib.indexByte s c
  | [] => rfl
  | b :: l => by
    have e : (List.isPrefixOf [c] (b :: l)) = (b == c) := by
      simp only [List.isPrefixOf, Bool.and_true]
      exact Bool.beq_comm
    rw [Lib.index, Lib.indexByte, index_one c l, e]

theorem contains_one (s : List UInt8) (c : UInt8) : Lib.contains s [c] = s.contains c := by
  rw [Lib.contains_iff_indexByte, Lib.contains, index_one]

theorem contains_nl (s : ByteArray) : (!g59_0 s (ByteArray.mk #[10])) = (bytesOf s).all fun b => !(b == 10) := by
  unfold g59_0
  rw [show (ByteArray.mk #[10]).data.toList = [10] from rfl, contains_one]
  show (!s.data.toList.contains 10) = ((s.data.toList.map fun b => (b.toNat : Int)).all fun b => !(b == 10))
  induction s.data.toList with
  | nil => rfl
  | cons c r ih =>
    rw [List.contains_cons, Bool.not_or, ih, List.map_cons, List.all_cons]
    congr 2
    by_cases h : c = 10
    · subst h; rfl
    · have h1 : ((10 : UInt8) == c) = false := by simp; exact fun e => h e.symm
      have h2 : ((c.toNat : Int) == 10) = false := by
        rw [beq_eq_false_iff_ne]
        intro e
        exact h (UInt8.toNat_inj.1 (by show c.toNat = 10; omega))
      rw [h1, h2]

theorem block_eq (x : ByteArray × ByteArray × ByteArray × Unit) : g34_0 x = g25_0 x := by
  obtain ⟨a, b, t, u⟩ := x
  unfold g34_0 g25_0
  simp only [name_eq, ← contains_nl]
  have hc : decide ((t.size : Int) ≤ 400) = decide (t.size ≤ 400) := by
    congr 1; exact propext ⟨fun h => by omega, fun h => by omega⟩
  rw [hc]
  cases g45_0 a <;> cases g45_0 b <;> cases decide (t.size ≤ 400) <;> cases g59_0 t (ByteArray.mk #[10]) <;> rfl

end Go.Proofs.YtalgkffjceljiaaGreatDoor

/- A law that says how functions of the program and of the specification hang together. -/
set_option linter.unusedVariables false
set_option linter.unusedSimpArgs false
set_option maxRecDepth 100000
namespace Go.Proofs.YtalgkffjceljiaaGreatDoor
open Go Go.Am Go.Proofs

theorem bit_val (a : Nat) (ha : a ≤ 65535) : bit47 (a : Int) = if a * 2 > 65535 then (((a * 2 - 65536) ^^^ 4129 : Nat) : Int) else ((a * 2 : Nat) : Int) := by
  unfold bit47
  have e : (a : Int) * 2 = ((a * 2 : Nat) : Int) := by omega
  have e6 : BitVec.ofInt 64 65535 = BitVec.ofInt 64 ((65535 : Nat) : Int) := rfl
  have e7 : BitVec.ofInt 64 4129 = BitVec.ofInt 64 ((4129 : Nat) : Int) := rfl
  rw [e, wrn _ (by omega), e6, e7]
  have hm : (a * 2) &&& 65535 = (a * 2) % 65536 := Nat.and_two_pow_sub_one_eq_mod (a * 2) 16
  have h1 : (a * 2) &&& 65535 < 65536 := Nat.lt_of_le_of_lt Nat.and_le_right (by decide)
  have h2 : ((a * 2) &&& 65535) ^^^ 4129 < 2 ^ 16 := Nat.xor_lt_two_pow h1 (by decide)
  by_cases hc : a * 2 > 65535
  · rw [if_pos hc, if_pos (decide_eq_true (by omega))]
    rw [BitVec.toNat_and, bvn (a * 2) (by omega), bvn 65535 (by omega), wrn (a * 2 &&& 65535) (by omega), BitVec.toNat_xor, bvn (a * 2 &&& 65535) (by omega), bvn 4129 (by omega), wrn (a * 2 &&& 65535 ^^^ 4129) (by omega), hm]
    have : a * 2 % 65536 = a * 2 - 65536 := by omega
    rw [this]
  · rw [if_neg hc, if_neg (by simp only [decide_eq_true_eq]; omega)]

theorem xor_same {a b k : Nat} (h : a ^^^ k = b ^^^ k) : a = b := by
  have := congrArg (fun x => x ^^^ k) h
  simpa [Nat.xor_assoc] using this

theorem bit_injN {a b : Nat} (ha : a ≤ 65535) (hb : b ≤ 65535) (h : bit47 (a : Int) = bit47 (b : Int)) : a = b := by
  rw [bit_val a ha, bit_val b hb] at h
  have odd : ∀ x y : Nat, (2 * x) ^^^ 4129 ≠ 2 * y := fun x y e => by
    have := congrArg (fun z => z.testBit 0) e
    simp [Nat.testBit_xor] at this
  by_cases h1 : a * 2 > 65535 <;> by_cases h2 : b * 2 > 65535
  · rw [if_pos h1, if_pos h2] at h
    have := xor_same (Int.ofNat.inj h)
    omega
  · rw [if_pos h1, if_neg h2] at h
    have h := Int.ofNat.inj h
    exact absurd (show (2 * (a - 32768)) ^^^ 4129 = 2 * b by rw [show 2 * (a - 32768) = a * 2 - 65536 by omega, h]; omega) (odd _ _)
  · rw [if_neg h1, if_pos h2] at h
    have h := Int.ofNat.inj h
    exact absurd (show (2 * (b - 32768)) ^^^ 4129 = 2 * a by rw [show 2 * (b - 32768) = b * 2 - 65536 by omega, ← h]; omega) (odd _ _)
  · rw [if_neg h1, if_neg h2] at h
    have := Int.ofNat.inj h
    omega

theorem bit_inj {s t : Int} (hs : 0 ≤ s ∧ s ≤ 65535) (ht : 0 ≤ t ∧ t ≤ 65535) (h : bit47 s = bit47 t) : s = t := by
  obtain ⟨a, rfl⟩ := Int.eq_ofNat_of_zero_le hs.1
  obtain ⟨b, rfl⟩ := Int.eq_ofNat_of_zero_le ht.1
  rw [bit_injN (by omega) (by omega) h]

theorem bits_inj : ∀ (k : Nat) {s t : Int}, 0 ≤ s ∧ s ≤ 65535 → 0 ≤ t ∧ t ≤ 65535 → bits47 k s = bits47 k t → s = t
  | 0, _, _, _, _, h => h
  | k + 1, _, _, hs, ht, h => bit_inj hs ht (bits_inj k (bit_bound hs) (bit_bound ht) h)

theorem byte_val (a b : Nat) (ha : a ≤ 65535) (hb : b ≤ 255) : byte47 (a : Int) (b : Int) = bits47 8 ((a ^^^ (b * 256) : Nat) : Int) ∧ a ^^^ (b * 256) ≤ 65535 := by
  have e : (b : Int) * 256 = ((b * 256 : Nat) : Int) := by omega
  have h2 : a ^^^ (b * 256) < 2 ^ 16 := Nat.xor_lt_two_pow (by omega) (by omega)
  unfold byte47
  rw [e, wrn (b * 256) (by omega), BitVec.toNat_xor, bvn a (by omega), bvn (b * 256) (by omega), wrn (a ^^^ (b * 256)) (by omega)]
  exact ⟨rfl, by omega⟩

theorem byte_inj {a c b d : Nat} (ha : a ≤ 65535) (hc : c ≤ 65535) (hb : b ≤ 255) (hd : d ≤ 255) (h : byte47 (a : Int) (b : Int) = byte47 (c : Int) (d : Int)) : a ^^^ (b * 256) = c ^^^ (d * 256) := by
  obtain ⟨e1, l1⟩ := byte_val a b ha hb
  obtain ⟨e2, l2⟩ := byte_val c d hc hd
  rw [e1, e2] at h
  have h3 := bits_inj 8 (s := ((a ^^^ (b * 256) : Nat) : Int)) (t := ((c ^^^ (d * 256) : Nat) : Int)) ⟨by omega, by omega⟩ ⟨by omega, by omega⟩ h
  omega

theorem fold_inj : ∀ (l : List UInt8) {s t : Int}, 0 ≤ s ∧ s ≤ 65535 → 0 ≤ t ∧ t ≤ 65535 → (l.map fun b => (b.toNat : Int)).foldl byte47 s = (l.map fun b => (b.toNat : Int)).foldl byte47 t → s = t
  | [], _, _, _, _, h => h
  | b :: r, s, t, hs, ht, h => by
    have hb : b.toNat ≤ 255 := by have := b.toNat_lt; omega
    rw [List.map_cons, List.foldl_cons, List.foldl_cons] at h
    have h1 := fold_inj r (byte_bound hs ⟨by omega, by omega⟩) (byte_bound ht ⟨by omega, by omega⟩) h
    obtain ⟨a, rfl⟩ := Int.eq_ofNat_of_zero_le hs.1
    obtain ⟨c, rfl⟩ := Int.eq_ofNat_of_zero_le ht.1
    rw [xor_same (byte_inj (by omega) (by omega) hb hb h1)]

theorem crc_change (l1 l2 : List UInt8) (x y : UInt8) (h : g47_0 ⟨⟨l1 ++ x :: l2⟩⟩ 65535 = g47_0 ⟨⟨l1 ++ y :: l2⟩⟩ 65535) : x = y := by
  have hx : x.toNat ≤ 255 := by have := x.toNat_lt; omega
  have hy : y.toNat ≤ 255 := by have := y.toNat_lt; omega
  unfold g47_0 at h
  have e : ∀ z : UInt8, bytesOf ⟨⟨l1 ++ z :: l2⟩⟩ = l1.map (fun b => (b.toNat : Int)) ++ (z.toNat : Int) :: l2.map (fun b => (b.toNat : Int)) := fun z => by
    show (l1 ++ z :: l2).map _ = _
    rw [List.map_append, List.map_cons]
  rw [e, e, List.foldl_append, List.foldl_append, List.foldl_cons, List.foldl_cons] at h
  have hs := crc_bound ⟨⟨l1⟩⟩ (s := 65535) (by decide)
  have es : g47_0 ⟨⟨l1⟩⟩ 65535 = (l1.map (fun b => (b.toNat : Int))).foldl byte47 65535 := rfl
  rw [es] at hs
  generalize (l1.map (fun b => (b.toNat : Int))).foldl byte47 65535 = s at h hs
  have h1 := fold_inj l2 (byte_bound hs ⟨by omega, by omega⟩) (byte_bound hs ⟨by omega, by omega⟩) h
  obtain ⟨a, rfl⟩ := Int.eq_ofNat_of_zero_le hs.1
  have h2 := byte_inj (by omega) (by omega) hx hy h1
  rw [Nat.xor_comm a, Nat.xor_comm a] at h2
  have := xor_same h2
  exact UInt8.toNat_inj.1 (by omega)

end Go.Proofs.YtalgkffjceljiaaGreatDoor

/- A law that says how functions of the program and of the specification hang together. -/
set_option linter.unusedVariables false
set_option linter.unusedSimpArgs false
set_option maxRecDepth 100000
namespace Go.Proofs.YtalgkffjceljiaaGreatDoor
open Go Go.Am Go.Proofs

theorem cut_at {p : List UInt8} (q : List UInt8) (h : (32 : UInt8) ∉ p) : g30_0 ⟨⟨p ++ 32 :: q⟩⟩ (ByteArray.mk #[32]) = ⟨⟨p⟩⟩ ∧ g30_1 ⟨⟨p ++ 32 :: q⟩⟩ (ByteArray.mk #[32]) = ⟨⟨q⟩⟩ := by
  have hc : Lib.cut (ByteArray.mk ⟨p ++ 32 :: q⟩).data.toList (ByteArray.mk #[32]).data.toList = (p, q, true) := cut_hit 32 q h
  unfold g30_0 g30_1
  rw [hc]
  exact ⟨rfl, rfl⟩

theorem ext_of (l : List UInt8) (a b : Nat) : ByteArray.extract ⟨⟨l⟩⟩ a b = ⟨⟨(l.drop a).take (b - a)⟩⟩ := Lib.extract_mk l a b

theorem ifT2 {c : Prop} [Decidable c] {Q : Prop} (h : ¬ c → Q) : if c then True else Q := by
  by_cases hc : c
  · rw [if_pos hc]; trivial
  · rw [if_neg hc]; exact h hc

theorem cut_size (t s : ByteArray) : (g30_0 t s).size ≤ t.size ∧ (g30_1 t s).size ≤ t.size := by
  obtain ⟨l1, l2⟩ := cutLen30 t.data.toList s.data.toList
  have e : t.data.toList.length = t.size := rfl
  have a1 : (g30_0 t s).size = (Lib.cut t.data.toList s.data.toList).1.length := by
    show (List.toArray _).size = _
    rw [List.size_toArray]
  have a2 : (g30_1 t s).size = (Lib.cut t.data.toList s.data.toList).2.1.length := by
    show (List.toArray _).size = _
    rw [List.size_toArray]
  omega

theorem parse_pre (x : ByteArray) (h : x.size ≤ 1048576) : P18 x := by
  unfold P18
  refine ifT2 fun h1 => ?_
  have h1' : ¬ (x.size : Int) < 6 := fun hh => h1 (decide_eq_true hh)
  have hr : (ByteArray.extract x 6 (Int.toNat ((x.size : Nat) : Int))).size ≤ 1048576 := by rw [ByteArray.size_extract]; omega
  generalize ByteArray.extract x 6 (Int.toNat ((x.size : Nat) : Int)) = rs at *
  obtain ⟨k1, k2⟩ := cut_size rs (ByteArray.mk #[32])
  obtain ⟨k3, k4⟩ := cut_size (g30_1 rs (ByteArray.mk #[32])) (ByteArray.mk #[32])
  rw [crc_i]
  have hn := crcN_le rs
  generalize crcN rs = n at *
  have r := rep_size hn
  obtain ⟨_, r2, r3⟩ := rep_pz hn
  have i48 : (((ByteArray.mk #[48]).size : Nat) : Int) = 1 := rfl
  refine ⟨by omega, ifT2 fun _ => ⟨by omega, (show rs.size < 4294967281 by omega), (show (g30_1 rs (ByteArray.mk #[32])).size < 4294967281 by omega), by omega, ⟨rfl, trivial⟩, by omega, by rw [i64_iff]; omega, ⟨by omega, by rw [i48]; omega⟩, by omega, ifT2 fun _ => ⟨pre34 _, ifT2 fun _ => ⟨line_pre _ (by show (g30_0 rs (ByteArray.mk #[32])).size ≤ _; omega) (by show (g30_0 (g30_1 rs (ByteArray.mk #[32])) (ByteArray.mk #[32])).size ≤ _; omega) (by show (g30_1 (g30_1 rs (ByteArray.mk #[32])) (ByteArray.mk #[32])).size ≤ _; omega), trivial⟩⟩⟩⟩

theorem pz_inj {m n : Nat} (hm : m ≤ 65535) (hn : n ≤ 65535) (h : pz 5 m = pz 5 n) : m = n := by
  have a := pz_val 5 m (by omega) 0
  have b := pz_val 5 n (by omega) 0
  rw [h, b] at a
  omega

theorem name_free {x : ByteArray} (h : g45_0 x = true) {c : UInt8} (hc : c.toNat < 48) : c ∉ x.data.toList := fun hm => by
  unfold g45_0 at h
  rw [Bool.and_eq_true] at h
  have := List.all_eq_true.1 h.2 (c.toNat : Int) (List.mem_map.2 ⟨c, hm, rfl⟩)
  unfold g66_0 g67_0 at this
  rw [if_neg (by simp only [decide_eq_true_eq]; omega), if_neg (by simp only [decide_eq_true_eq]; omega)] at this
  cases this

theorem name_size {x : ByteArray} (h : g45_0 x = true) : x.size ≤ 10 := by
  unfold g45_0 at h
  simp only [Bool.and_eq_true, decide_eq_true_eq] at h
  omega

theorem one_parts {b : (ByteArray × ByteArray × ByteArray × Unit)} (h : g25_0 b = true) : (g45_0 b.1 = true ∧ g45_0 b.2.1 = true) ∧ (10 : UInt8) ∉ b.2.2.1.data.toList ∧ b.2.2.1.size ≤ 400 := by
  unfold g25_0 at h
  simp only [Bool.and_eq_true, decide_eq_true_eq] at h
  obtain ⟨⟨⟨h1, h2⟩, h3⟩, h4⟩ := h
  refine ⟨⟨h2, h3⟩, fun hm => ?_, h4⟩
  have := List.all_eq_true.1 h1 10 (List.mem_map.2 ⟨10, hm, rfl⟩)
  cases this

def lineL (b : (ByteArray × ByteArray × ByteArray × Unit)) : List UInt8 := pz 5 (crcN ⟨⟨restB b⟩⟩) ++ 32 :: restB b

theorem line_mk (b : (ByteArray × ByteArray × ByteArray × Unit)) : g35_0 b = ⟨⟨lineL b⟩⟩ := line_eq b

theorem lineL_len (b : (ByteArray × ByteArray × ByteArray × Unit)) : (lineL b).length = 6 + (restB b).length := by
  unfold lineL
  rw [List.length_append, pz_len, List.length_cons]
  omega

theorem line_free {b : (ByteArray × ByteArray × ByteArray × Unit)} (h : g25_0 b = true) : (10 : UInt8) ∉ lineL b := by
  obtain ⟨⟨h1, h2⟩, h3, _⟩ := one_parts h
  have a1 := name_free h1 (c := 10) (by decide)
  have a2 := name_free h2 (c := 10) (by decide)
  intro hm
  unfold lineL restB at hm
  simp only [List.mem_append, List.mem_cons] at hm
  have hz : (10 : UInt8) ∉ pz 5 (crcN ⟨⟨restB b⟩⟩) := fun hm => by
    have := pz_all _ _ _ hm
    unfold isD at this
    exact absurd this.1 (by decide)
  have h32 : ¬ (10 : UInt8) = 32 := by decide
  unfold restB at hz
  simp only [h32, false_or] at hm
  rcases hm with hm | hm | hm
  · exact hz hm
  · rcases hm with hm | hm
    · exact a1 hm
    · exact a2 hm
  · exact h3 hm

theorem head_parts {l r : List UInt8} (hl : l.length = 5) : ByteArray.extract ⟨⟨l ++ 32 :: r⟩⟩ 6 (l ++ 32 :: r).length = ⟨⟨r⟩⟩ ∧ ByteArray.extract ⟨⟨l ++ 32 :: r⟩⟩ 0 5 = ⟨⟨l⟩⟩ ∧ (l ++ 32 :: r).getD 5 0 = 32 := by
  refine ⟨?_, ?_, ?_⟩
  · rw [ext_of, show l ++ 32 :: r = (l ++ [32]) ++ r by simp, List.drop_left' (by simp [hl])]
    congr 2
    exact List.take_of_length_le (by simp; omega)
  · rw [ext_of, List.drop_zero, List.take_left' (by omega)]
  · rw [List.getD_eq_getElem?_getD, List.getElem?_append_right (by omega), hl]
    rfl

theorem read_line {b : (ByteArray × ByteArray × ByteArray × Unit)} (h : g25_0 b = true) : g18_0 ⟨⟨lineL b⟩⟩ = b ∧ g18_1 ⟨⟨lineL b⟩⟩ = 0 := by
  obtain ⟨⟨h1, h2⟩, h3, _⟩ := one_parts h
  have a1 := name_free h1 (c := 32) (by decide)
  have a2 := name_free h2 (c := 32) (by decide)
  have hn := crcN_le ⟨⟨restB b⟩⟩
  obtain ⟨e6, e0, e5⟩ := head_parts (r := restB b) (pz_len 5 (crcN ⟨⟨restB b⟩⟩))
  have hs : (ByteArray.mk ⟨lineL b⟩).size = (lineL b).length := rfl
  have hlen := lineL_len b
  have e6' : ByteArray.extract ⟨⟨lineL b⟩⟩ 6 (lineL b).length = ⟨⟨restB b⟩⟩ := e6
  have e0' : ByteArray.extract ⟨⟨lineL b⟩⟩ 0 5 = ⟨⟨pz 5 (crcN ⟨⟨restB b⟩⟩)⟩⟩ := e0
  have e5' : (lineL b).getD 5 0 = 32 := e5
  have hd : (ByteArray.mk ⟨lineL b⟩).data.toList = lineL b := rfl
  have hb : restB b = b.1.data.toList ++ 32 :: (b.2.1.data.toList ++ 32 :: b.2.2.1.data.toList) := by simp [restB]
  have k := cut_at (b.2.1.data.toList ++ 32 :: b.2.2.1.data.toList) a1
  rw [← hb] at k
  have k2 := cut_at b.2.2.1.data.toList a2
  have c1 : decide (((lineL b).length : Int) < 6) = false := decide_eq_false (by omega)
  have c2 : ((((32 : UInt8).toNat : Nat) : Int) != 32) = false := rfl
  have hbb : ((⟨⟨b.1.data.toList⟩⟩, ⟨⟨b.2.1.data.toList⟩⟩, ⟨⟨b.2.2.1.data.toList⟩⟩, ()) : (ByteArray × ByteArray × ByteArray × Unit)) = b := rfl
  unfold g18_0 g18_1
  simp only [hs, Int.toNat_natCast, hd, e6', e0', e5', c1, c2, crc_i, (rep_pz hn).1, k.1, k.2, k2.1, k2.2, hbb, block_eq, h, line_mk, Bool.false_eq_true, if_false, beq_self_eq_true, Bool.not_true, and_self]

theorem read_ok {x : List UInt8} (h : g18_1 ⟨⟨x⟩⟩ = 0) : ∃ r, x = pz 5 (crcN ⟨⟨r⟩⟩) ++ 32 :: r := by
  have hs : (ByteArray.mk ⟨x⟩).size = x.length := rfl
  have hd : (ByteArray.mk ⟨x⟩).data.toList = x := rfl
  unfold g18_1 at h
  rw [hs, hd, Int.toNat_natCast] at h
  by_cases h1 : x.length < 6
  · rw [if_pos (decide_eq_true (by omega))] at h; exact absurd h (by decide)
  rw [if_neg (by simp only [decide_eq_true_eq]; omega)] at h
  by_cases h2 : ((((x.getD 5 0).toNat : Nat) : Int) != 32) = true
  · rw [if_pos h2] at h; exact absurd h (by decide)
  rw [if_neg h2] at h
  have h2' : x.getD 5 0 = 32 := by
    simp only [bne_iff_ne, ne_eq, Decidable.not_not] at h2
    exact UInt8.toNat_inj.1 (by show (x.getD 5 0).toNat = 32; omega)
  have e6 : ByteArray.extract ⟨⟨x⟩⟩ 6 x.length = ⟨⟨x.drop 6⟩⟩ := by
    rw [ext_of, List.take_of_length_le (by rw [List.length_drop]; omega)]
  rw [e6, crc_i, (rep_pz (crcN_le _)).1, ext_of, List.drop_zero] at h
  by_cases h3 : (!ByteArray.toList (ByteArray.mk ⟨x.take (5 - 0)⟩) == ByteArray.toList ⟨⟨pz 5 (crcN ⟨⟨x.drop 6⟩⟩)⟩⟩) = true
  · rw [if_pos h3] at h; exact absurd h (by decide)
  have h3' : (ByteArray.mk ⟨x.take (5 - 0)⟩) = ⟨⟨pz 5 (crcN ⟨⟨x.drop 6⟩⟩)⟩⟩ := by
    rw [Bool.not_eq_true, Bool.not_eq_false'] at h3
    exact (bytes_eq _ _).1 h3
  have h3'' : x.take 5 = pz 5 (crcN ⟨⟨x.drop 6⟩⟩) := congrArg (fun y : ByteArray => y.data.toList) h3'
  refine ⟨x.drop 6, ?_⟩
  have e : x.drop 5 = 32 :: x.drop 6 := by
    have e := drop_get x 5 0 (by omega)
    rw [h2'] at e
    exact e
  rw [← h3'', ← e, List.take_append_drop]

theorem change_bad (b : (ByteArray × ByteArray × ByteArray × Unit)) (p : Nat) (v : UInt8) (hp : p < (lineL b).length) (hv : v ≠ (lineL b).getD p 0) : g18_1 ⟨⟨(lineL b).set p v⟩⟩ ≠ 0 := fun h => by
  obtain ⟨r, hr⟩ := read_ok h
  have hl := pz_len 5 (crcN ⟨⟨restB b⟩⟩)
  have hl2 := pz_len 5 (crcN ⟨⟨r⟩⟩)
  have hlen := lineL_len b
  have hg : ((lineL b).set p v).getD p 0 = v := by
    rw [List.getD_eq_getElem?_getD, List.getElem?_set_self hp]; rfl
  unfold lineL at hr hv
  by_cases h1 : p < 5
  · rw [List.set_append_left _ _ (by omega)] at hr
    obtain ⟨e1, e2⟩ := List.append_inj hr (by rw [List.length_set, hl, hl2])
    have e2 : restB b = r := (List.cons.inj e2).2
    rw [← e2] at e1
    apply hv
    rw [List.getD_eq_getElem?_getD, List.getElem?_append_left (by omega), ← List.getD_eq_getElem?_getD]
    rw [← e1, List.getD_eq_getElem?_getD, List.getElem?_set_self (by omega)]
    rfl
  · rw [List.set_append_right _ _ (by omega), hl] at hr
    obtain ⟨e1, e2⟩ := List.append_inj hr (by rw [hl, hl2])
    by_cases h2 : p = 5
    · subst h2
      have e2 : v :: restB b = 32 :: r := e2
      apply hv
      rw [(List.cons.inj e2).1, List.getD_eq_getElem?_getD, List.getElem?_append_right (by omega), hl]
      rfl
    · have e3 : p - 5 = (p - 6) + 1 := by omega
      rw [e3, List.set_cons_succ] at e2
      have e2 : (restB b).set (p - 6) v = r := (List.cons.inj e2).2
      have e4 := pz_inj (crcN_le _) (crcN_le _) e1
      have hq : p - 6 < (restB b).length := by omega
      have s1 : restB b = (restB b).take (p - 6) ++ (restB b).getD (p - 6) 0 :: (restB b).drop (p - 6 + 1) := by
        rw [← drop_get _ _ _ hq, List.take_append_drop]
      have s2 : r = (restB b).take (p - 6) ++ v :: (restB b).drop (p - 6 + 1) := by
        rw [← e2, List.set_eq_take_append_cons_drop, if_pos hq]
      have := crc_change ((restB b).take (p - 6)) ((restB b).drop (p - 6 + 1)) ((restB b).getD (p - 6) 0) v (by
        have e7 : g47_0 ⟨⟨restB b⟩⟩ 65535 = g47_0 ⟨⟨r⟩⟩ 65535 := by rw [crc_s, crc_s, e4]
        rw [← s1, ← s2]
        exact e7)
      apply hv
      rw [← this, List.getD_eq_getElem?_getD, List.getD_eq_getElem?_getD, List.getElem?_append_right (by omega), hl, e3]
      rfl

end Go.Proofs.YtalgkffjceljiaaGreatDoor

/- A law that says how functions of the program and of the specification hang together. -/
set_option linter.unusedVariables false
set_option linter.unusedSimpArgs false
set_option maxRecDepth 100000
namespace Go.Proofs.YtalgkffjceljiaaGreatDoor
open Go Go.Am Go.Proofs

theorem getD_left {α : Type} (a b : List α) (i : Nat) (d : α) (h : i < a.length) : (a ++ b).getD i d = a.getD i d := by
  rw [List.getD_eq_getElem?_getD, List.getD_eq_getElem?_getD, List.getElem?_append_left h]
theorem getD_right {α : Type} (a b : List α) (i : Nat) (d : α) (h : a.length ≤ i) : (a ++ b).getD i d = b.getD (i - a.length) d := by
  rw [List.getD_eq_getElem?_getD, List.getD_eq_getElem?_getD, List.getElem?_append_right h]

def enc : List (List UInt8) → List UInt8
  | [] => []
  | l :: r => l ++ 10 :: enc r

theorem split_enc : ∀ (ls : List (List UInt8)), (∀ l ∈ ls, (10 : UInt8) ∉ l) → splitC 10 (enc ls) = ls ++ [[]]
  | [], _ => rfl
  | l :: r, h => by
    rw [enc, splitC_hit 10 (enc r) (h l (List.mem_cons_self ..)), split_enc r fun m hm => h m (List.mem_cons_of_mem _ hm)]
    rfl

theorem count_free {l : List UInt8} (h : (10 : UInt8) ∉ l) : l.count 10 = 0 := List.count_eq_zero.2 h

theorem enc_at : ∀ (ls : List (List UInt8)) (i : Nat) (v : UInt8), (∀ l ∈ ls, (10 : UInt8) ∉ l) → i < (enc ls).length → (enc ls).getD i 0 ≠ 10 →
    ∃ j p, j < ls.length ∧ p < (ls.getD j []).length ∧ (enc ls).getD i 0 = (ls.getD j []).getD p 0 ∧ (enc ls).set i v = enc (ls.set j ((ls.getD j []).set p v)) ∧ ((enc ls).take i).count 10 = j
  | [], i, v, _, h, _ => by simp [enc] at h
  | l :: r, i, v, hf, h, hn => by
    have hl := hf l (List.mem_cons_self ..)
    by_cases h1 : i < l.length
    · refine ⟨0, i, by simp, by simpa using h1, ?_, ?_, ?_⟩
      · show (l ++ 10 :: enc r).getD i 0 = l.getD i 0
        rw [getD_left _ _ _ _ h1]
      · show (l ++ 10 :: enc r).set i v = l.set i v ++ 10 :: enc r
        rw [List.set_append_left _ _ h1]
      · show ((l ++ 10 :: enc r).take i).count 10 = 0
        rw [List.take_append_of_le_length (by omega)]
        exact count_free fun hm => hl (List.mem_of_mem_take hm)
    · by_cases h2 : i = l.length
      · subst h2
        exfalso
        apply hn
        show (l ++ 10 :: enc r).getD l.length 0 = 10
        rw [getD_right _ _ _ _ (Nat.le_refl _), Nat.sub_self]
        rfl
      · have h3 : i - l.length - 1 < (enc r).length := by
          simp only [enc, List.length_append, List.length_cons] at h
          omega
        have e1 : i - l.length = (i - l.length - 1) + 1 := by omega
        have eg : (enc (l :: r)).getD i 0 = (enc r).getD (i - l.length - 1) 0 := by
          show (l ++ 10 :: enc r).getD i 0 = _
          rw [getD_right _ _ _ _ (by omega), e1]
          rfl
        obtain ⟨j, p, a1, a2, a3, a4, a5⟩ := enc_at r (i - l.length - 1) v (fun m hm => hf m (List.mem_cons_of_mem _ hm)) h3 (by rw [← eg]; exact hn)
        refine ⟨j + 1, p, by simpa using a1, by simpa using a2, by rw [eg, a3]; rfl, ?_, ?_⟩
        · show (l ++ 10 :: enc r).set i v = l ++ 10 :: enc (r.set j ((r.getD j []).set p v))
          rw [List.set_append_right _ _ (by omega), e1, List.set_cons_succ, a4]
        · show ((l ++ 10 :: enc r).take i).count 10 = j + 1
          rw [List.take_append, e1, List.take_succ_cons, List.take_of_length_le (by omega), List.count_append, count_free hl, List.count_cons_self, a5]
          omega

end Go.Proofs.YtalgkffjceljiaaGreatDoor

/- A law that says how functions of the program and of the specification hang together. -/
set_option linter.unusedVariables false
set_option linter.unusedSimpArgs false
set_option maxRecDepth 100000
namespace Go.Proofs.YtalgkffjceljiaaGreatDoor
open Go Go.Am Go.Proofs

theorem nan (s : ByteArray) : g96_0 s = false := by simp [g96_0]

theorem cmp_str (a b : ByteArray) : g79_0 a b = if Op.bytesLess (ByteArray.toList a) (ByteArray.toList b) = true then -1 else if (ByteArray.toList a == ByteArray.toList b) = true then 0 else 1 := by
  unfold g79_0
  simp only [nan, Bool.false_eq_true, if_false]
  cases Op.bytesLess (ByteArray.toList a) (ByteArray.toList b) <;> cases (ByteArray.toList a == ByteArray.toList b) <;> rfl

theorem before_cmp (a b : ByteArray × ByteArray × ByteArray × Unit) : (!decide (g60_0 a b ≥ 0)) = g26_0 a b := by
  unfold g60_0 g26_0
  simp only [g78_0, cmp_str]
  cases Op.bytesLess (ByteArray.toList a.1) (ByteArray.toList b.1) <;> cases (ByteArray.toList a.1 == ByteArray.toList b.1) <;> cases Op.bytesLess (ByteArray.toList a.2.1) (ByteArray.toList b.2.1) <;> cases (ByteArray.toList a.2.1 == ByteArray.toList b.2.1) <;> decide


end Go.Proofs.YtalgkffjceljiaaGreatDoor

/- A law that says how functions of the program and of the specification hang together. -/
set_option linter.unusedVariables false
set_option linter.unusedSimpArgs false
set_option maxRecDepth 100000
namespace Go.Proofs.YtalgkffjceljiaaGreatDoor
open Go Go.Am Go.Proofs

theorem blocks_eq (x : List (ByteArray × ByteArray × ByteArray × Unit)) : g36_0 x = g15_0 x := by
  unfold g36_0 g15_0
  congr 1
  refine allI_congr x 0 fun j y _ => ?_
  unfold ok36 ok15
  rw [block_eq, before_cmp]

end Go.Proofs.YtalgkffjceljiaaGreatDoor

/- A law that says how functions of the program and of the specification hang together. -/
set_option linter.unusedVariables false
set_option linter.unusedSimpArgs false
set_option maxRecDepth 100000
namespace Go.Proofs.YtalgkffjceljiaaGreatDoor
open Go Go.Am Go.Proofs

theorem cmp_lt (a b : (ByteArray × ByteArray × ByteArray × Unit)) : decide (g60_0 a b < 0) = g26_0 a b := by
  rw [← before_cmp]
  by_cases h : g60_0 a b < 0
  · have : ¬ g60_0 a b ≥ 0 := by omega
    simp [h]
  · have : g60_0 a b ≥ 0 := by omega
    simp [h, this]

theorem cmp_eq (a b : (ByteArray × ByteArray × ByteArray × Unit)) : (g60_0 a b == 0) = true ↔ twins a b := by
  unfold twins g60_0
  simp only [g78_0, cmp_str]
  rw [← bytes_eq, ← bytes_eq]
  have irr : ∀ s t : ByteArray, (ByteArray.toList s == ByteArray.toList t) = true → Op.bytesLess (ByteArray.toList s) (ByteArray.toList t) = false := fun s t h => by
    rw [(bytes_eq s t).1 h]; exact bl_irrefl _
  cases h1 : (ByteArray.toList a.1 == ByteArray.toList b.1) with
  | true =>
    rw [irr _ _ h1]
    cases h2 : (ByteArray.toList a.2.1 == ByteArray.toList b.2.1) with
    | true => rw [irr _ _ h2]; decide
    | false => cases Op.bytesLess (ByteArray.toList a.2.1) (ByteArray.toList b.2.1) <;> decide
  | false => cases Op.bytesLess (ByteArray.toList a.1) (ByteArray.toList b.1) <;> simp

end Go.Proofs.YtalgkffjceljiaaGreatDoor

/- A law that says how functions of the program and of the specification hang together. -/
set_option linter.unusedVariables false
set_option linter.unusedSimpArgs false
set_option maxRecDepth 100000
namespace Go.Proofs.YtalgkffjceljiaaGreatDoor
open Go Go.Am Go.Proofs

theorem bsearch_at (p : Nat → Bool) (k N : Nat) (hk : ∀ i, i < N → p i = decide (i < k)) : ∀ (m i j : Nat), j - i < m → i ≤ k → k ≤ j → j ≤ N → bsearch p m i j = k
  | 0, i, j, h, _, _, _ => by omega
  | m + 1, i, j, h, h1, h2, h3 => by
    simp only [bsearch]
    split
    · rw [hk _ (by omega)]
      split
      · rename_i h4
        simp only [decide_eq_true_eq] at h4
        exact bsearch_at p k N hk m _ _ (by omega) (by omega) h2 h3
      · rename_i h4
        simp only [decide_eq_true_eq] at h4
        exact bsearch_at p k N hk m _ _ (by omega) h1 (by omega) (by omega)
    · omega

end Go.Proofs.YtalgkffjceljiaaGreatDoor

/- A law that says how functions of the program and of the specification hang together. -/
set_option linter.unusedVariables false
set_option linter.unusedSimpArgs false
set_option maxRecDepth 100000
namespace Go.Proofs.YtalgkffjceljiaaGreatDoor
open Go Go.Am Go.Proofs

theorem placeS (x : List (ByteArray × ByteArray × ByteArray × Unit)) (t : (ByteArray × ByteArray × ByteArray × Unit)) (hs : Srt x) :
    k80c60 x t ≤ x.length ∧
    (∀ i, i < k80c60 x t → g26_0 (x.getD i (ByteArray.empty, ByteArray.empty, ByteArray.empty, ())) t = true) ∧
    (∀ i, k80c60 x t ≤ i → i < x.length → g26_0 (x.getD i (ByteArray.empty, ByteArray.empty, ByteArray.empty, ())) t = false) := by
  have hp : ∀ i, p80c60 x t i = g26_0 (x.getD i (ByteArray.empty, ByteArray.empty, ByteArray.empty, ())) t := fun i => cmp_lt _ _
  obtain ⟨k, hk1, hk2⟩ := cut_atS (p80c60 x t) x.length (fun i j hij hj h => by
    rw [hp] at h ⊢
    exact before_trans (hs i j hij hj) h)
  have e : k80c60 x t = k := bsearch_at _ k x.length hk2 _ _ _ (by omega) (by omega) hk1 (Nat.le_refl _)
  rw [e]
  refine ⟨hk1, fun i hi => ?_, fun i hi hl => ?_⟩
  · rw [← hp, hk2 i (by omega)]; simpa using hi
  · rw [← hp, hk2 i hl]; simpa using hi


theorem put_eq (x : List (ByteArray × ByteArray × ByteArray × Unit)) (t : (ByteArray × ByteArray × ByteArray × Unit)) (hs : Srt x) : g37_0 x t = g39_0 x t ∧ Srt (g39_0 x t) := by
  obtain ⟨p1, p2, p3⟩ := placeS x t hs
  have e := put_at x t hs _ p1 p2 p3
  have eb : g62_1 x t = true ↔ k80c60 x t < x.length ∧ twins (x.getD (k80c60 x t) (ByteArray.empty, ByteArray.empty, ByteArray.empty, ())) t := by
    unfold g62_1 g80c60_1 f80c60
    by_cases h : k80c60 x t < x.length
    · rw [if_pos h, cmp_eq]; exact ⟨fun hh => ⟨h, hh⟩, fun hh => hh.2⟩
    · rw [if_neg h]; exact ⟨fun hh => (by cases hh), fun hh => absurd hh.1 h⟩
  have e0 : g62_0 x t = ((k80c60 x t : Nat) : Int) := rfl
  generalize k80c60 x t = K at *
  rw [e]
  constructor
  · show (if g62_1 x t = true then x.set (g62_0 x t).toNat t else g63_0 x (g62_0 x t) [t]) = _
    rw [e0]
    by_cases h : K < x.length ∧ twins (x.getD K (ByteArray.empty, ByteArray.empty, ByteArray.empty, ())) t
    · rw [if_pos (eb.2 h), if_pos h, Int.toNat_natCast, List.set_eq_take_append_cons_drop, if_pos h.1]
    · rw [if_neg (fun hh => h (eb.1 hh)), if_neg h]
      unfold g63_0
      rw [Int.toNat_natCast]
      rfl
  · have low : ∀ y ∈ x.take K, g26_0 y t = true := fun y hy => by
      obtain ⟨i, hi, _, rfl⟩ := mem_take_get hy
      exact p2 i hi
    split
    · rename_i h
      refine srt_join (srt_take hs K) (srt_drop hs _) low (fun y hy => ?_)
      obtain ⟨i, hi, hl, rfl⟩ := mem_drop_get hy
      exact before_right h.2 (hs K i (by omega) hl)
    · rename_i h
      refine srt_join (srt_take hs K) (srt_drop hs _) low (fun y hy => ?_)
      obtain ⟨i, hi, hl, rfl⟩ := mem_drop_get hy
      refine before_tri (p3 i hi hl) (fun ht => ?_)
      rcases Nat.lt_or_ge K i with hlt | hge
      · have := before_left ht (hs K i hlt hl)
        rw [p3 K (Nat.le_refl _) (by omega)] at this
        cases this
      · have : i = K := by omega
        subst this
        exact h ⟨hl, ht⟩

end Go.Proofs.YtalgkffjceljiaaGreatDoor

/- A law that says how functions of the program and of the specification hang together. -/
set_option linter.unusedVariables false
set_option linter.unusedSimpArgs false
set_option maxRecDepth 100000
namespace Go.Proofs.YtalgkffjceljiaaGreatDoor
open Go Go.Am Go.Proofs

theorem srt_cross {a c : List (ByteArray × ByteArray × ByteArray × Unit)} (h : Srt (a ++ c)) : ∀ y ∈ a, ∀ z ∈ c, g26_0 y z = true := fun y hy z hz => by
  obtain ⟨i, hi, rfl⟩ := List.mem_iff_getElem.1 hy
  obtain ⟨j, hj, rfl⟩ := List.mem_iff_getElem.1 hz
  have := h i (a.length + j) (by omega) (by rw [List.length_append]; omega)
  rw [getD_left _ _ _ _ hi, getD_right _ _ _ _ (by omega), Nat.add_sub_cancel_left, getD_lt a i _ hi, getD_lt c j _ hj] at this
  exact this

theorem srt_left {a c : List (ByteArray × ByteArray × ByteArray × Unit)} (h : Srt (a ++ c)) : Srt a := by
  have := srt_take h a.length
  rwa [List.take_left' rfl] at this
theorem srt_right {a c : List (ByteArray × ByteArray × ByteArray × Unit)} (h : Srt (a ++ c)) : Srt c := by
  have := srt_drop h a.length
  rwa [List.drop_left' rfl] at this

theorem ok_pre {a c : List (ByteArray × ByteArray × ByteArray × Unit)} (h : g15_0 (a ++ c) = true) : g15_0 a = true :=
  ok_of_srt (fun y hy => ok_one h y (List.mem_append_left _ hy)) (srt_left (ok_srt h)) (by have := (sorted _ h).1; rw [List.length_append] at this; omega)

theorem ok_less {a c : List (ByteArray × ByteArray × ByteArray × Unit)} {b : (ByteArray × ByteArray × ByteArray × Unit)} (h : g15_0 (a ++ b :: c) = true) : g15_0 (a ++ c) = true := by
  have hs := ok_srt h
  have hl := (sorted _ h).1
  rw [List.length_append, List.length_cons] at hl
  refine ok_of_srt (fun y hy => ok_one h y ?_) ?_ (by rw [List.length_append]; omega)
  · rcases List.mem_append.1 hy with hy | hy
    · exact List.mem_append_left _ hy
    · exact List.mem_append_right _ (List.mem_cons_of_mem _ hy)
  · have hc : Srt (b :: c) := srt_right hs
    cases c with
    | nil => rw [List.append_nil]; exact srt_left hs
    | cons d r =>
      have hd : Srt (d :: r) := srt_right (a := [b]) hc
      exact srt_join (srt_left hs) (srt_right (a := [d]) hd) (fun y hy => srt_cross hs y hy d (by simp)) (fun y hy => srt_cross (a := [d]) hd d (by simp) y hy)

theorem put_end {x : List (ByteArray × ByteArray × ByteArray × Unit)} {t : (ByteArray × ByteArray × ByteArray × Unit)} (h : g15_0 (x ++ [t]) = true) : g20_1 x t = 0 ∧ g20_0 x t = x ++ [t] := by
  have hs := ok_srt h
  have hl := (sorted _ h).1
  rw [List.length_append, List.length_singleton] at hl
  obtain ⟨e, _⟩ := put_eq x t (srt_left hs)
  have e2 := put_at x t (srt_left hs) x.length (Nat.le_refl _) (fun i hi => srt_cross hs _ (mem_getD x i (ByteArray.empty, ByteArray.empty, ByteArray.empty, ()) hi) t (by simp)) (fun i h1 h2 => absurd h2 (by omega))
  rw [if_neg (fun hh => absurd hh.1 (Nat.lt_irrefl _)), List.take_length, List.drop_length] at e2
  have ht := ok_one h t (by simp)
  unfold g20_1 g20_0
  rw [blocks_eq, block_eq, ok_pre h, ht, e, e2]
  have hn : ¬ ((x ++ [t]).length : Int) > 32 := by rw [List.length_append, List.length_singleton]; omega
  rw [decide_eq_false hn]
  exact ⟨rfl, rfl⟩

def lineM (b : (ByteArray × ByteArray × ByteArray × Unit)) : ByteArray := ⟨⟨lineL b⟩⟩

theorem salvage_run : ∀ (l h : List (ByteArray × ByteArray × ByteArray × Unit)), g15_0 (h ++ l) = true → (l.map lineM).foldl st10 h = h ++ l
  | [], h, _ => by simp
  | b :: r, h, hk => by
    have hk2 : g15_0 ((h ++ [b]) ++ r) = true := by simpa using hk
    obtain ⟨p1, p2⟩ := put_end (ok_pre hk2)
    obtain ⟨r1, r2⟩ := read_line (ok_one hk b (by simp))
    have e : st10 h (lineM b) = h ++ [b] := by
      unfold st10 lineM
      rw [r1, r2, if_neg (fun hh => hh rfl), p1, if_pos rfl, p2]
    rw [List.map_cons, List.foldl_cons, e, salvage_run r (h ++ [b]) hk2]
    simp

theorem salvage_with {a c : List (ByteArray × ByteArray × ByteArray × Unit)} {b : (ByteArray × ByteArray × ByteArray × Unit)} {y : ByteArray} (hk : g15_0 (a ++ b :: c) = true) (hy : g18_1 y ≠ 0) : (a.map lineM ++ y :: c.map lineM).foldl st10 [] = a ++ c := by
  have e : st10 a y = a := by
    unfold st10
    rw [if_pos hy]
  rw [List.foldl_append, salvage_run a [] (ok_pre hk), List.nil_append, List.foldl_cons, e, salvage_run c a (ok_less hk)]

theorem dm_ok : ∀ (l : List (ByteArray × ByteArray × ByteArray × Unit)) (i : Nat), (∀ b ∈ l, g25_0 b = true) → dm9 i (l.map lineM) = []
  | [], _, _ => rfl
  | b :: r, i, h => by
    rw [List.map_cons]
    unfold dm9
    have r2 := (read_line (h b (by simp))).2
    have e : (g18_1 (lineM b) != 0) = false := by unfold lineM; rw [r2]; rfl
    rw [dm_ok r (i + 1) fun z hz => h z (List.mem_cons_of_mem _ hz), e]
    simp

theorem dm_with {c : List (ByteArray × ByteArray × ByteArray × Unit)} {y : ByteArray} (hc : ∀ b ∈ c, g25_0 b = true) (hy : g18_1 y ≠ 0) : ∀ (a : List (ByteArray × ByteArray × ByteArray × Unit)) (i : Nat), 0 < i → (∀ b ∈ a, g25_0 b = true) → dm9 i (a.map lineM ++ y :: c.map lineM) = [((i + a.length : Nat) : Int) + 1]
  | [], i, hi, _ => by
    rw [List.map_nil, List.nil_append]
    unfold dm9
    have e : (g18_1 y != 0) = true := by simpa using hy
    rw [if_pos (decide_eq_true (by omega)), if_pos e, dm_ok c _ hc]
    simp
  | b :: r, i, hi, h => by
    rw [List.map_cons, List.cons_append]
    unfold dm9
    have r2 := (read_line (h b (by simp))).2
    have e : (g18_1 (lineM b) != 0) = false := by unfold lineM; rw [r2]; rfl
    rw [dm_with hc hy r (i + 1) (by omega) fun z hz => h z (List.mem_cons_of_mem _ hz), e]
    simp
    omega

def hdrL (x : List (ByteArray × ByteArray × ByteArray × Unit)) : List UInt8 := [97, 114, 99, 104, 105, 118, 101, 32] ++ Lib.decDigits x.length

theorem hdr_free (x : List (ByteArray × ByteArray × ByteArray × Unit)) : (10 : UInt8) ∉ hdrL x := fun h => by
  unfold hdrL at h
  rcases List.mem_append.1 h with h | h
  · revert h; decide
  · have := (dec_facts x.length).1 _ h
    unfold isD at this
    exact absurd this.1 (by decide)

theorem save_fold : ∀ (l : List (ByteArray × ByteArray × ByteArray × Unit)) (o : List UInt8), l.foldl (fun o b => o ++ g28_0 b) (ByteArray.mk ⟨o⟩) = ⟨⟨o ++ enc (l.map lineL)⟩⟩
  | [], o => by simp [enc]
  | b :: r, o => by
    have e : ByteArray.mk ⟨o⟩ ++ g28_0 b = ⟨⟨o ++ (lineL b ++ [10])⟩⟩ := by
      rw [line_both, line_mk]
      apply ByteArray.ext
      apply Array.ext'
      simp [ByteArray.data_append]
    rw [List.foldl_cons, e, save_fold r]
    simp [enc]

theorem save_enc (x : List (ByteArray × ByteArray × ByteArray × Unit)) : g16_0 x = ⟨⟨enc (hdrL x :: x.map lineL)⟩⟩ := by
  have e : hd16 x = ⟨⟨hdrL x ++ [10]⟩⟩ := by
    unfold hd16
    rw [dec_nat]
    apply ByteArray.ext
    apply Array.ext'
    simp [ByteArray.data_append, hdrL]
  unfold g16_0
  rw [e, save_fold]
  simp [enc]

theorem ended_enc (ls : List (List UInt8)) (h : ∀ l ∈ ls, (10 : UInt8) ∉ l) : g29_0 ⟨⟨enc ls⟩⟩ (ByteArray.mk #[10]) = ls.map (fun l => (⟨⟨l⟩⟩ : ByteArray)) ++ [⟨⟨[]⟩⟩] ∧ g17_0 ⟨⟨enc ls⟩⟩ = ls.map (fun l => (⟨⟨l⟩⟩ : ByteArray)) ∧ g17_1 ⟨⟨enc ls⟩⟩ = ⟨⟨[]⟩⟩ := by
  have e : g29_0 ⟨⟨enc ls⟩⟩ (ByteArray.mk #[10]) = ls.map (fun l => (⟨⟨l⟩⟩ : ByteArray)) ++ [⟨⟨[]⟩⟩] := by
    have e := splitB_one 10 ⟨⟨enc ls⟩⟩
    have e2 : splitC 10 (ByteArray.mk ⟨enc ls⟩).data.toList = ls ++ [[]] := split_enc ls h
    rw [e2] at e
    refine Eq.trans e ?_
    unfold bss
    rw [List.map_append]
    rfl
  refine ⟨e, ?_, ?_⟩
  · unfold g17_0
    rw [e, List.drop_zero]
    exact List.take_left' (by simp)
  · unfold g17_1
    rw [e, getD_right _ _ _ _ (by simp)]
    have : (((ls.map (fun l => (⟨⟨l⟩⟩ : ByteArray)) ++ [ByteArray.mk ⟨[]⟩]).length : Int) - 1).toNat - (ls.map (fun l => (⟨⟨l⟩⟩ : ByteArray))).length = 0 := by
      simp
    rw [this]
    rfl

theorem enc_len : ∀ (ls : List (List UInt8)) (n : Nat), (∀ l ∈ ls, l.length ≤ n) → (enc ls).length ≤ ls.length * (n + 1) ∧ ls.length ≤ (enc ls).length
  | [], _, _ => ⟨Nat.zero_le _, Nat.le_refl _⟩
  | l :: r, n, h => by
    obtain ⟨h1, h2⟩ := enc_len r n fun m hm => h m (List.mem_cons_of_mem _ hm)
    have h0 := h l (by simp)
    rw [enc, List.length_append, List.length_cons, List.length_cons, Nat.succ_mul]
    omega

theorem lines_ok {x : List (ByteArray × ByteArray × ByteArray × Unit)} (hk : g15_0 x = true) : (∀ l ∈ hdrL x :: x.map lineL, (10 : UInt8) ∉ l ∧ l.length ≤ 500) ∧ x.length ≤ 32 := by
  have hl := (sorted _ hk).1
  refine ⟨fun l hl2 => ?_, hl⟩
  rcases List.mem_cons.1 hl2 with rfl | hl2
  · refine ⟨hdr_free x, ?_⟩
    unfold hdrL
    have := dec_len 4 x.length (by omega)
    rw [List.length_append]
    simp only [List.length_cons, List.length_nil]
    omega
  · obtain ⟨b, hb, rfl⟩ := List.mem_map.1 hl2
    have h1 := ok_one hk b hb
    obtain ⟨⟨n1, n2⟩, _, n3⟩ := one_parts h1
    refine ⟨line_free h1, ?_⟩
    rw [lineL_len]
    have e1 : b.1.data.toList.length = b.1.size := rfl
    have e2 : b.2.1.data.toList.length = b.2.1.size := rfl
    have e3 : b.2.2.1.data.toList.length = b.2.2.1.size := rfl
    have s1 := name_size n1
    have s2 := name_size n2
    unfold restB
    simp only [List.length_append, List.length_cons, e1, e2, e3]
    omega

def txtL (x : List (ByteArray × ByteArray × ByteArray × Unit)) : List UInt8 := enc (hdrL x :: x.map lineL)

theorem txt_len {x : List (ByteArray × ByteArray × ByteArray × Unit)} (hk : g15_0 x = true) : 1 ≤ (txtL x).length ∧ (txtL x).length ≤ 20000 := by
  obtain ⟨h1, h2⟩ := lines_ok hk
  obtain ⟨h3, h4⟩ := enc_len _ 500 fun l hl => (h1 l hl).2
  unfold txtL
  simp only [List.length_cons, List.length_map] at h3 h4
  omega

theorem save_law {x : List (ByteArray × ByteArray × ByteArray × Unit)} (hk : g15_0 x = true) : P6 x ∧ g6_0 x = ⟨⟨txtL x⟩⟩ := by
  unfold P6 g6_0
  rw [hk]
  have hl := (sorted _ hk).1
  refine ⟨?_, save_enc x⟩
  rw [if_neg (show ¬ (!true) = true by decide)]
  refine ⟨⟨by omega, fun b hb => ?_⟩, trivial⟩
  obtain ⟨⟨n1, n2⟩, _, n3⟩ := one_parts (ok_one hk b hb)
  have s1 := name_size n1
  have s2 := name_size n2
  refine ⟨line_spre b (by omega) (by omega) (by omega), ?_⟩
  rw [line_both, ByteArray.size_append, line_size]
  have i10 : (ByteArray.mk #[10]).size = 1 := rfl
  omega

theorem text_pre (x : ByteArray) (ls : List (List UInt8)) (e : x = ⟨⟨enc ls⟩⟩) (h : ∀ l ∈ ls, (10 : UInt8) ∉ l) (hn : (enc ls).length ≤ 20000) : P9 x ∧ P10 x := by
  subst e
  obtain ⟨e1, e2, e3⟩ := ended_enc ls h
  have hs : (ByteArray.mk ⟨enc ls⟩).size = (enc ls).length := rfl
  have hlen : ls.length ≤ (enc ls).length ∧ ∀ l ∈ ls, l.length ≤ (enc ls).length := by
    clear e1 e2 e3 hs hn h
    induction ls with
    | nil => exact ⟨Nat.le_refl _, fun l hl => by cases hl⟩
    | cons a r ih =>
      rw [enc, List.length_append, List.length_cons, List.length_cons]
      refine ⟨by omega, fun l hl => ?_⟩
      rcases List.mem_cons.1 hl with rfl | hl
      · omega
      · have := ih.2 l hl; omega
  have hP : P17 ⟨⟨enc ls⟩⟩ := by
    unfold P17
    rw [e1]
    simp only [List.length_append, List.length_map, List.length_singleton]
    exact ⟨⟨by omega, Nat.le_refl 1⟩, by rw [i64_iff]; omega, by omega, by omega, by omega, by omega, trivial⟩
  have hb : ∀ w ∈ ls.map (fun l => (⟨⟨l⟩⟩ : ByteArray)), P18 w := fun w hw => by
    obtain ⟨l, hl, rfl⟩ := List.mem_map.1 hw
    have := hlen.2 l hl
    exact parse_pre _ (by show l.length ≤ _; omega)
  refine ⟨⟨hP, ?_, ?_⟩, ⟨hP, ?_, ?_⟩⟩
  · rw [e2, List.length_map]; omega
  · rw [e2]; exact hb
  · unfold ls10; rw [e2, List.length_map]; omega
  · unfold ls10; rw [e2]; exact hb

theorem salv_law {x : List (ByteArray × ByteArray × ByteArray × Unit)} (hk : g15_0 x = true) {i j : Nat} {v : UInt8} (hi : i < (txtL x).length) (h0 : (txtL x).getD i 0 ≠ 10) (h1 : v ≠ 10) (hv : v ≠ (txtL x).getD i 0) (hj : ((txtL x).take i).count 10 = j) (hj1 : 1 ≤ j) :
    j ≤ x.length ∧ P9 ⟨⟨(txtL x).set i v⟩⟩ ∧ P10 ⟨⟨(txtL x).set i v⟩⟩ ∧ g9_0 ⟨⟨(txtL x).set i v⟩⟩ = [(j : Int) + 1] ∧ g10_0 ⟨⟨(txtL x).set i v⟩⟩ = x.take (j - 1) ++ x.drop j := by
  obtain ⟨hf, hl⟩ := lines_ok hk
  obtain ⟨j', p, a1, a2, a3, a4, a5⟩ := enc_at (hdrL x :: x.map lineL) i v (fun l hl => (hf l hl).1) hi h0
  have hjj : j' = j := by rw [← a5, ← hj]; rfl
  subst hjj
  obtain ⟨k, rfl⟩ : ∃ k, j' = k + 1 := ⟨j' - 1, by omega⟩
  have hkl : k < x.length := by simpa using a1
  have hg : (hdrL x :: x.map lineL).getD (k + 1) [] = lineL (x.getD k (ByteArray.empty, ByteArray.empty, ByteArray.empty, ())) := by
    rw [List.getD_cons_succ, List.getD_eq_getElem?_getD, List.getElem?_map, List.getD_eq_getElem?_getD, List.getElem?_eq_getElem hkl]
    rfl
  rw [hg] at a2 a3 a4
  have hb := change_bad (x.getD k (ByteArray.empty, ByteArray.empty, ByteArray.empty, ())) p v a2 (by rw [← a3]; exact hv)
  have hx : x = x.take k ++ x.getD k (ByteArray.empty, ByteArray.empty, ByteArray.empty, ()) :: x.drop (k + 1) := by rw [← drop_get x k _ hkl, List.take_append_drop]
  have hset : (hdrL x :: x.map lineL).set (k + 1) ((lineL (x.getD k (ByteArray.empty, ByteArray.empty, ByteArray.empty, ()))).set p v) = hdrL x :: ((x.take k).map lineL ++ (lineL (x.getD k (ByteArray.empty, ByteArray.empty, ByteArray.empty, ()))).set p v :: (x.drop (k + 1)).map lineL) := by
    rw [List.set_cons_succ, List.set_eq_take_append_cons_drop, if_pos (by rw [List.length_map]; exact hkl), List.map_take, List.map_drop]
  have hT : (txtL x).set i v = enc (hdrL x :: ((x.take k).map lineL ++ (lineL (x.getD k (ByteArray.empty, ByteArray.empty, ByteArray.empty, ()))).set p v :: (x.drop (k + 1)).map lineL)) := by
    rw [← hset]; exact a4
  have hfree : ∀ l ∈ hdrL x :: ((x.take k).map lineL ++ (lineL (x.getD k (ByteArray.empty, ByteArray.empty, ByteArray.empty, ()))).set p v :: (x.drop (k + 1)).map lineL), (10 : UInt8) ∉ l := fun l hl => by
    rw [← hset] at hl
    rcases List.mem_or_eq_of_mem_set hl with hl | rfl
    · exact (hf l hl).1
    · intro hm
      rcases List.mem_or_eq_of_mem_set hm with hm | hm
      · exact line_free (ok_one hk _ (mem_getD x k (ByteArray.empty, ByteArray.empty, ByteArray.empty, ()) hkl)) hm
      · exact h1 hm.symm
  have hlen := (txt_len hk).2
  have hk2 : g15_0 (x.take k ++ x.getD k (ByteArray.empty, ByteArray.empty, ByteArray.empty, ()) :: x.drop (k + 1)) = true := by rw [← hx]; exact hk
  have hone : ∀ b ∈ x, g25_0 b = true := ok_one hk
  obtain ⟨q1, q2⟩ := text_pre ⟨⟨(txtL x).set i v⟩⟩ _ (by rw [hT]) hfree (by rw [← hT, List.length_set]; exact hlen)
  obtain ⟨_, e2, e3⟩ := ended_enc _ hfree
  have em : (hdrL x :: ((x.take k).map lineL ++ (lineL (x.getD k (ByteArray.empty, ByteArray.empty, ByteArray.empty, ()))).set p v :: (x.drop (k + 1)).map lineL)).map (fun l => (⟨⟨l⟩⟩ : ByteArray)) = ⟨⟨hdrL x⟩⟩ :: ((x.take k).map lineM ++ ⟨⟨(lineL (x.getD k (ByteArray.empty, ByteArray.empty, ByteArray.empty, ()))).set p v⟩⟩ :: (x.drop (k + 1)).map lineM) := by
    simp only [List.map_cons, List.map_append, List.map_map]
    rfl
  rw [em] at e2
  refine ⟨by omega, q1, q2, ?_, ?_⟩
  · unfold g9_0 tl9
    rw [hT, e2, e3]
    have d0 : dm9 0 (⟨⟨hdrL x⟩⟩ :: ((x.take k).map lineM ++ ⟨⟨(lineL (x.getD k (ByteArray.empty, ByteArray.empty, ByteArray.empty, ()))).set p v⟩⟩ :: (x.drop (k + 1)).map lineM)) = dm9 1 ((x.take k).map lineM ++ ⟨⟨(lineL (x.getD k (ByteArray.empty, ByteArray.empty, ByteArray.empty, ()))).set p v⟩⟩ :: (x.drop (k + 1)).map lineM) := by
      conv => lhs; unfold dm9
      rw [if_neg (by decide), List.nil_append]
    rw [d0, dm_with (fun b hb' => hone b (List.mem_of_mem_drop hb')) hb (x.take k) 1 (by decide) (fun b hb' => hone b (List.mem_of_mem_take hb')), if_neg (show ¬ (!ByteArray.toList (ByteArray.mk ⟨[]⟩) == ByteArray.toList (ByteArray.mk #[])) = true by rw [show (ByteArray.mk ⟨[]⟩) = ByteArray.mk #[] from rfl]; simp), List.append_nil, List.length_take, Nat.min_eq_left (by omega), Nat.add_comm]
  · unfold g10_0 ls10
    rw [hT, e2, List.drop_succ_cons, List.drop_zero, salvage_with hk2 hb]
    rfl

end Go.Proofs.YtalgkffjceljiaaGreatDoor

/- A law that says how functions of the program and of the specification hang together. -/
set_option linter.unusedVariables false
set_option linter.unusedSimpArgs false
set_option maxRecDepth 100000
namespace Go.Proofs.YtalgkffjceljiaaGreatDoor
open Go Go.Am Go.Proofs

theorem r8_at {x : List Int} (hw : Wf (.sl (.int .u8)) x) (i m : Int) (hi : 0 ≤ i) (h1 : 2 ≤ m) (h2 : m ≤ 1000000) : P8 x i m ∧ 0 ≤ g8_0 x i m ∧ g8_0 x i m ≤ m - 1 := by
  unfold P8 g8_0
  have c1 : decide (m ≤ 1) = false := decide_eq_false (by omega)
  by_cases c2 : i ≥ (x.length : Int)
  · simp only [c1, decide_eq_true c2, Bool.false_eq_true, if_false, if_true]
    exact ⟨trivial, by omega, by omega⟩
  · have hb := (u8_iff _).1 (hw.2 _ (mem_getD x i.toNat 0 (by omega)))
    have t1 := Int.tmod_nonneg (a := x.getD i.toNat 0) m hb.1
    have t2 := Int.tmod_lt_of_pos (x.getD i.toNat 0) (b := m) (by omega)
    simp only [c1, decide_eq_false c2, Bool.false_eq_true, if_false]
    exact ⟨⟨hi, by omega, by rw [i64_iff]; omega, by omega, by rw [i64_iff]; omega, trivial⟩, t1, by omega⟩

theorem r8_wide {x : List Int} (hw : Wf (.sl (.int .u8)) x) (n : Int) (h1 : 1 ≤ n) (h2 : n ≤ 1000000) : P7 x 0 n ∧ 0 ≤ g7_0 x 0 n ∧ g7_0 x 0 n < n := by
  obtain ⟨p, a1, a2⟩ := r8_at hw 0 256 (by decide) (by decide) (by decide)
  obtain ⟨q, b1, b2⟩ := r8_at hw (0 + 1) 256 (by decide) (by decide) (by decide)
  unfold P7 g7_0
  generalize g8_0 x 0 256 = a at *
  generalize g8_0 x (0 + 1) 256 = b at *
  have t1 := Int.tmod_nonneg (a := 256 * a + b) n (by omega)
  have t2 := Int.tmod_lt_of_pos (256 * a + b) (b := n) (by omega)
  exact ⟨⟨p, by rw [i64_iff]; omega, by rw [i64_iff]; omega, q, by rw [i64_iff]; omega, by omega, by rw [i64_iff]; omega, trivial⟩, t1, t2⟩

theorem flip_byte (o : UInt8) {m : Int} (h1 : 1 ≤ m) (h2 : m ≤ 255) : ∃ v : UInt8, v ≠ o ∧ IntKind.wrap .u8 (((BitVec.ofInt 8 ((o.toNat : Nat) : Int) ^^^ BitVec.ofInt 8 m).toNat : Nat) : Int) = ((v.toNat : Nat) : Int) := by
  have ho : o.toNat < 256 := o.toNat_lt
  obtain ⟨k, rfl⟩ := Int.eq_ofNat_of_zero_le (show 0 ≤ m by omega)
  have e1 : (BitVec.ofInt 8 ((o.toNat : Nat) : Int)).toNat = o.toNat := by
    rw [BitVec.toNat_ofInt]; omega
  have e2 : (BitVec.ofInt 8 (k : Int)).toNat = k := by
    rw [BitVec.toNat_ofInt]; omega
  rw [BitVec.toNat_xor, e1, e2]
  have hlt : o.toNat ^^^ k < 2 ^ 8 := Nat.xor_lt_two_pow (by omega) (by omega)
  have ev : (UInt8.ofNat (o.toNat ^^^ k)).toNat = o.toNat ^^^ k := by
    rw [UInt8.toNat_ofNat']; omega
  refine ⟨UInt8.ofNat (o.toNat ^^^ k), fun h => ?_, ?_⟩
  · have h := congrArg UInt8.toNat h
    rw [ev, Nat.xor_comm] at h
    have : k = 0 := xor_same (k := o.toNat) (by rw [h, Nat.zero_xor])
    omega
  · rw [ev]
    exact wrap_of_inR ((u8_iff _).2 ⟨by omega, by omega⟩)

theorem bytesStr_mk (xs : List Int) : bytesStr xs = ⟨⟨xs.map fun n => UInt8.ofNat n.toNat⟩⟩ := by
  have key : ∀ (xs : List Int) (l : List UInt8), xs.foldl (fun r n => ByteArray.push r (UInt8.ofNat n.toNat)) (ByteArray.mk ⟨l⟩) = ⟨⟨l ++ xs.map fun n => UInt8.ofNat n.toNat⟩⟩ := by
    intro xs
    induction xs with
    | nil => intro l; simp
    | cons a r ih =>
      intro l
      rw [List.foldl_cons]
      have e : (ByteArray.mk ⟨l⟩).push (UInt8.ofNat a.toNat) = ⟨⟨l ++ [UInt8.ofNat a.toNat]⟩⟩ := by
        apply ByteArray.ext
        apply Array.ext'
        simp [ByteArray.push]
      rw [e, ih]
      simp
  have := key xs []
  rw [List.nil_append] at this
  exact this

theorem bytes_len (T : List UInt8) : (bytesOf (ByteArray.mk ⟨T⟩)).length = T.length := bytesOf_length _

theorem bytes_at (T : List UInt8) (i : Nat) : (bytesOf (ByteArray.mk ⟨T⟩)).getD i 0 = ((T.getD i 0).toNat : Int) := (byte_get _ i).symm

theorem bytes_set (T : List UInt8) (i : Nat) (v : UInt8) : bytesStr ((bytesOf (ByteArray.mk ⟨T⟩)).set i ((v.toNat : Nat) : Int)) = ⟨⟨T.set i v⟩⟩ := by
  rw [bytesStr_mk]
  have e : bytesOf (ByteArray.mk ⟨T⟩) = T.map fun b => ((b.toNat : Nat) : Int) := rfl
  have e2 : ∀ b : UInt8, UInt8.ofNat (((b.toNat : Nat) : Int)).toNat = b := fun b => by
    rw [Int.toNat_natCast]; exact UInt8.ofNat_toNat
  rw [e, List.map_set, List.map_map, e2]
  congr 2
  congr 1
  conv => rhs; rw [← List.map_id T]
  exact List.map_congr_left fun b _ => e2 b

theorem set_at (l : List Int) (i : Nat) (v : Int) (h : i < l.length) : (l.set i v).getD i 0 = v := by
  rw [List.getD_eq_getElem?_getD, List.getElem?_set_self h]; rfl

theorem cnt_succ (T : List UInt8) (i : Nat) (h : i < T.length) : (T.take (i + 1)).count 10 = (T.take i).count 10 + if T.getD i 0 = 10 then 1 else 0 := by
  have e : T.take (i + 1) = T.take i ++ [T.getD i 0] := by
    rw [getD_lt T i 0 h, List.take_append_getElem h]
  rw [e, List.count_append, List.count_singleton]
  by_cases hc : T.getD i 0 = 10
  · rw [hc]; rfl
  · rw [if_neg hc, if_neg (by simpa using hc)]

theorem cnt_le (T : List UInt8) (i : Nat) : (T.take i).count 10 ≤ T.length := by
  refine Nat.le_trans List.count_le_length ?_
  rw [List.length_take]; omega

end Go.Proofs.YtalgkffjceljiaaGreatDoor

/- Function 3 (laws.FnSalvage): its runs between cut points. Written by a program of this repo (gen). -/
set_option linter.unusedVariables false
set_option linter.unusedSimpArgs false
set_option maxRecDepth 100000
namespace Go.Proofs.YtalgkffjceljiaaGreatDoor
open Go Go.Am Go.Proofs
noncomputable section
def ext3 : Ext := [(4, S4), (5, S5), (6, S6), (7, S7), (8, S8), (9, S9), (10, S10), (11, S11), (12, S12)]
theorem call3_4 : Callable Tryz.prog 4 := ⟨Tryz.f4, Tryz.func4, by kernel_rfl, by kernel_rfl⟩
theorem call3_5 : Callable Tryz.prog 5 := ⟨Tryz.f5, Tryz.func5, by kernel_rfl, by kernel_rfl⟩
theorem call3_6 : Callable Tryz.prog 6 := ⟨Tryz.f6, Tryz.func6, by kernel_rfl, by kernel_rfl⟩
theorem call3_7 : Callable Tryz.prog 7 := ⟨Tryz.f7, Tryz.func7, by kernel_rfl, by kernel_rfl⟩
theorem call3_8 : Callable Tryz.prog 8 := ⟨Tryz.f8, Tryz.func8, by kernel_rfl, by kernel_rfl⟩
theorem call3_9 : Callable Tryz.prog 9 := ⟨Tryz.f9, Tryz.func9, by kernel_rfl, by kernel_rfl⟩
theorem call3_10 : Callable Tryz.prog 10 := ⟨Tryz.f10, Tryz.func10, by kernel_rfl, by kernel_rfl⟩
theorem call3_11 : Callable Tryz.prog 11 := ⟨Tryz.f11, Tryz.func11, by kernel_rfl, by kernel_rfl⟩
theorem call3_12 : Callable Tryz.prog 12 := ⟨Tryz.f12, Tryz.func12, by kernel_rfl, by kernel_rfl⟩
theorem ext3Ok : ExtOk Tryz.prog ext3 := ⟨⟨call3_4, con4⟩, ⟨call3_5, con5⟩, ⟨call3_6, con6⟩, ⟨call3_7, con7⟩, ⟨call3_8, con8⟩, ⟨call3_9, con9⟩, ⟨call3_10, con10⟩, ⟨call3_11, con11⟩, ⟨call3_12, con12⟩, trivial⟩

noncomputable def b3 : Code := bodyOf Tryz.f3
theorem hb3 : Tryz.f3.body = some b3 := by kernel_rfl
def sig3 : List AT := [AT.v (Ty.sl (Ty.int IntKind.u8)), AT.v (Ty.sl (Ty.int IntKind.u8))]
def tys3 : List Ty := [Ty.bool]
def kds3 : List RK := []
def oks3 : List AT := owns sig3
def E3_3 (x0 : List Int) (x1 : List Int) : Env := [(0, PV.a (Atom.sl (Ty.int IntKind.u8) x0)), (1, PV.a (Atom.sl (Ty.int IntKind.u8) x1))]
def L3_3 (x0 : List Int) (x1 : List Int) : Heap := []
def E3_11 (v11 : Int) (v12 : Int) (x0 : List Int) (x1 : List Int) : Env := [(5, PV.a (Atom.osl 0 Option.none)), (6, PV.a (Atom.val (Value.string (g6_0 (g5_0 x0))))), (8, PV.a (Atom.osl 1 Option.none)), (9, PV.a (Atom.val (Value.int IntKind.i64 (g7_0 x1 0 (↑(List.length (bytesOf (g6_0 (g5_0 x0)))) : Int))))), (10, PV.a (Atom.val (Value.int IntKind.u8 (List.getD (bytesOf (g6_0 (g5_0 x0))) (Int.toNat (g7_0 x1 0 (↑(List.length (bytesOf (g6_0 (g5_0 x0)))) : Int))) 0)))), (11, PV.a (Atom.val (Value.int IntKind.i64 v11))), (12, PV.a (Atom.val (Value.int IntKind.i64 v12)))]
def L3_11 (v11 : Int) (v12 : Int) (x0 : List Int) (x1 : List Int) : Heap := [Option.some (Arr.mk (Ty.cons Ty.str (Ty.cons Ty.str (Ty.cons Ty.str Ty.unit))) (g5_0 x0) Bool.false Option.none Option.none), Option.some (Arr.mk (Ty.int IntKind.u8) (List.set (bytesOf (g6_0 (g5_0 x0))) (Int.toNat (g7_0 x1 0 (↑(List.length (bytesOf (g6_0 (g5_0 x0)))) : Int))) (IntKind.wrap IntKind.u8 (↑(BitVec.toNat (BitVec.ofInt 8 (List.getD (bytesOf (g6_0 (g5_0 x0))) (Int.toNat (g7_0 x1 0 (↑(List.length (bytesOf (g6_0 (g5_0 x0)))) : Int))) 0) ^^^ BitVec.ofInt 8 (1 + g8_0 x1 2 255))) : Int))) Bool.false Option.none Option.none)]
def E3_13 (x0 : List Int) (x1 : List Int) (v11 : Int) (v12 : Int) : Env := [(5, PV.a (Atom.osl 0 Option.none)), (6, PV.a (Atom.val (Value.string (g6_0 (g5_0 x0))))), (8, PV.a (Atom.osl 1 Option.none)), (9, PV.a (Atom.val (Value.int IntKind.i64 (g7_0 x1 0 (↑(List.length (bytesOf (g6_0 (g5_0 x0)))) : Int))))), (10, PV.a (Atom.val (Value.int IntKind.u8 (List.getD (bytesOf (g6_0 (g5_0 x0))) (Int.toNat (g7_0 x1 0 (↑(List.length (bytesOf (g6_0 (g5_0 x0)))) : Int))) 0)))), (11, PV.a (Atom.val (Value.int IntKind.i64 v11))), (12, PV.a (Atom.val (Value.int IntKind.i64 v12)))]
def L3_13 (x0 : List Int) (x1 : List Int) (v11 : Int) (v12 : Int) : Heap := [Option.some (Arr.mk (Ty.cons Ty.str (Ty.cons Ty.str (Ty.cons Ty.str Ty.unit))) (g5_0 x0) Bool.false Option.none Option.none), Option.some (Arr.mk (Ty.int IntKind.u8) (List.set (bytesOf (g6_0 (g5_0 x0))) (Int.toNat (g7_0 x1 0 (↑(List.length (bytesOf (g6_0 (g5_0 x0)))) : Int))) (IntKind.wrap IntKind.u8 (↑(BitVec.toNat (BitVec.ofInt 8 (List.getD (bytesOf (g6_0 (g5_0 x0))) (Int.toNat (g7_0 x1 0 (↑(List.length (bytesOf (g6_0 (g5_0 x0)))) : Int))) 0) ^^^ BitVec.ofInt 8 (1 + g8_0 x1 2 255))) : Int))) Bool.false Option.none Option.none)]
def E3_17 (v11 : Int) (x0 : List Int) (x1 : List Int) : Env := [(5, PV.a (Atom.osl 0 Option.none)), (8, PV.a (Atom.osl 1 Option.none)), (11, PV.a (Atom.val (Value.int IntKind.i64 v11)))]
def L3_17 (v11 : Int) (x0 : List Int) (x1 : List Int) : Heap := [Option.some (Arr.mk (Ty.cons Ty.str (Ty.cons Ty.str (Ty.cons Ty.str Ty.unit))) (g5_0 x0) Bool.false Option.none Option.none), Option.some (Arr.mk (Ty.int IntKind.u8) (List.set (bytesOf (g6_0 (g5_0 x0))) (Int.toNat (g7_0 x1 0 (↑(List.length (bytesOf (g6_0 (g5_0 x0)))) : Int))) (IntKind.wrap IntKind.u8 (↑(BitVec.toNat (BitVec.ofInt 8 (List.getD (bytesOf (g6_0 (g5_0 x0))) (Int.toNat (g7_0 x1 0 (↑(List.length (bytesOf (g6_0 (g5_0 x0)))) : Int))) 0) ^^^ BitVec.ofInt 8 (1 + g8_0 x1 2 255))) : Int))) Bool.false Option.none Option.none)]
def E3_12 (v11 : Int) (x0 : List Int) (x1 : List Int) (v12 : Int) : Env := [(5, PV.a (Atom.osl 0 Option.none)), (6, PV.a (Atom.val (Value.string (g6_0 (g5_0 x0))))), (8, PV.a (Atom.osl 1 Option.none)), (9, PV.a (Atom.val (Value.int IntKind.i64 (g7_0 x1 0 (↑(List.length (bytesOf (g6_0 (g5_0 x0)))) : Int))))), (10, PV.a (Atom.val (Value.int IntKind.u8 (List.getD (bytesOf (g6_0 (g5_0 x0))) (Int.toNat (g7_0 x1 0 (↑(List.length (bytesOf (g6_0 (g5_0 x0)))) : Int))) 0)))), (11, PV.a (Atom.val (Value.int IntKind.i64 v11))), (12, PV.a (Atom.val (Value.int IntKind.i64 v12)))]
def L3_12 (v11 : Int) (x0 : List Int) (x1 : List Int) (v12 : Int) : Heap := [Option.some (Arr.mk (Ty.cons Ty.str (Ty.cons Ty.str (Ty.cons Ty.str Ty.unit))) (g5_0 x0) Bool.false Option.none Option.none), Option.some (Arr.mk (Ty.int IntKind.u8) (List.set (bytesOf (g6_0 (g5_0 x0))) (Int.toNat (g7_0 x1 0 (↑(List.length (bytesOf (g6_0 (g5_0 x0)))) : Int))) (IntKind.wrap IntKind.u8 (↑(BitVec.toNat (BitVec.ofInt 8 (List.getD (bytesOf (g6_0 (g5_0 x0))) (Int.toNat (g7_0 x1 0 (↑(List.length (bytesOf (g6_0 (g5_0 x0)))) : Int))) 0) ^^^ BitVec.ofInt 8 (1 + g8_0 x1 2 255))) : Int))) Bool.false Option.none Option.none)]
def E3_21 (v11 : Int) (x0 : List Int) (x1 : List Int) : Env := [(5, PV.a (Atom.osl 0 Option.none)), (11, PV.a (Atom.val (Value.int IntKind.i64 v11))), (14, PV.a (Atom.osl 1 Option.none))]
def L3_21 (v11 : Int) (x0 : List Int) (x1 : List Int) : Heap := [Option.some (Arr.mk (Ty.cons Ty.str (Ty.cons Ty.str (Ty.cons Ty.str Ty.unit))) (g5_0 x0) Bool.false Option.none Option.none), Option.some (Arr.mk (Ty.cons Ty.str (Ty.cons Ty.str (Ty.cons Ty.str Ty.unit))) (g10_0 (bytesStr (List.set (bytesOf (g6_0 (g5_0 x0))) (Int.toNat (g7_0 x1 0 (↑(List.length (bytesOf (g6_0 (g5_0 x0)))) : Int))) (IntKind.wrap IntKind.u8 (↑(BitVec.toNat (BitVec.ofInt 8 (List.getD (bytesOf (g6_0 (g5_0 x0))) (Int.toNat (g7_0 x1 0 (↑(List.length (bytesOf (g6_0 (g5_0 x0)))) : Int))) 0) ^^^ BitVec.ofInt 8 (1 + g8_0 x1 2 255))) : Int))))) Bool.false Option.none Option.none)]
mutual
def R3 : Nat → List Int → List Int → List Dyn → Prop
  | 0, _, _, _ => False
  | n + 1, x0, x1, ds => (if (g4_0 x0 x1) = true then (ds = [Dyn.mk Ty.bool Bool.true]) else (R3_3 n (x0) (x1) ds))
def R3_3 : Nat → List Int → List Int → List Dyn → Prop
  | 0, _, _, _ => False
  | n + 1, x0, x1, ds => ((P5 x0) ∧ ((P6 (g5_0 x0)) ∧ ((P7 x1 0 (↑(List.length (bytesOf (g6_0 (g5_0 x0)))) : Int)) ∧ ((0 ≤ g7_0 x1 0 (↑(List.length (bytesOf (g6_0 (g5_0 x0)))) : Int)) ∧ (g7_0 x1 0 (↑(List.length (bytesOf (g6_0 (g5_0 x0)))) : Int) < (↑(List.length (bytesOf (g6_0 (g5_0 x0)))) : Int)) ∧ ((0 ≤ g7_0 x1 0 (↑(List.length (bytesOf (g6_0 (g5_0 x0)))) : Int)) ∧ (g7_0 x1 0 (↑(List.length (bytesOf (g6_0 (g5_0 x0)))) : Int) < (↑(List.length (bytesOf (g6_0 (g5_0 x0)))) : Int)) ∧ ((P8 x1 2 255) ∧ ((InR IntKind.i64 (1 + g8_0 x1 2 255)) ∧ ((InR IntKind.u8 (1 + g8_0 x1 2 255)) ∧ ((0 ≤ g7_0 x1 0 (↑(List.length (bytesOf (g6_0 (g5_0 x0)))) : Int)) ∧ (g7_0 x1 0 (↑(List.length (bytesOf (g6_0 (g5_0 x0)))) : Int) < (↑(List.length (bytesOf (g6_0 (g5_0 x0)))) : Int)) ∧ (R3_11 n (1) (0) (x0) (x1) ds))))))))))
def R3_11 : Nat → Int → Int → List Int → List Int → List Dyn → Prop
  | 0, _, _, _, _, _ => False
  | n + 1, v11, v12, x0, x1, ds => (if (Decidable.decide (v12 < g7_0 x1 0 (↑(List.length (bytesOf (g6_0 (g5_0 x0)))) : Int))) = true then (R3_13 n (x0) (x1) (v11) (v12) ds) else (if (List.getD (bytesOf (g6_0 (g5_0 x0))) (Int.toNat (g7_0 x1 0 (↑(List.length (bytesOf (g6_0 (g5_0 x0)))) : Int))) 0 == 10) = true then (ds = [Dyn.mk Ty.bool Bool.true]) else ((0 ≤ g7_0 x1 0 (↑(List.length (bytesOf (g6_0 (g5_0 x0)))) : Int)) ∧ (g7_0 x1 0 (↑(List.length (bytesOf (g6_0 (g5_0 x0)))) : Int) < (↑(List.length (List.set (bytesOf (g6_0 (g5_0 x0))) (Int.toNat (g7_0 x1 0 (↑(List.length (bytesOf (g6_0 (g5_0 x0)))) : Int))) (IntKind.wrap IntKind.u8 (↑(BitVec.toNat (BitVec.ofInt 8 (List.getD (bytesOf (g6_0 (g5_0 x0))) (Int.toNat (g7_0 x1 0 (↑(List.length (bytesOf (g6_0 (g5_0 x0)))) : Int))) 0) ^^^ BitVec.ofInt 8 (1 + g8_0 x1 2 255))) : Int)))) : Int)) ∧ (if (List.getD (List.set (bytesOf (g6_0 (g5_0 x0))) (Int.toNat (g7_0 x1 0 (↑(List.length (bytesOf (g6_0 (g5_0 x0)))) : Int))) (IntKind.wrap IntKind.u8 (↑(BitVec.toNat (BitVec.ofInt 8 (List.getD (bytesOf (g6_0 (g5_0 x0))) (Int.toNat (g7_0 x1 0 (↑(List.length (bytesOf (g6_0 (g5_0 x0)))) : Int))) 0) ^^^ BitVec.ofInt 8 (1 + g8_0 x1 2 255))) : Int))) (Int.toNat (g7_0 x1 0 (↑(List.length (bytesOf (g6_0 (g5_0 x0)))) : Int))) 0 == 10) = true then (ds = [Dyn.mk Ty.bool Bool.true]) else (if (v11 == 1) = true then (ds = [Dyn.mk Ty.bool Bool.true]) else (R3_17 n (v11) (x0) (x1) ds))))))
def R3_13 : Nat → List Int → List Int → Int → Int → List Dyn → Prop
  | 0, _, _, _, _, _ => False
  | n + 1, x0, x1, v11, v12, ds => ((0 ≤ v12) ∧ (v12 < (↑(ByteArray.size (g6_0 (g5_0 x0))) : Int)) ∧ (if ((↑(UInt8.toNat (List.getD (Array.toList (ByteArray.data (g6_0 (g5_0 x0)))) (Int.toNat v12) 0)) : Int) == 10) = true then ((InR IntKind.i64 (v11 + 1)) ∧ (R3_12 n (v11 + 1) (x0) (x1) (v12) ds)) else (R3_12 n (v11) (x0) (x1) (v12) ds)))
def R3_17 : Nat → Int → List Int → List Int → List Dyn → Prop
  | 0, _, _, _, _ => False
  | n + 1, v11, x0, x1, ds => ((P9 (bytesStr (List.set (bytesOf (g6_0 (g5_0 x0))) (Int.toNat (g7_0 x1 0 (↑(List.length (bytesOf (g6_0 (g5_0 x0)))) : Int))) (IntKind.wrap IntKind.u8 (↑(BitVec.toNat (BitVec.ofInt 8 (List.getD (bytesOf (g6_0 (g5_0 x0))) (Int.toNat (g7_0 x1 0 (↑(List.length (bytesOf (g6_0 (g5_0 x0)))) : Int))) 0) ^^^ BitVec.ofInt 8 (1 + g8_0 x1 2 255))) : Int))))) ∧ ((P10 (bytesStr (List.set (bytesOf (g6_0 (g5_0 x0))) (Int.toNat (g7_0 x1 0 (↑(List.length (bytesOf (g6_0 (g5_0 x0)))) : Int))) (IntKind.wrap IntKind.u8 (↑(BitVec.toNat (BitVec.ofInt 8 (List.getD (bytesOf (g6_0 (g5_0 x0))) (Int.toNat (g7_0 x1 0 (↑(List.length (bytesOf (g6_0 (g5_0 x0)))) : Int))) 0) ^^^ BitVec.ofInt 8 (1 + g8_0 x1 2 255))) : Int))))) ∧ (if (!g11_0 (g9_0 (bytesStr (List.set (bytesOf (g6_0 (g5_0 x0))) (Int.toNat (g7_0 x1 0 (↑(List.length (bytesOf (g6_0 (g5_0 x0)))) : Int))) (IntKind.wrap IntKind.u8 (↑(BitVec.toNat (BitVec.ofInt 8 (List.getD (bytesOf (g6_0 (g5_0 x0))) (Int.toNat (g7_0 x1 0 (↑(List.length (bytesOf (g6_0 (g5_0 x0)))) : Int))) 0) ^^^ BitVec.ofInt 8 (1 + g8_0 x1 2 255))) : Int))))) [v11]) = true then (ds = [Dyn.mk Ty.bool Bool.false]) else (R3_21 n (v11) (x0) (x1) ds))))
def R3_12 : Nat → Int → List Int → List Int → Int → List Dyn → Prop
  | 0, _, _, _, _, _ => False
  | n + 1, v11, x0, x1, v12, ds => ((InR IntKind.i64 (v12 + 1)) ∧ (R3_11 n (v11) (v12 + 1) (x0) (x1) ds))
def R3_21 : Nat → Int → List Int → List Int → List Dyn → Prop
  | 0, _, _, _, _ => False
  | n + 1, v11, x0, x1, ds => ((InR IntKind.i64 (v11 - 2)) ∧ ((0 ≤ v11 - 2) ∧ (v11 - 2 ≤ (↑(List.length (g5_0 x0) - 0) : Int)) ∧ ((InR IntKind.i64 (v11 - 1)) ∧ ((0 ≤ v11 - 1) ∧ (v11 - 1 ≤ (↑(List.length (g5_0 x0) - 0) : Int)) ∧ (((0 + List.length (List.drop 0 (List.take (0 + Int.toNat (v11 - 2)) (g5_0 x0)))) * 48 ≤ 140737488355328) ∧ (((List.length ([] ++ List.drop 0 (List.take (0 + Int.toNat (v11 - 2)) (g5_0 x0))) + List.length (List.drop (0 + Int.toNat (v11 - 1)) (List.take (0 + Int.toNat (↑(List.length (g5_0 x0) - 0) : Int)) (g5_0 x0)))) * 48 ≤ 140737488355328) ∧ (ds = [Dyn.mk Ty.bool (g12_0 (g10_0 (bytesStr (List.set (bytesOf (g6_0 (g5_0 x0))) (Int.toNat (g7_0 x1 0 (↑(List.length (bytesOf (g6_0 (g5_0 x0)))) : Int))) (IntKind.wrap IntKind.u8 (↑(BitVec.toNat (BitVec.ofInt 8 (List.getD (bytesOf (g6_0 (g5_0 x0))) (Int.toNat (g7_0 x1 0 (↑(List.length (bytesOf (g6_0 (g5_0 x0)))) : Int))) 0) ^^^ BitVec.ofInt 8 (1 + g8_0 x1 2 255))) : Int))))) ([] ++ List.drop 0 (List.take (0 + Int.toNat (v11 - 2)) (g5_0 x0)) ++ List.drop (0 + Int.toNat (v11 - 1)) (List.take (0 + Int.toNat (↑(List.length (g5_0 x0) - 0) : Int)) (g5_0 x0))))])))))))
end
theorem snd3 : ∀ n, (∀ (x0 : List Int) (x1 : List Int) ds, R3 n x0 x1 ds → ∀ K q, AtV Tryz.prog 3 (PostR kds3 oks3 ds [] [] q K) 95 K q [] [.code b3] (entE 0 0 sig3 (x0, x1, ())) (entL sig3 (x0, x1, ()))) ∧ (∀ (x0 : List Int) (x1 : List Int) ds, R3_3 n x0 x1 ds → ∀ K q, AtV Tryz.prog 3 (PostR kds3 oks3 ds [] [] q K) 95 K q [] (cutAt b3 3) (E3_3 x0 x1) (L3_3 x0 x1)) ∧ (∀ (v11 : Int) (v12 : Int) (x0 : List Int) (x1 : List Int) ds, R3_11 n v11 v12 x0 x1 ds → ∀ K q, AtV Tryz.prog 3 (PostR kds3 oks3 ds [] [] q K) 95 K q [] (cutAt b3 11) (E3_11 v11 v12 x0 x1) (L3_11 v11 v12 x0 x1)) ∧ (∀ (x0 : List Int) (x1 : List Int) (v11 : Int) (v12 : Int) ds, R3_13 n x0 x1 v11 v12 ds → ∀ K q, AtV Tryz.prog 3 (PostR kds3 oks3 ds [] [] q K) 95 K q [] (cutAt b3 13) (E3_13 x0 x1 v11 v12) (L3_13 x0 x1 v11 v12)) ∧ (∀ (v11 : Int) (x0 : List Int) (x1 : List Int) ds, R3_17 n v11 x0 x1 ds → ∀ K q, AtV Tryz.prog 3 (PostR kds3 oks3 ds [] [] q K) 95 K q [] (cutAt b3 17) (E3_17 v11 x0 x1) (L3_17 v11 x0 x1)) ∧ (∀ (v11 : Int) (x0 : List Int) (x1 : List Int) (v12 : Int) ds, R3_12 n v11 x0 x1 v12 ds → ∀ K q, AtV Tryz.prog 3 (PostR kds3 oks3 ds [] [] q K) 95 K q [] (cutAt b3 12) (E3_12 v11 x0 x1 v12) (L3_12 v11 x0 x1 v12)) ∧ (∀ (v11 : Int) (x0 : List Int) (x1 : List Int) ds, R3_21 n v11 x0 x1 ds → ∀ K q, AtV Tryz.prog 3 (PostR kds3 oks3 ds [] [] q K) 95 K q [] (cutAt b3 21) (E3_21 v11 x0 x1) (L3_21 v11 x0 x1)) := by
  intro n
  induction n with
  | zero => exact ⟨fun _ _ _ h => by simp only [R3] at h, fun _ _ _ h => by simp only [R3_3] at h, fun _ _ _ _ _ h => by simp only [R3_11] at h, fun _ _ _ _ _ h => by simp only [R3_13] at h, fun _ _ _ _ h => by simp only [R3_17] at h, fun _ _ _ _ _ h => by simp only [R3_12] at h, fun _ _ _ _ h => by simp only [R3_21] at h⟩
  | succ n ih =>
  obtain ⟨ih, ih3, ih11, ih13, ih17, ih12, ih21⟩ := ih
  refine ⟨?_, ?_, ?_, ?_, ?_, ?_, ?_⟩
  · intro x0 x1 ds h K q
    rw [R3] at h
    by_cases b0 : (g4_0 x0 x1) = true
    · rw [if_pos b0] at h
      subst h
      exact AtV.ret Tryz.func3 tabOk ext3Ok mixed false [3, 13, 12, 17, 21] tys3 [true] (a1 trivial (a1 b0 trivial)) (by kernel_rfl)
    · rw [if_neg b0] at h
      replace b0 := Bool.eq_false_iff.2 b0
      exact AtV.go tabOk ext3Ok mixed false [3, 13, 12, 17, 21] [] [0, 1] [] [false] (a1 trivial (a1 b0 trivial)) (ih3 _ _ _ h K q) (by kernel_rfl)

  · intro x0 x1 ds h K q
    rw [R3_3] at h
    obtain ⟨s0, h⟩ := h
    obtain ⟨s1, h⟩ := h
    obtain ⟨s2, h⟩ := h
    obtain ⟨s3, s4, h⟩ := h
    obtain ⟨s5, s6, h⟩ := h
    obtain ⟨s7, h⟩ := h
    obtain ⟨s8, h⟩ := h
    obtain ⟨s9, h⟩ := h
    obtain ⟨s10, s11, h⟩ := h
    exact AtV.go tabOk ext3Ok mixed false [3, 13, 12, 17, 21] [] [5, 6, 8, 9, 10, 11, 12] [0, 1] [] (a1 s0 (a1 s1 (a1 s2 (a1 s3 (a1 s4 (a1 s5 (a1 s6 (a1 s7 (a1 s8 (a1 s9 (a1 s10 (a1 s11 trivial)))))))))))) (ih11 _ _ _ _ _ h K q) (by kernel_rfl)

  · intro v11 v12 x0 x1 ds h K q
    rw [R3_11] at h
    by_cases b0 : (Decidable.decide (v12 < g7_0 x1 0 (↑(List.length (bytesOf (g6_0 (g5_0 x0)))) : Int))) = true
    · rw [if_pos b0] at h
      exact AtV.go tabOk ext3Ok mixed false [3, 13, 12, 17, 21] [] [5, 6, 8, 9, 10, 11, 12] [0, 1] [true] (a1 b0 trivial) (ih13 _ _ _ _ _ h K q) (by kernel_rfl)
    · rw [if_neg b0] at h
      replace b0 := Bool.eq_false_iff.2 b0
      by_cases b1 : (List.getD (bytesOf (g6_0 (g5_0 x0))) (Int.toNat (g7_0 x1 0 (↑(List.length (bytesOf (g6_0 (g5_0 x0)))) : Int))) 0 == 10) = true
      · rw [if_pos b1] at h
        subst h
        exact AtV.ret Tryz.func3 tabOk ext3Ok mixed false [3, 13, 12, 17, 21] tys3 [false, true, true, true] (a1 b0 (a1 b1 (a1 (rfl : Bool.true = Bool.true) (a1 (rfl : Bool.true = Bool.true) trivial)))) (by kernel_rfl)
      · rw [if_neg b1] at h
        replace b1 := Bool.eq_false_iff.2 b1
        obtain ⟨s0, s1, h⟩ := h
        by_cases b2 : (List.getD (List.set (bytesOf (g6_0 (g5_0 x0))) (Int.toNat (g7_0 x1 0 (↑(List.length (bytesOf (g6_0 (g5_0 x0)))) : Int))) (IntKind.wrap IntKind.u8 (↑(BitVec.toNat (BitVec.ofInt 8 (List.getD (bytesOf (g6_0 (g5_0 x0))) (Int.toNat (g7_0 x1 0 (↑(List.length (bytesOf (g6_0 (g5_0 x0)))) : Int))) 0) ^^^ BitVec.ofInt 8 (1 + g8_0 x1 2 255))) : Int))) (Int.toNat (g7_0 x1 0 (↑(List.length (bytesOf (g6_0 (g5_0 x0)))) : Int))) 0 == 10) = true
        · rw [if_pos b2] at h
          subst h
          exact AtV.ret Tryz.func3 tabOk ext3Ok mixed false [3, 13, 12, 17, 21] tys3 [false, false, true, true] (a1 b0 (a1 b1 (a1 s0 (a1 s1 (a1 b2 (a1 (rfl : Bool.true = Bool.true) trivial)))))) (by kernel_rfl)
        · rw [if_neg b2] at h
          replace b2 := Bool.eq_false_iff.2 b2
          by_cases b3 : (v11 == 1) = true
          · rw [if_pos b3] at h
            subst h
            exact AtV.ret Tryz.func3 tabOk ext3Ok mixed false [3, 13, 12, 17, 21] tys3 [false, false, false, true] (a1 b0 (a1 b1 (a1 s0 (a1 s1 (a1 b2 (a1 b3 trivial)))))) (by kernel_rfl)
          · rw [if_neg b3] at h
            replace b3 := Bool.eq_false_iff.2 b3
            exact AtV.go tabOk ext3Ok mixed false [3, 13, 12, 17, 21] [] [5, 8, 11] [0, 1] [false, false, false, false] (a1 b0 (a1 b1 (a1 s0 (a1 s1 (a1 b2 (a1 b3 trivial)))))) (ih17 _ _ _ _ h K q) (by kernel_rfl)

  · intro x0 x1 v11 v12 ds h K q
    rw [R3_13] at h
    obtain ⟨s0, s1, h⟩ := h
    by_cases b0 : ((↑(UInt8.toNat (List.getD (Array.toList (ByteArray.data (g6_0 (g5_0 x0)))) (Int.toNat v12) 0)) : Int) == 10) = true
    · rw [if_pos b0] at h
      obtain ⟨s2, h⟩ := h
      exact AtV.go tabOk ext3Ok mixed false [3, 13, 12, 17, 21] [] [5, 6, 8, 9, 10, 11, 12] [0, 1] [true] (a1 s0 (a1 s1 (a1 b0 (a1 s2 trivial)))) (ih12 _ _ _ _ _ h K q) (by kernel_rfl)
    · rw [if_neg b0] at h
      replace b0 := Bool.eq_false_iff.2 b0
      exact AtV.go tabOk ext3Ok mixed false [3, 13, 12, 17, 21] [] [5, 6, 8, 9, 10, 11, 12] [0, 1] [false] (a1 s0 (a1 s1 (a1 b0 trivial))) (ih12 _ _ _ _ _ h K q) (by kernel_rfl)

  · intro v11 x0 x1 ds h K q
    rw [R3_17] at h
    obtain ⟨s0, h⟩ := h
    obtain ⟨s1, h⟩ := h
    by_cases b0 : (!g11_0 (g9_0 (bytesStr (List.set (bytesOf (g6_0 (g5_0 x0))) (Int.toNat (g7_0 x1 0 (↑(List.length (bytesOf (g6_0 (g5_0 x0)))) : Int))) (IntKind.wrap IntKind.u8 (↑(BitVec.toNat (BitVec.ofInt 8 (List.getD (bytesOf (g6_0 (g5_0 x0))) (Int.toNat (g7_0 x1 0 (↑(List.length (bytesOf (g6_0 (g5_0 x0)))) : Int))) 0) ^^^ BitVec.ofInt 8 (1 + g8_0 x1 2 255))) : Int))))) [v11]) = true
    · rw [if_pos b0] at h
      subst h
      exact AtV.ret Tryz.func3 tabOk ext3Ok mixed false [3, 13, 12, 17, 21] tys3 [true] (a1 s0 (a1 s1 (a1 trivial (a1 b0 trivial)))) (by kernel_rfl)
    · rw [if_neg b0] at h
      replace b0 := Bool.eq_false_iff.2 b0
      exact AtV.go tabOk ext3Ok mixed false [3, 13, 12, 17, 21] [] [5, 11, 14] [0, 3] [false] (a1 s0 (a1 s1 (a1 trivial (a1 b0 trivial)))) (ih21 _ _ _ _ h K q) (by kernel_rfl)

  · intro v11 x0 x1 v12 ds h K q
    rw [R3_12] at h
    obtain ⟨s0, h⟩ := h
    exact AtV.go tabOk ext3Ok mixed false [3, 13, 12, 17, 21] [] [5, 6, 8, 9, 10, 11, 12] [0, 1] [] (a1 s0 trivial) (ih11 _ _ _ _ _ h K q) (by kernel_rfl)

  · intro v11 x0 x1 ds h K q
    rw [R3_21] at h
    obtain ⟨s0, h⟩ := h
    obtain ⟨s1, s2, h⟩ := h
    obtain ⟨s3, h⟩ := h
    obtain ⟨s4, s5, h⟩ := h
    obtain ⟨s6, h⟩ := h
    obtain ⟨s7, h⟩ := h
    subst h
    exact AtV.ret Tryz.func3 tabOk ext3Ok mixed false [3, 13, 12, 17, 21] tys3 [] (a1 s0 (a1 s1 (a1 s2 (a1 s3 (a1 s4 (a1 s5 (a1 s6 (a1 s7 (a1 trivial trivial))))))))) (by kernel_rfl)



def g3_0 (x0 x1 : List Int) : Bool := true
def P3 (x0 x1 : List Int) : Prop := True

theorem drawn3 {x : List Int} (hw : Wf (.sl (.int .u8)) x) : P5 x ∧ g15_0 (g5_0 x) = true ∧ (g5_0 x).length ≤ 5 := by
  have p : P14 (x, 0, 0, ()) := (src_start hw).up (by decide)
  obtain ⟨_, a, b, _⟩ := q14 _ p
  exact ⟨⟨p, trivial⟩, a, b⟩

theorem eight3 (b : UInt8) : ((((b.toNat : Nat) : Int) == 10) = true) ↔ b = 10 := by
  rw [beq_iff_eq]
  constructor
  · intro h
    exact UInt8.toNat_inj.1 (by show b.toNat = 10; omega)
  · rintro rfl; rfl

theorem loop3 (x0 x1 : List Int) (x : List (ByteArray × ByteArray × ByteArray × Unit)) (ex : g5_0 x0 = x) (hk : g15_0 x = true) (hl : x.length ≤ 5) (a : Nat) (v : UInt8)
    (eT : g6_0 x = ⟨⟨txtL x⟩⟩) (ha : a < (txtL x).length) (eA : g7_0 x1 0 ((txtL x).length : Int) = (a : Int)) (hv : v ≠ (txtL x).getD a 0)
    (eW : IntKind.wrap .u8 (((BitVec.ofInt 8 (((((txtL x).getD a 0).toNat : Nat) : Int)) ^^^ BitVec.ofInt 8 (1 + g8_0 x1 2 255)).toNat : Nat) : Int) = ((v.toNat : Nat) : Int)) :
    ∀ (k i : Nat), i + k = a → R3_11 (3 * k + 3) (((((txtL x).take i).count 10 : Nat) : Int) + 1) (i : Int) x0 x1 [⟨.bool, true⟩] := by
  have eL := bytes_len (txtL x)
  have eG := bytes_at (txtL x) a
  have eS := bytes_set (txtL x) a v
  have hT := (txt_len hk).2
  intro k
  induction k with
  | zero =>
    intro i hi
    have hia : i = a := by omega
    subst hia
    show R3_11 (2 + 1) _ _ _ _ _
    rw [R3_11, ex, eT, eL, eA, if_neg (by simp only [decide_eq_true_eq]; omega)]
    simp only [Int.toNat_natCast]
    rw [eG, eW, set_at _ _ _ (by rw [eL]; exact ha)]
    by_cases h0 : (txtL x).getD i 0 = 10
    · rw [if_pos ((eight3 _).2 h0)]; trivial
    rw [if_neg (fun h => h0 ((eight3 _).1 h))]
    refine ⟨by omega, by rw [List.length_set, eL]; omega, ?_⟩
    by_cases h1 : v = 10
    · rw [if_pos ((eight3 _).2 h1)]; trivial
    rw [if_neg (fun h => h1 ((eight3 _).1 h))]
    obtain ⟨j, hj⟩ : ∃ j, ((txtL x).take i).count 10 = j := ⟨_, rfl⟩
    rw [hj]
    by_cases hj0 : j = 0
    · rw [if_pos (by rw [hj0]; rfl)]; trivial
    rw [if_neg (by rw [beq_iff_eq]; omega)]
    obtain ⟨s1, s2, s3, s4, s5⟩ := salv_law hk ha h0 h1 hv hj (by omega)
    rw [R3_17, ex, eT, eL, eA]
    have e8 : g11_0 [(j : Int) + 1] [(j : Int) + 1] = true := decide_eq_true rfl
    simp only [Int.toNat_natCast, eG, eW, eS, s4, e8, Bool.not_true, Bool.false_eq_true, if_false]
    refine ⟨s2, s3, ?_⟩
    rw [R3_21, ex, eT, eL, eA]
    simp only [Int.toNat_natCast, eG, eW, eS, s5]
    have t1 : 0 + Int.toNat ((j : Int) + 1 - 2) = j - 1 := by omega
    have t2 : 0 + Int.toNat ((j : Int) + 1 - 1) = j := by omega
    have t3 : 0 + (x.length - 0) = x.length := by omega
    have t4 : 0 + Int.toNat ((x.length - 0 : Nat) : Int) = x.length := by omega
    have e9 : g12_0 (x.take (j - 1) ++ x.drop j) (x.take (j - 1) ++ x.drop j) = true := decide_eq_true rfl
    simp only [t1, t2, t3, List.take_length, List.drop_zero, List.nil_append, e9]
    refine ⟨by rw [i64_iff]; omega, by omega, by omega, by rw [i64_iff]; omega, by omega, by omega, ?_, ?_, trivial⟩
    · rw [List.length_take]; omega
    · rw [List.length_take, List.length_drop]; omega
  | succ k ih =>
    intro i hi
    have hlt : i < (txtL x).length := by omega
    have hd : (Array.toList (ByteArray.data (ByteArray.mk ⟨txtL x⟩))) = txtL x := rfl
    have hs : (ByteArray.mk ⟨txtL x⟩).size = (txtL x).length := rfl
    have hc := cnt_succ (txtL x) i hlt
    have hb := cnt_le (txtL x) i
    have nx := ih (i + 1) (by omega)
    have ei : (i : Int) + 1 = ((i + 1 : Nat) : Int) := by omega
    show R3_11 (3 * k + 3 + 1 + 1 + 1) _ _ _ _ _
    rw [R3_11, ex, eT, eL, eA, if_pos (by simp only [decide_eq_true_eq]; omega), R3_13, ex, eT, hd, hs]
    simp only [Int.toNat_natCast]
    refine ⟨by omega, by omega, ?_⟩
    by_cases h0 : (txtL x).getD i 0 = 10
    · rw [if_pos ((eight3 _).2 h0), R3_12, ei]
      refine ⟨by rw [i64_iff]; omega, by rw [i64_iff]; omega, ?_⟩
      rw [if_pos h0] at hc
      rw [hc] at nx
      exact nx
    · rw [if_neg (fun h => h0 ((eight3 _).1 h)), R3_12, ei]
      refine ⟨by rw [i64_iff]; omega, ?_⟩
      rw [if_neg h0] at hc
      rw [hc] at nx
      exact nx

theorem top3 (x0 x1 : List Int) (w0 : Wf (.sl (.int .u8)) x0) (w1 : Wf (.sl (.int .u8)) x1) : ∃ n, R3 n x0 x1 [⟨.bool, g3_0 x0 x1⟩] := by
  unfold g3_0
  obtain ⟨p0, hk, hl⟩ := drawn3 w0
  obtain ⟨x, ex⟩ : ∃ x, g5_0 x0 = x := ⟨_, rfl⟩
  rw [ex] at hk hl
  obtain ⟨q0, eT⟩ := save_law hk
  obtain ⟨l1, l2⟩ := txt_len hk
  obtain ⟨q1, a1, a2⟩ := r8_wide w1 ((txtL x).length : Int) (by omega) (by omega)
  obtain ⟨a, ea⟩ := Int.eq_ofNat_of_zero_le a1
  obtain ⟨q2, b1, b2⟩ := r8_at w1 2 255 (by decide) (by decide) (by decide)
  obtain ⟨v, hv, eW⟩ := flip_byte ((txtL x).getD a 0) (m := 1 + g8_0 x1 2 255) (by omega) (by omega)
  have eL := bytes_len (txtL x)
  have key := loop3 x0 x1 x ex hk hl a v eT (by omega) ea hv eW a 0 (by omega)
  refine ⟨3 * a + 3 + 1 + 1, ?_⟩
  rw [R3]
  split
  · rfl
  rw [R3_3, ex, eT, eL, ea]
  have u1 : InR .i64 (1 + g8_0 x1 2 255) := by rw [i64_iff]; omega
  have u2 : InR .u8 (1 + g8_0 x1 2 255) := (u8_iff _).2 ⟨by omega, by omega⟩
  exact ⟨p0, q0, q1, by omega, by omega, by omega, by omega, q2, u1, u2, by omega, by omega, key⟩

def S3 : Am.Spec := { sig := sig3, pre := fun ⟨x0, x1, _⟩ => P3 x0 x1, res := fun ⟨x0, x1, _⟩ => [⟨Ty.bool, g3_0 x0 x1⟩] }
theorem con3 : Contract Tryz.prog 3 S3 := contract_of Tryz.func3 hb3 (Nat.le_of_ble_eq_true (by kernel_rfl)) (fun ⟨x0, x1, _⟩ h hwf K q =>
  let ⟨n, hn⟩ := top3 x0 x1 hwf.1 hwf.2.1
  (snd3 n).1 x0 x1 _ hn K q)

end
end Go.Proofs.YtalgkffjceljiaaGreatDoor

/- The plain law of FnSalvage. -/
set_option linter.unusedVariables false
set_option linter.unusedSimpArgs false
set_option maxRecDepth 100000
namespace Go.Proofs.YtalgkffjceljiaaGreatDoor
open Go Go.Am Go.Proofs

theorem law3 (x0 x1 : List Int) (h0 : Wf (.sl (.int .u8)) x0) (h1 : Wf (.sl (.int .u8)) x1) : P3 x0 x1 ∧ g3_0 x0 x1 = true := ⟨trivial, rfl⟩

end Go.Proofs.YtalgkffjceljiaaGreatDoor
