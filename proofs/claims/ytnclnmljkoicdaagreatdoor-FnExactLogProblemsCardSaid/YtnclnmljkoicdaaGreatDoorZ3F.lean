/- Several texts in one: the functions that this law reaches, and their laws. -/
import Derived.Test.YtnclnmljkoicdaaGreatDoorZ3A
import Derived.Test.YtnclnmljkoicdaaGreatDoorZ3B
import Derived.Test.YtnclnmljkoicdaaGreatDoorZ3C
import Derived.Test.YtnclnmljkoicdaaGreatDoorZ3D
import Derived.Test.YtnclnmljkoicdaaGreatDoorZ3E
set_option linter.unusedVariables false
set_option linter.unusedSimpArgs false
set_option maxRecDepth 100000
namespace Go.Proofs.YtnclnmljkoicdaaGreatDoor
open Go Go.Am Go.Proofs
noncomputable section
def ext41 : Ext := [(44, S44)]
theorem ext41Ok : ExtOk Tryz.prog ext41 := ⟨⟨ca44, con44⟩, trivial⟩
noncomputable def b41 : Code := bodyOf Tryz.f41
theorem hb41 : Tryz.f41.body = some b41 := by kernel_rfl
def sig41 : List AT := [AT.own YA3, AT.v (Ty.int .i64)]
def tys41 : List Ty := [Ty.int .i64]
def kds41 : List RK := []
def oks41 : List AT := owns sig41
def E41_2 (v5 : Int) (x1 : Int) (x0 : List TyB0) : Env := [(0, PV.a (Atom.osl 0 Option.none)), (1, PV.a (Atom.val (Value.int .i64 x1))), (5, PV.a (Atom.val (Value.int .i64 v5)))]
def L41_2 (v5 : Int) (x1 : Int) (x0 : List TyB0) : Heap := [Option.some (Arr.mk YA3 x0 false Option.none Option.none)]
@[reducible] def q41_0 (v5 : Int) (x1 : Int) (x0 : List TyB0) := List.set x0 (Int.toNat v5) (g44_0 x1, (List.getD x0 (Int.toNat v5) (ByteArray.empty, 0, 0, 0, 0, ())).2)
@[reducible] def q41_1 (v5 : Int) (x1 : Int) (x0 : List TyB0) := List.set (q41_0 v5 x1 x0) (Int.toNat v5) ((List.getD (q41_0 v5 x1 x0) (Int.toNat v5) (ByteArray.empty, 0, 0, 0, 0, ())).1, x1 + 1, (List.getD (q41_0 v5 x1 x0) (Int.toNat v5) (ByteArray.empty, 0, 0, 0, 0, ())).2.2)
@[reducible] def q41_2 (v5 : Int) (x1 : Int) (x0 : List TyB0) := List.set (q41_1 v5 x1 x0) (Int.toNat v5) ((List.getD (q41_1 v5 x1 x0) (Int.toNat v5) (ByteArray.empty, 0, 0, 0, 0, ())).1, (List.getD (q41_1 v5 x1 x0) (Int.toNat v5) (ByteArray.empty, 0, 0, 0, 0, ())).2.1, x1 + 1 + 1, (List.getD (q41_1 v5 x1 x0) (Int.toNat v5) (ByteArray.empty, 0, 0, 0, 0, ())).2.2.2)
@[reducible] def q41_3 (v5 : Int) (x1 : Int) (x0 : List TyB0) := List.set (q41_2 v5 x1 x0) (Int.toNat v5) ((List.getD (q41_2 v5 x1 x0) (Int.toNat v5) (ByteArray.empty, 0, 0, 0, 0, ())).1, (List.getD (q41_2 v5 x1 x0) (Int.toNat v5) (ByteArray.empty, 0, 0, 0, 0, ())).2.1, (List.getD (q41_2 v5 x1 x0) (Int.toNat v5) (ByteArray.empty, 0, 0, 0, 0, ())).2.2.1, x1 + 1 + 1 + 1, (List.getD (q41_2 v5 x1 x0) (Int.toNat v5) (ByteArray.empty, 0, 0, 0, 0, ())).2.2.2.2)
mutual
def R41 : Nat → List TyB0 → Int → List Dyn → List (Option Lst) → Prop
  | 0, _, _, _, _ => False
  | n + 1, x0, x1, ds, us => (R41_2 n (0) (x1) (x0) ds us)
def R41_2 : Nat → Int → Int → List TyB0 → List Dyn → List (Option Lst) → Prop
  | 0, _, _, _, _, _ => False
  | n + 1, v5, x1, x0, ds, us => (if (decide (v5 < (↑(List.length x0) : Int))) = true then ((0 ≤ v5) ∧ (v5 < (↑(List.length x0) : Int)) ∧ ((InR .i64 (x1 + 1)) ∧ ((0 ≤ v5) ∧ (v5 < (↑(List.length (q41_0 v5 x1 x0)) : Int)) ∧ ((InR .i64 (x1 + 1 + 1)) ∧ ((0 ≤ v5) ∧ (v5 < (↑(List.length (q41_1 v5 x1 x0)) : Int)) ∧ ((InR .i64 (x1 + 1 + 1 + 1)) ∧ ((0 ≤ v5) ∧ (v5 < (↑(List.length (q41_2 v5 x1 x0)) : Int)) ∧ ((InR .i64 (x1 + 1 + 1 + 1 + 1)) ∧ ((0 ≤ v5) ∧ (v5 < (↑(List.length (q41_3 v5 x1 x0)) : Int)) ∧ ((InR .i64 (x1 + 1 + 1 + 1 + 1 + 1)) ∧ ((InR .i64 (v5 + 1)) ∧ (R41_2 n (v5 + 1) (x1 + 1 + 1 + 1 + 1 + 1) (List.set (q41_3 v5 x1 x0) (Int.toNat v5) ((List.getD (q41_3 v5 x1 x0) (Int.toNat v5) (ByteArray.empty, 0, 0, 0, 0, ())).1, (List.getD (q41_3 v5 x1 x0) (Int.toNat v5) (ByteArray.empty, 0, 0, 0, 0, ())).2.1, (List.getD (q41_3 v5 x1 x0) (Int.toNat v5) (ByteArray.empty, 0, 0, 0, 0, ())).2.2.1, (List.getD (q41_3 v5 x1 x0) (Int.toNat v5) (ByteArray.empty, 0, 0, 0, 0, ())).2.2.2.1, x1 + 1 + 1 + 1 + 1, (List.getD (q41_3 v5 x1 x0) (Int.toNat v5) (ByteArray.empty, 0, 0, 0, 0, ())).2.2.2.2.2)) ds us)))))))))))) else (ds = [Dyn.mk (Ty.int .i64) x1] ∧ us = [Option.some (Lst.mk YA3 x0)]))
end
theorem snd41 : ∀ n, (∀ (x0 : List TyB0) (x1 : Int) ds us, R41 n x0 x1 ds us → ∀ K q, AtV Tryz.prog 41 (PostR kds41 oks41 ds us [0] q K) 49 K q [0] [.code b41] (entE 0 0 sig41 (x0, x1, ())) (entL sig41 (x0, x1, ()))) ∧ (∀ (v5 : Int) (x1 : Int) (x0 : List TyB0) ds us, R41_2 n v5 x1 x0 ds us → ∀ K q, AtV Tryz.prog 41 (PostR kds41 oks41 ds us [0] q K) 49 K q [0] (cutAt b41 2) (E41_2 v5 x1 x0) (L41_2 v5 x1 x0)) := by
  intro n
  induction n with
  | zero => exact ⟨fun _ _ _ _ h => by simp only [R41] at h, fun _ _ _ _ _ h => by simp only [R41_2] at h⟩
  | succ n ih =>
  obtain ⟨ih, ih2⟩ := ih
  refine ⟨?_, ?_⟩
  · intro x0 x1 ds us h K q
    rw [R41] at h
    exact AtV.go tabOk ext41Ok mixed false [] [] [0, 1, 5] [0] [] trivial (ih2 _ _ _ _ _ h K q) (by kernel_rfl)
  · intro v5 x1 x0 ds us h K q
    rw [R41_2] at h
    by_cases b0 : (decide (v5 < (↑(List.length x0) : Int))) = true
    · rw [if_pos b0] at h
      obtain ⟨s0, s1, h⟩ := h
      obtain ⟨s2, h⟩ := h
      obtain ⟨s3, s4, h⟩ := h
      obtain ⟨s5, h⟩ := h
      obtain ⟨s6, s7, h⟩ := h
      obtain ⟨s8, h⟩ := h
      obtain ⟨s9, s10, h⟩ := h
      obtain ⟨s11, h⟩ := h
      obtain ⟨s12, s13, h⟩ := h
      obtain ⟨s14, h⟩ := h
      obtain ⟨s15, h⟩ := h
      exact AtV.go tabOk ext41Ok mixed false [] [] [0, 1, 5] [0] [true] (a1 b0 (a1 trivial (a1 s0 (a1 s1 (a1 s2 (a1 s3 (a1 s4 (a1 s5 (a1 s6 (a1 s7 (a1 s8 (a1 s9 (a1 s10 (a1 s11 (a1 s12 (a1 s13 (a1 s14 (a1 s15 trivial)))))))))))))))))) (ih2 _ _ _ _ _ h K q) (by kernel_rfl)
    · rw [if_neg b0] at h
      replace b0 := Bool.eq_false_iff.2 b0
      obtain ⟨h, h'⟩ := h; subst h; subst h'
      exact AtV.ret Tryz.func41 tabOk ext41Ok mixed false [] tys41 [false] (a1 b0 trivial) (by kernel_rfl)
def M41 (x1 : Int) (n : Nat) : List TyB0 := (List.range n).map fun (j : Nat) => (g44_0 (x1 + 5 * (j : Int)), (x1 + 5 * (j : Int) + 1), (x1 + 5 * (j : Int) + 1 + 1), (x1 + 5 * (j : Int) + 1 + 1 + 1), (x1 + 5 * (j : Int) + 1 + 1 + 1 + 1), ())
theorem M41_len (x1 : Int) (n : Nat) : (M41 x1 n).length = n := by simp [M41]
theorem M41_succ (x1 : Int) (n : Nat) : M41 x1 (n + 1) = M41 x1 n ++ [(g44_0 (x1 + 5 * (n : Int)), (x1 + 5 * (n : Int) + 1), (x1 + 5 * (n : Int) + 1 + 1), (x1 + 5 * (n : Int) + 1 + 1 + 1), (x1 + 5 * (n : Int) + 1 + 1 + 1 + 1), ())] := by
  simp [M41, List.range_succ]
theorem run41 (x0 : List TyB0) (x1 : Int) (hm : x0.length ≤ maxLen) (h0 : 0 ≤ x1) (h1 : x1 + 5 * x0.length ≤ 9223372036854775807) : ∀ (k i : Nat), i + k = x0.length →
    R41_2 (k + 1) (i : Int) (x1 + 5 * (i : Int)) (M41 x1 i ++ x0.drop i) [⟨.int .i64, x1 + 5 * (x0.length : Int)⟩] [some ⟨(.cons .str (.cons (.int .i64) (.cons (.int .i64) (.cons (.int .i64) (.cons (.int .i64) .unit))))), M41 x1 x0.length⟩] := by
  intro k
  induction k with
  | zero =>
    intro i hi
    have hl : (M41 x1 i ++ x0.drop i).length = x0.length := by simp [M41_len]; omega
    rw [R41_2, if_neg (by rw [hl]; simp; omega), drop_end x0 i (by omega), List.append_nil]
    have : i = x0.length := by omega
    subst this
    exact ⟨rfl, rfl⟩
  | succ k ih =>
    intro i hi
    have hl : (M41 x1 i ++ x0.drop i).length = x0.length := by simp [M41_len]; omega
    have hA := M41_len x1 i
    rw [R41_2, if_pos (by rw [hl]; simp; omega)]
    rw [drop_get x0 i (ByteArray.empty, (0 : Int), (0 : Int), (0 : Int), (0 : Int), ()) (by omega)] at hl ⊢
    simp only [Int.toNat_natCast, q41_0, q41_1, q41_2, q41_3, set_mid _ _ _ _ i hA, get_mid _ _ _ _ i hA]
    have hl' : ∀ y : TyB0, ((M41 x1 i ++ y :: x0.drop (i + 1)).length : Int) = x0.length := fun y => by rw [← hl]; simp
    simp only [hl']
    refine ⟨by omega, by omega, by rw [i64_iff]; omega, by omega, by omega, by rw [i64_iff]; omega, by omega, by omega, by rw [i64_iff]; omega, by omega, by omega, by rw [i64_iff]; omega, by omega, by omega, by rw [i64_iff]; omega, inR_up hm (by omega), ?_⟩
    have hx : x1 + 5 * (i : Int) + 1 + 1 + 1 + 1 + 1 = x1 + 5 * ((i + 1 : Nat) : Int) := by omega
    have := ih (i + 1) (by omega)
    rw [M41_succ, List.append_assoc] at this
    rw [hx]
    simpa using this
def P41 (x0 : List TyB0) (x1 : Int) : Prop := 0 ≤ x1 ∧ x1 + 5 * x0.length ≤ 9223372036854775807
def g41_0 (x0 : List TyB0) (x1 : Int) : Int := x1 + 5 * (x0.length : Int)
def u41_0 (x0 : List TyB0) (x1 : Int) : List TyB0 := M41 x1 x0.length
theorem top41 (x0 : List TyB0) (x1 : Int) (hm : x0.length ≤ maxLen) (h : P41 x0 x1) : R41 (x0.length + 1 + 1) x0 x1 [⟨.int .i64, g41_0 x0 x1⟩] [some ⟨(.cons .str (.cons (.int .i64) (.cons (.int .i64) (.cons (.int .i64) (.cons (.int .i64) .unit))))), u41_0 x0 x1⟩] := by
  rw [R41]
  have := run41 x0 x1 hm h.1 h.2 x0.length 0 (by omega)
  simpa [M41, g41_0, u41_0] using this
def S41 : Am.Spec := { sig := sig41, pre := fun ⟨x0, x1, _⟩ => P41 x0 x1, upd := fun ⟨x0, x1, _⟩ => [some ⟨(.cons .str (.cons (.int .i64) (.cons (.int .i64) (.cons (.int .i64) (.cons (.int .i64) .unit))))), u41_0 x0 x1⟩], res := fun ⟨x0, x1, _⟩ => [⟨.int .i64, g41_0 x0 x1⟩] }
theorem con41 : Contract Tryz.prog 41 S41 := contract_of Tryz.func41 hb41 (Nat.le_of_ble_eq_true (by kernel_rfl)) (fun ⟨x0, x1, _⟩ h hwf K q =>
  (snd41 _).1 x0 x1 _ _ (top41 x0 x1 hwf.1.1 h) K q)
end
noncomputable section
def ext42 : Ext := []
theorem ext42Ok : ExtOk Tryz.prog ext42 := trivial
noncomputable def b42 : Code := bodyOf Tryz.f42
theorem hb42 : Tryz.f42.body = some b42 := by kernel_rfl
def sig42 : List AT := [AT.own YA9, AT.v (Ty.int .i64)]
def tys42 : List Ty := [Ty.int .i64]
def kds42 : List RK := []
def oks42 : List AT := owns sig42
def E42_2 (v5 : Int) (x1 : Int) (x0 : List TyB4) : Env := [(0, PV.a (Atom.osl 0 Option.none)), (1, PV.a (Atom.val (Value.int .i64 x1))), (5, PV.a (Atom.val (Value.int .i64 v5)))]
def L42_2 (v5 : Int) (x1 : Int) (x0 : List TyB4) : Heap := [Option.some (Arr.mk YA9 x0 false Option.none Option.none)]
mutual
def R42 : Nat → List TyB4 → Int → List Dyn → List (Option Lst) → Prop
  | 0, _, _, _, _ => False
  | n + 1, x0, x1, ds, us => (R42_2 n (0) (x1) (x0) ds us)
def R42_2 : Nat → Int → Int → List TyB4 → List Dyn → List (Option Lst) → Prop
  | 0, _, _, _, _, _ => False
  | n + 1, v5, x1, x0, ds, us => (if (decide (v5 < (↑(List.length x0) : Int))) = true then ((0 ≤ v5) ∧ (v5 < (↑(List.length x0) : Int)) ∧ ((InR .i64 (x1 + 1)) ∧ ((0 ≤ v5) ∧ (v5 < (↑(List.length (List.set x0 (Int.toNat v5) (x1, (List.getD x0 (Int.toNat v5) (0, 0, ())).2))) : Int)) ∧ ((InR .i64 (x1 + 1 + 1)) ∧ ((InR .i64 (v5 + 1)) ∧ (R42_2 n (v5 + 1) (x1 + 1 + 1) (List.set (List.set x0 (Int.toNat v5) (x1, (List.getD x0 (Int.toNat v5) (0, 0, ())).2)) (Int.toNat v5) ((List.getD (List.set x0 (Int.toNat v5) (x1, (List.getD x0 (Int.toNat v5) (0, 0, ())).2)) (Int.toNat v5) (0, 0, ())).1, x1 + 1, (List.getD (List.set x0 (Int.toNat v5) (x1, (List.getD x0 (Int.toNat v5) (0, 0, ())).2)) (Int.toNat v5) (0, 0, ())).2.2)) ds us)))))) else (ds = [Dyn.mk (Ty.int .i64) x1] ∧ us = [Option.some (Lst.mk YA9 x0)]))
end
theorem snd42 : ∀ n, (∀ (x0 : List TyB4) (x1 : Int) ds us, R42 n x0 x1 ds us → ∀ K q, AtV Tryz.prog 42 (PostR kds42 oks42 ds us [0] q K) 27 K q [0] [.code b42] (entE 0 0 sig42 (x0, x1, ())) (entL sig42 (x0, x1, ()))) ∧ (∀ (v5 : Int) (x1 : Int) (x0 : List TyB4) ds us, R42_2 n v5 x1 x0 ds us → ∀ K q, AtV Tryz.prog 42 (PostR kds42 oks42 ds us [0] q K) 27 K q [0] (cutAt b42 2) (E42_2 v5 x1 x0) (L42_2 v5 x1 x0)) := by
  intro n
  induction n with
  | zero => exact ⟨fun _ _ _ _ h => by simp only [R42] at h, fun _ _ _ _ _ h => by simp only [R42_2] at h⟩
  | succ n ih =>
  obtain ⟨ih, ih2⟩ := ih
  refine ⟨?_, ?_⟩
  · intro x0 x1 ds us h K q
    rw [R42] at h
    exact AtV.go tabOk ext42Ok mixed false [] [] [0, 1, 5] [0] [] trivial (ih2 _ _ _ _ _ h K q) (by kernel_rfl)
  · intro v5 x1 x0 ds us h K q
    rw [R42_2] at h
    by_cases b0 : (decide (v5 < (↑(List.length x0) : Int))) = true
    · rw [if_pos b0] at h
      obtain ⟨s0, s1, h⟩ := h
      obtain ⟨s2, h⟩ := h
      obtain ⟨s3, s4, h⟩ := h
      obtain ⟨s5, h⟩ := h
      obtain ⟨s6, h⟩ := h
      exact AtV.go tabOk ext42Ok mixed false [] [] [0, 1, 5] [0] [true] (a1 b0 (a1 s0 (a1 s1 (a1 s2 (a1 s3 (a1 s4 (a1 s5 (a1 s6 trivial)))))))) (ih2 _ _ _ _ _ h K q) (by kernel_rfl)
    · rw [if_neg b0] at h
      replace b0 := Bool.eq_false_iff.2 b0
      obtain ⟨h, h'⟩ := h; subst h; subst h'
      exact AtV.ret Tryz.func42 tabOk ext42Ok mixed false [] tys42 [false] (a1 b0 trivial) (by kernel_rfl)
def M42 (x1 : Int) (n : Nat) : List TyB4 := (List.range n).map fun (j : Nat) => ((x1 + 2 * (j : Int)), (x1 + 2 * (j : Int) + 1), ())
theorem M42_len (x1 : Int) (n : Nat) : (M42 x1 n).length = n := by simp [M42]
theorem M42_succ (x1 : Int) (n : Nat) : M42 x1 (n + 1) = M42 x1 n ++ [((x1 + 2 * (n : Int)), (x1 + 2 * (n : Int) + 1), ())] := by
  simp [M42, List.range_succ]
theorem run42 (x0 : List TyB4) (x1 : Int) (hm : x0.length ≤ maxLen) (h0 : 0 ≤ x1) (h1 : x1 + 2 * x0.length ≤ 9223372036854775807) : ∀ (k i : Nat), i + k = x0.length →
    R42_2 (k + 1) (i : Int) (x1 + 2 * (i : Int)) (M42 x1 i ++ x0.drop i) [⟨.int .i64, x1 + 2 * (x0.length : Int)⟩] [some ⟨(.cons (.int .i64) (.cons (.int .i64) .unit)), M42 x1 x0.length⟩] := by
  intro k
  induction k with
  | zero =>
    intro i hi
    have hl : (M42 x1 i ++ x0.drop i).length = x0.length := by simp [M42_len]; omega
    rw [R42_2, if_neg (by rw [hl]; simp; omega), drop_end x0 i (by omega), List.append_nil]
    have : i = x0.length := by omega
    subst this
    exact ⟨rfl, rfl⟩
  | succ k ih =>
    intro i hi
    have hl : (M42 x1 i ++ x0.drop i).length = x0.length := by simp [M42_len]; omega
    have hA := M42_len x1 i
    rw [R42_2, if_pos (by rw [hl]; simp; omega)]
    rw [drop_get x0 i ((0 : Int), (0 : Int), ()) (by omega)] at hl ⊢
    simp only [Int.toNat_natCast, set_mid _ _ _ _ i hA, get_mid _ _ _ _ i hA]
    have hl' : ∀ y : TyB4, ((M42 x1 i ++ y :: x0.drop (i + 1)).length : Int) = x0.length := fun y => by rw [← hl]; simp
    simp only [hl']
    refine ⟨by omega, by omega, by rw [i64_iff]; omega, by omega, by omega, by rw [i64_iff]; omega, inR_up hm (by omega), ?_⟩
    have hx : x1 + 2 * (i : Int) + 1 + 1 = x1 + 2 * ((i + 1 : Nat) : Int) := by omega
    have := ih (i + 1) (by omega)
    rw [M42_succ, List.append_assoc] at this
    rw [hx]
    simpa using this
def P42 (x0 : List TyB4) (x1 : Int) : Prop := 0 ≤ x1 ∧ x1 + 2 * x0.length ≤ 9223372036854775807
def g42_0 (x0 : List TyB4) (x1 : Int) : Int := x1 + 2 * (x0.length : Int)
def u42_0 (x0 : List TyB4) (x1 : Int) : List TyB4 := M42 x1 x0.length
theorem top42 (x0 : List TyB4) (x1 : Int) (hm : x0.length ≤ maxLen) (h : P42 x0 x1) : R42 (x0.length + 1 + 1) x0 x1 [⟨.int .i64, g42_0 x0 x1⟩] [some ⟨(.cons (.int .i64) (.cons (.int .i64) .unit)), u42_0 x0 x1⟩] := by
  rw [R42]
  have := run42 x0 x1 hm h.1 h.2 x0.length 0 (by omega)
  simpa [M42, g42_0, u42_0] using this
def S42 : Am.Spec := { sig := sig42, pre := fun ⟨x0, x1, _⟩ => P42 x0 x1, upd := fun ⟨x0, x1, _⟩ => [some ⟨(.cons (.int .i64) (.cons (.int .i64) .unit)), u42_0 x0 x1⟩], res := fun ⟨x0, x1, _⟩ => [⟨.int .i64, g42_0 x0 x1⟩] }
theorem con42 : Contract Tryz.prog 42 S42 := contract_of Tryz.func42 hb42 (Nat.le_of_ble_eq_true (by kernel_rfl)) (fun ⟨x0, x1, _⟩ h hwf K q =>
  (snd42 _).1 x0 x1 _ _ (top42 x0 x1 hwf.1.1 h) K q)
end
noncomputable section
def ext43 : Ext := [(44, S44)]
theorem ext43Ok : ExtOk Tryz.prog ext43 := ⟨⟨ca44, con44⟩, trivial⟩
noncomputable def b43 : Code := bodyOf Tryz.f43
theorem hb43 : Tryz.f43.body = some b43 := by kernel_rfl
def sig43 : List AT := [AT.own YA6, AT.v (Ty.int .i64)]
def tys43 : List Ty := [Ty.int .i64]
def kds43 : List RK := []
def oks43 : List AT := owns sig43
def E43_2 (v5 : Int) (x1 : Int) (x0 : List TyB2) : Env := [(0, PV.a (Atom.osl 0 Option.none)), (1, PV.a (Atom.val (Value.int .i64 x1))), (5, PV.a (Atom.val (Value.int .i64 v5)))]
def L43_2 (v5 : Int) (x1 : Int) (x0 : List TyB2) : Heap := [Option.some (Arr.mk YA6 x0 false Option.none Option.none)]
@[reducible] def q43_0 (v5 : Int) (x1 : Int) (x0 : List TyB2) := List.set x0 (Int.toNat v5) (x1, (List.getD x0 (Int.toNat v5) (0, 0, ByteArray.empty, 0, ())).2)
@[reducible] def q43_1 (v5 : Int) (x1 : Int) (x0 : List TyB2) := List.set (q43_0 v5 x1 x0) (Int.toNat v5) ((List.getD (q43_0 v5 x1 x0) (Int.toNat v5) (0, 0, ByteArray.empty, 0, ())).1, x1 + 1, (List.getD (q43_0 v5 x1 x0) (Int.toNat v5) (0, 0, ByteArray.empty, 0, ())).2.2)
@[reducible] def q43_2 (v5 : Int) (x1 : Int) (x0 : List TyB2) := List.set (q43_1 v5 x1 x0) (Int.toNat v5) ((List.getD (q43_1 v5 x1 x0) (Int.toNat v5) (0, 0, ByteArray.empty, 0, ())).1, (List.getD (q43_1 v5 x1 x0) (Int.toNat v5) (0, 0, ByteArray.empty, 0, ())).2.1, g44_0 (x1 + 1 + 1), (List.getD (q43_1 v5 x1 x0) (Int.toNat v5) (0, 0, ByteArray.empty, 0, ())).2.2.2)
mutual
def R43 : Nat → List TyB2 → Int → List Dyn → List (Option Lst) → Prop
  | 0, _, _, _, _ => False
  | n + 1, x0, x1, ds, us => (R43_2 n (0) (x1) (x0) ds us)
def R43_2 : Nat → Int → Int → List TyB2 → List Dyn → List (Option Lst) → Prop
  | 0, _, _, _, _, _ => False
  | n + 1, v5, x1, x0, ds, us => (if (decide (v5 < (↑(List.length x0) : Int))) = true then ((0 ≤ v5) ∧ (v5 < (↑(List.length x0) : Int)) ∧ ((InR .i64 (x1 + 1)) ∧ ((0 ≤ v5) ∧ (v5 < (↑(List.length (q43_0 v5 x1 x0)) : Int)) ∧ ((InR .i64 (x1 + 1 + 1)) ∧ ((0 ≤ v5) ∧ (v5 < (↑(List.length (q43_1 v5 x1 x0)) : Int)) ∧ ((InR .i64 (x1 + 1 + 1 + 1)) ∧ ((0 ≤ v5) ∧ (v5 < (↑(List.length (q43_2 v5 x1 x0)) : Int)) ∧ ((InR .i64 (x1 + 1 + 1 + 1 + 1)) ∧ ((InR .i64 (v5 + 1)) ∧ (R43_2 n (v5 + 1) (x1 + 1 + 1 + 1 + 1) (List.set (q43_2 v5 x1 x0) (Int.toNat v5) ((List.getD (q43_2 v5 x1 x0) (Int.toNat v5) (0, 0, ByteArray.empty, 0, ())).1, (List.getD (q43_2 v5 x1 x0) (Int.toNat v5) (0, 0, ByteArray.empty, 0, ())).2.1, (List.getD (q43_2 v5 x1 x0) (Int.toNat v5) (0, 0, ByteArray.empty, 0, ())).2.2.1, x1 + 1 + 1 + 1, (List.getD (q43_2 v5 x1 x0) (Int.toNat v5) (0, 0, ByteArray.empty, 0, ())).2.2.2.2)) ds us)))))))))) else (ds = [Dyn.mk (Ty.int .i64) x1] ∧ us = [Option.some (Lst.mk YA6 x0)]))
end
theorem snd43 : ∀ n, (∀ (x0 : List TyB2) (x1 : Int) ds us, R43 n x0 x1 ds us → ∀ K q, AtV Tryz.prog 43 (PostR kds43 oks43 ds us [0] q K) 42 K q [0] [.code b43] (entE 0 0 sig43 (x0, x1, ())) (entL sig43 (x0, x1, ()))) ∧ (∀ (v5 : Int) (x1 : Int) (x0 : List TyB2) ds us, R43_2 n v5 x1 x0 ds us → ∀ K q, AtV Tryz.prog 43 (PostR kds43 oks43 ds us [0] q K) 42 K q [0] (cutAt b43 2) (E43_2 v5 x1 x0) (L43_2 v5 x1 x0)) := by
  intro n
  induction n with
  | zero => exact ⟨fun _ _ _ _ h => by simp only [R43] at h, fun _ _ _ _ _ h => by simp only [R43_2] at h⟩
  | succ n ih =>
  obtain ⟨ih, ih2⟩ := ih
  refine ⟨?_, ?_⟩
  · intro x0 x1 ds us h K q
    rw [R43] at h
    exact AtV.go tabOk ext43Ok mixed false [] [] [0, 1, 5] [0] [] trivial (ih2 _ _ _ _ _ h K q) (by kernel_rfl)
  · intro v5 x1 x0 ds us h K q
    rw [R43_2] at h
    by_cases b0 : (decide (v5 < (↑(List.length x0) : Int))) = true
    · rw [if_pos b0] at h
      obtain ⟨s0, s1, h⟩ := h
      obtain ⟨s2, h⟩ := h
      obtain ⟨s3, s4, h⟩ := h
      obtain ⟨s5, h⟩ := h
      obtain ⟨s6, s7, h⟩ := h
      obtain ⟨s8, h⟩ := h
      obtain ⟨s9, s10, h⟩ := h
      obtain ⟨s11, h⟩ := h
      obtain ⟨s12, h⟩ := h
      exact AtV.go tabOk ext43Ok mixed false [] [] [0, 1, 5] [0] [true] (a1 b0 (a1 s0 (a1 s1 (a1 s2 (a1 s3 (a1 s4 (a1 s5 (a1 trivial (a1 s6 (a1 s7 (a1 s8 (a1 s9 (a1 s10 (a1 s11 (a1 s12 trivial))))))))))))))) (ih2 _ _ _ _ _ h K q) (by kernel_rfl)
    · rw [if_neg b0] at h
      replace b0 := Bool.eq_false_iff.2 b0
      obtain ⟨h, h'⟩ := h; subst h; subst h'
      exact AtV.ret Tryz.func43 tabOk ext43Ok mixed false [] tys43 [false] (a1 b0 trivial) (by kernel_rfl)
def M43 (x1 : Int) (n : Nat) : List TyB2 := (List.range n).map fun (j : Nat) => ((x1 + 4 * (j : Int)), (x1 + 4 * (j : Int) + 1), g44_0 (x1 + 4 * (j : Int) + 1 + 1), (x1 + 4 * (j : Int) + 1 + 1 + 1), ())
theorem M43_len (x1 : Int) (n : Nat) : (M43 x1 n).length = n := by simp [M43]
theorem M43_succ (x1 : Int) (n : Nat) : M43 x1 (n + 1) = M43 x1 n ++ [((x1 + 4 * (n : Int)), (x1 + 4 * (n : Int) + 1), g44_0 (x1 + 4 * (n : Int) + 1 + 1), (x1 + 4 * (n : Int) + 1 + 1 + 1), ())] := by
  simp [M43, List.range_succ]
theorem run43 (x0 : List TyB2) (x1 : Int) (hm : x0.length ≤ maxLen) (h0 : 0 ≤ x1) (h1 : x1 + 4 * x0.length ≤ 9223372036854775807) : ∀ (k i : Nat), i + k = x0.length →
    R43_2 (k + 1) (i : Int) (x1 + 4 * (i : Int)) (M43 x1 i ++ x0.drop i) [⟨.int .i64, x1 + 4 * (x0.length : Int)⟩] [some ⟨(.cons (.int .i64) (.cons (.int .i64) (.cons .str (.cons (.int .i64) .unit)))), M43 x1 x0.length⟩] := by
  intro k
  induction k with
  | zero =>
    intro i hi
    have hl : (M43 x1 i ++ x0.drop i).length = x0.length := by simp [M43_len]; omega
    rw [R43_2, if_neg (by rw [hl]; simp; omega), drop_end x0 i (by omega), List.append_nil]
    have : i = x0.length := by omega
    subst this
    exact ⟨rfl, rfl⟩
  | succ k ih =>
    intro i hi
    have hl : (M43 x1 i ++ x0.drop i).length = x0.length := by simp [M43_len]; omega
    have hA := M43_len x1 i
    rw [R43_2, if_pos (by rw [hl]; simp; omega)]
    rw [drop_get x0 i ((0 : Int), (0 : Int), ByteArray.empty, (0 : Int), ()) (by omega)] at hl ⊢
    simp only [Int.toNat_natCast, q43_0, q43_1, q43_2, set_mid _ _ _ _ i hA, get_mid _ _ _ _ i hA]
    have hl' : ∀ y : TyB2, ((M43 x1 i ++ y :: x0.drop (i + 1)).length : Int) = x0.length := fun y => by rw [← hl]; simp
    simp only [hl']
    refine ⟨by omega, by omega, by rw [i64_iff]; omega, by omega, by omega, by rw [i64_iff]; omega, by omega, by omega, by rw [i64_iff]; omega, by omega, by omega, by rw [i64_iff]; omega, inR_up hm (by omega), ?_⟩
    have hx : x1 + 4 * (i : Int) + 1 + 1 + 1 + 1 = x1 + 4 * ((i + 1 : Nat) : Int) := by omega
    have := ih (i + 1) (by omega)
    rw [M43_succ, List.append_assoc] at this
    rw [hx]
    simpa using this
def P43 (x0 : List TyB2) (x1 : Int) : Prop := 0 ≤ x1 ∧ x1 + 4 * x0.length ≤ 9223372036854775807
def g43_0 (x0 : List TyB2) (x1 : Int) : Int := x1 + 4 * (x0.length : Int)
def u43_0 (x0 : List TyB2) (x1 : Int) : List TyB2 := M43 x1 x0.length
theorem top43 (x0 : List TyB2) (x1 : Int) (hm : x0.length ≤ maxLen) (h : P43 x0 x1) : R43 (x0.length + 1 + 1) x0 x1 [⟨.int .i64, g43_0 x0 x1⟩] [some ⟨(.cons (.int .i64) (.cons (.int .i64) (.cons .str (.cons (.int .i64) .unit)))), u43_0 x0 x1⟩] := by
  rw [R43]
  have := run43 x0 x1 hm h.1 h.2 x0.length 0 (by omega)
  simpa [M43, g43_0, u43_0] using this
def S43 : Am.Spec := { sig := sig43, pre := fun ⟨x0, x1, _⟩ => P43 x0 x1, upd := fun ⟨x0, x1, _⟩ => [some ⟨(.cons (.int .i64) (.cons (.int .i64) (.cons .str (.cons (.int .i64) .unit)))), u43_0 x0 x1⟩], res := fun ⟨x0, x1, _⟩ => [⟨.int .i64, g43_0 x0 x1⟩] }
theorem con43 : Contract Tryz.prog 43 S43 := contract_of Tryz.func43 hb43 (Nat.le_of_ble_eq_true (by kernel_rfl)) (fun ⟨x0, x1, _⟩ h hwf K q =>
  (snd43 _).1 x0 x1 _ _ (top43 x0 x1 hwf.1.1 h) K q)
end
noncomputable section
def ext10 : Ext := [(39, S39), (40, S40), (41, S41), (42, S42), (43, S43)]
theorem ext10Ok : ExtOk Tryz.prog ext10 := ⟨⟨ca39, con39⟩, ⟨ca40, con40⟩, ⟨ca41, con41⟩, ⟨ca42, con42⟩, ⟨ca43, con43⟩, trivial⟩
noncomputable def b10 : Code := bodyOf Tryz.f10
theorem hb10 : Tryz.f10.body = some b10 := by kernel_rfl
def sig10 : List AT := [AT.sv YA0, AT.v (Ty.int .i64)]
def tys10 : List Ty := [Ty.int .i64]
def kds10 : List RK := []
def oks10 : List AT := owns sig10
def P10 (x0 : TyA0) (x1 : Int) : Prop := ((P39 (x0.1.1, x0.1.2.1, x0.1.2.2.1, ()) x1) ∧ (List.length (u39_0 (x0.1.1, x0.1.2.1, x0.1.2.2.1, ()) x1).1 = List.length x0.1.1) ∧ ((P40 x0.2.2.2.2.1 (g39_0 (x0.1.1, x0.1.2.1, x0.1.2.2.1, ()) x1)) ∧ (List.length (u40_0 x0.2.2.2.2.1 (g39_0 (x0.1.1, x0.1.2.1, x0.1.2.2.1, ()) x1)) = List.length x0.2.2.2.2.1) ∧ ((P41 x0.2.2.2.2.2.2.1 (g40_0 x0.2.2.2.2.1 (g39_0 (x0.1.1, x0.1.2.1, x0.1.2.2.1, ()) x1))) ∧ (List.length (u41_0 x0.2.2.2.2.2.2.1 (g40_0 x0.2.2.2.2.1 (g39_0 (x0.1.1, x0.1.2.1, x0.1.2.2.1, ()) x1))) = List.length x0.2.2.2.2.2.2.1) ∧ ((P42 x0.2.2.2.2.2.2.2.2.2.1 (g41_0 x0.2.2.2.2.2.2.1 (g40_0 x0.2.2.2.2.1 (g39_0 (x0.1.1, x0.1.2.1, x0.1.2.2.1, ()) x1)))) ∧ (List.length (u42_0 x0.2.2.2.2.2.2.2.2.2.1 (g41_0 x0.2.2.2.2.2.2.1 (g40_0 x0.2.2.2.2.1 (g39_0 (x0.1.1, x0.1.2.1, x0.1.2.2.1, ()) x1)))) = List.length x0.2.2.2.2.2.2.2.2.2.1) ∧ ((P43 x0.2.2.2.2.2.2.2.2.2.2.2.1 (g42_0 x0.2.2.2.2.2.2.2.2.2.1 (g41_0 x0.2.2.2.2.2.2.1 (g40_0 x0.2.2.2.2.1 (g39_0 (x0.1.1, x0.1.2.1, x0.1.2.2.1, ()) x1))))) ∧ (List.length (u43_0 x0.2.2.2.2.2.2.2.2.2.2.2.1 (g42_0 x0.2.2.2.2.2.2.2.2.2.1 (g41_0 x0.2.2.2.2.2.2.1 (g40_0 x0.2.2.2.2.1 (g39_0 (x0.1.1, x0.1.2.1, x0.1.2.2.1, ()) x1))))) = List.length x0.2.2.2.2.2.2.2.2.2.2.2.1) ∧ True)))))
def g10_0 (x0 : TyA0) (x1 : Int) : Int := g43_0 x0.2.2.2.2.2.2.2.2.2.2.2.1 (g42_0 x0.2.2.2.2.2.2.2.2.2.1 (g41_0 x0.2.2.2.2.2.2.1 (g40_0 x0.2.2.2.2.1 (g39_0 (x0.1.1, x0.1.2.1, x0.1.2.2.1, ()) x1))))
def u10_0 (x0 : TyA0) (x1 : Int) : TyA0 := (((u39_0 (x0.1.1, x0.1.2.1, x0.1.2.2.1, ()) x1).1, x0.1.2.1, x0.1.2.2.1, ()), x0.2.1, (x0.2.2.1.1, x0.2.2.1.2.1, ()), (x0.2.2.2.1.1, x0.2.2.2.1.2.1, x0.2.2.2.1.2.2.1, x0.2.2.2.1.2.2.2.1, ()), u40_0 x0.2.2.2.2.1 (g39_0 (x0.1.1, x0.1.2.1, x0.1.2.2.1, ()) x1), (x0.2.2.2.2.2.1.1, x0.2.2.2.2.2.1.2.1, x0.2.2.2.2.2.1.2.2.1, ()), u41_0 x0.2.2.2.2.2.2.1 (g40_0 x0.2.2.2.2.1 (g39_0 (x0.1.1, x0.1.2.1, x0.1.2.2.1, ()) x1)), x0.2.2.2.2.2.2.2.1, x0.2.2.2.2.2.2.2.2.1, u42_0 x0.2.2.2.2.2.2.2.2.2.1 (g41_0 x0.2.2.2.2.2.2.1 (g40_0 x0.2.2.2.2.1 (g39_0 (x0.1.1, x0.1.2.1, x0.1.2.2.1, ()) x1))), x0.2.2.2.2.2.2.2.2.2.2.1, u43_0 x0.2.2.2.2.2.2.2.2.2.2.2.1 (g42_0 x0.2.2.2.2.2.2.2.2.2.1 (g41_0 x0.2.2.2.2.2.2.1 (g40_0 x0.2.2.2.2.1 (g39_0 (x0.1.1, x0.1.2.1, x0.1.2.2.1, ()) x1)))), ())
theorem at10 (x0 : TyA0) (x1 : Int) (h : P10 x0 x1) (K : Ctx) (q : Nat → Value) : AtV Tryz.prog 10 (PostR kds10 oks10 [⟨Ty.int .i64, g10_0 x0 x1⟩] [some ⟨Ty.cons YA2 YA1, [u10_0 x0 x1]⟩] [0] q K) 26 K q [0] [.code b10] (entE 0 0 sig10 (x0, x1, ())) (entL sig10 (x0, x1, ())) := by
  unfold P10 at h
  unfold g10_0 u10_0
  obtain ⟨s0, s1, h⟩ := h
  obtain ⟨s2, s3, h⟩ := h
  obtain ⟨s4, s5, h⟩ := h
  obtain ⟨s6, s7, h⟩ := h
  obtain ⟨s8, s9, h⟩ := h
  exact AtV.weak (AtV.ret (us := [Option.some (Lst.mk YA0 [(((u39_0 (x0.1.1, x0.1.2.1, x0.1.2.2.1, ()) x1).1, x0.1.2.1, x0.1.2.2.1, ()), x0.2.1, (x0.2.2.1.1, x0.2.2.1.2.1, ()), (x0.2.2.2.1.1, x0.2.2.2.1.2.1, x0.2.2.2.1.2.2.1, x0.2.2.2.1.2.2.2.1, ()), u40_0 x0.2.2.2.2.1 (g39_0 (x0.1.1, x0.1.2.1, x0.1.2.2.1, ()) x1), (x0.2.2.2.2.2.1.1, x0.2.2.2.2.2.1.2.1, x0.2.2.2.2.2.1.2.2.1, ()), u41_0 x0.2.2.2.2.2.2.1 (g40_0 x0.2.2.2.2.1 (g39_0 (x0.1.1, x0.1.2.1, x0.1.2.2.1, ()) x1)), x0.2.2.2.2.2.2.2.1, x0.2.2.2.2.2.2.2.2.1, u42_0 x0.2.2.2.2.2.2.2.2.2.1 (g41_0 x0.2.2.2.2.2.2.1 (g40_0 x0.2.2.2.2.1 (g39_0 (x0.1.1, x0.1.2.1, x0.1.2.2.1, ()) x1))), x0.2.2.2.2.2.2.2.2.2.2.1, u43_0 x0.2.2.2.2.2.2.2.2.2.2.2.1 (g42_0 x0.2.2.2.2.2.2.2.2.2.1 (g41_0 x0.2.2.2.2.2.2.1 (g40_0 x0.2.2.2.2.1 (g39_0 (x0.1.1, x0.1.2.1, x0.1.2.2.1, ()) x1)))), ())])]) Tryz.func10 tabOk ext10Ok mixed false [] tys10 [] (a1 s0 (a1 s1 (a1 s2 (a1 s3 (a1 s4 (a1 s5 (a1 s6 (a1 s7 (a1 s8 (a1 s9 trivial)))))))))) (by kernel_rfl)) ⟨.inl rfl, trivial⟩
def S10 : Am.Spec := { sig := sig10, pre := fun ⟨x0, x1, _⟩ => P10 x0 x1, upd := fun ⟨x0, x1, _⟩ => [some ⟨Ty.cons YA2 YA1, [u10_0 x0 x1]⟩], res := fun ⟨x0, x1, _⟩ => [⟨Ty.int .i64, g10_0 x0 x1⟩], kds := kds10 }
theorem con10 : Contract Tryz.prog 10 S10 := contract_of Tryz.func10 hb10 (Nat.le_of_ble_eq_true (by kernel_rfl)) (fun ⟨x0, x1, _⟩ h _ K q => at10 x0 x1 h K q)
end
noncomputable section
def ext11 : Ext := [(44, S44)]
theorem ext11Ok : ExtOk Tryz.prog ext11 := ⟨⟨ca44, con44⟩, trivial⟩
noncomputable def b11 : Code := bodyOf Tryz.f11
theorem hb11 : Tryz.f11.body = some b11 := by kernel_rfl
def sig11 : List AT := [AT.own YA8, AT.v (Ty.int .i64)]
def tys11 : List Ty := [Ty.int .i64]
def kds11 : List RK := []
def oks11 : List AT := owns sig11
def E11_2 (v5 : Int) (x1 : Int) (x0 : List TyB3) : Env := [(0, PV.a (Atom.osl 0 Option.none)), (1, PV.a (Atom.val (Value.int .i64 x1))), (5, PV.a (Atom.val (Value.int .i64 v5)))]
def L11_2 (v5 : Int) (x1 : Int) (x0 : List TyB3) : Heap := [Option.some (Arr.mk YA8 x0 false Option.none Option.none)]
mutual
def R11 : Nat → List TyB3 → Int → List Dyn → List (Option Lst) → Prop
  | 0, _, _, _, _ => False
  | n + 1, x0, x1, ds, us => (R11_2 n (0) (x1) (x0) ds us)
def R11_2 : Nat → Int → Int → List TyB3 → List Dyn → List (Option Lst) → Prop
  | 0, _, _, _, _, _ => False
  | n + 1, v5, x1, x0, ds, us => (if (decide (v5 < (↑(List.length x0) : Int))) = true then ((0 ≤ v5) ∧ (v5 < (↑(List.length x0) : Int)) ∧ ((InR .i64 (x1 + 1)) ∧ ((0 ≤ v5) ∧ (v5 < (↑(List.length (List.set x0 (Int.toNat v5) (x1, (List.getD x0 (Int.toNat v5) (0, ByteArray.empty, ByteArray.empty, ())).2))) : Int)) ∧ ((InR .i64 (x1 + 1 + 1)) ∧ ((0 ≤ v5) ∧ (v5 < (↑(List.length (List.set (List.set x0 (Int.toNat v5) (x1, (List.getD x0 (Int.toNat v5) (0, ByteArray.empty, ByteArray.empty, ())).2)) (Int.toNat v5) ((List.getD (List.set x0 (Int.toNat v5) (x1, (List.getD x0 (Int.toNat v5) (0, ByteArray.empty, ByteArray.empty, ())).2)) (Int.toNat v5) (0, ByteArray.empty, ByteArray.empty, ())).1, g44_0 (x1 + 1), (List.getD (List.set x0 (Int.toNat v5) (x1, (List.getD x0 (Int.toNat v5) (0, ByteArray.empty, ByteArray.empty, ())).2)) (Int.toNat v5) (0, ByteArray.empty, ByteArray.empty, ())).2.2))) : Int)) ∧ ((InR .i64 (x1 + 1 + 1 + 1)) ∧ ((InR .i64 (v5 + 1)) ∧ (R11_2 n (v5 + 1) (x1 + 1 + 1 + 1) (List.set (List.set (List.set x0 (Int.toNat v5) (x1, (List.getD x0 (Int.toNat v5) (0, ByteArray.empty, ByteArray.empty, ())).2)) (Int.toNat v5) ((List.getD (List.set x0 (Int.toNat v5) (x1, (List.getD x0 (Int.toNat v5) (0, ByteArray.empty, ByteArray.empty, ())).2)) (Int.toNat v5) (0, ByteArray.empty, ByteArray.empty, ())).1, g44_0 (x1 + 1), (List.getD (List.set x0 (Int.toNat v5) (x1, (List.getD x0 (Int.toNat v5) (0, ByteArray.empty, ByteArray.empty, ())).2)) (Int.toNat v5) (0, ByteArray.empty, ByteArray.empty, ())).2.2)) (Int.toNat v5) ((List.getD (List.set (List.set x0 (Int.toNat v5) (x1, (List.getD x0 (Int.toNat v5) (0, ByteArray.empty, ByteArray.empty, ())).2)) (Int.toNat v5) ((List.getD (List.set x0 (Int.toNat v5) (x1, (List.getD x0 (Int.toNat v5) (0, ByteArray.empty, ByteArray.empty, ())).2)) (Int.toNat v5) (0, ByteArray.empty, ByteArray.empty, ())).1, g44_0 (x1 + 1), (List.getD (List.set x0 (Int.toNat v5) (x1, (List.getD x0 (Int.toNat v5) (0, ByteArray.empty, ByteArray.empty, ())).2)) (Int.toNat v5) (0, ByteArray.empty, ByteArray.empty, ())).2.2)) (Int.toNat v5) (0, ByteArray.empty, ByteArray.empty, ())).1, (List.getD (List.set (List.set x0 (Int.toNat v5) (x1, (List.getD x0 (Int.toNat v5) (0, ByteArray.empty, ByteArray.empty, ())).2)) (Int.toNat v5) ((List.getD (List.set x0 (Int.toNat v5) (x1, (List.getD x0 (Int.toNat v5) (0, ByteArray.empty, ByteArray.empty, ())).2)) (Int.toNat v5) (0, ByteArray.empty, ByteArray.empty, ())).1, g44_0 (x1 + 1), (List.getD (List.set x0 (Int.toNat v5) (x1, (List.getD x0 (Int.toNat v5) (0, ByteArray.empty, ByteArray.empty, ())).2)) (Int.toNat v5) (0, ByteArray.empty, ByteArray.empty, ())).2.2)) (Int.toNat v5) (0, ByteArray.empty, ByteArray.empty, ())).2.1, g44_0 (x1 + 1 + 1), (List.getD (List.set (List.set x0 (Int.toNat v5) (x1, (List.getD x0 (Int.toNat v5) (0, ByteArray.empty, ByteArray.empty, ())).2)) (Int.toNat v5) ((List.getD (List.set x0 (Int.toNat v5) (x1, (List.getD x0 (Int.toNat v5) (0, ByteArray.empty, ByteArray.empty, ())).2)) (Int.toNat v5) (0, ByteArray.empty, ByteArray.empty, ())).1, g44_0 (x1 + 1), (List.getD (List.set x0 (Int.toNat v5) (x1, (List.getD x0 (Int.toNat v5) (0, ByteArray.empty, ByteArray.empty, ())).2)) (Int.toNat v5) (0, ByteArray.empty, ByteArray.empty, ())).2.2)) (Int.toNat v5) (0, ByteArray.empty, ByteArray.empty, ())).2.2.2)) ds us)))))))) else (ds = [Dyn.mk (Ty.int .i64) x1] ∧ us = [Option.some (Lst.mk YA8 x0)]))
end
theorem snd11 : ∀ n, (∀ (x0 : List TyB3) (x1 : Int) ds us, R11 n x0 x1 ds us → ∀ K q, AtV Tryz.prog 11 (PostR kds11 oks11 ds us [0] q K) 36 K q [0] [.code b11] (entE 0 0 sig11 (x0, x1, ())) (entL sig11 (x0, x1, ()))) ∧ (∀ (v5 : Int) (x1 : Int) (x0 : List TyB3) ds us, R11_2 n v5 x1 x0 ds us → ∀ K q, AtV Tryz.prog 11 (PostR kds11 oks11 ds us [0] q K) 36 K q [0] (cutAt b11 2) (E11_2 v5 x1 x0) (L11_2 v5 x1 x0)) := by
  intro n
  induction n with
  | zero => exact ⟨fun _ _ _ _ h => by simp only [R11] at h, fun _ _ _ _ _ h => by simp only [R11_2] at h⟩
  | succ n ih =>
  obtain ⟨ih, ih2⟩ := ih
  refine ⟨?_, ?_⟩
  · intro x0 x1 ds us h K q
    rw [R11] at h
    exact AtV.go tabOk ext11Ok mixed false [] [] [0, 1, 5] [0] [] trivial (ih2 _ _ _ _ _ h K q) (by kernel_rfl)
  · intro v5 x1 x0 ds us h K q
    rw [R11_2] at h
    by_cases b0 : (decide (v5 < (↑(List.length x0) : Int))) = true
    · rw [if_pos b0] at h
      obtain ⟨s0, s1, h⟩ := h
      obtain ⟨s2, h⟩ := h
      obtain ⟨s3, s4, h⟩ := h
      obtain ⟨s5, h⟩ := h
      obtain ⟨s6, s7, h⟩ := h
      obtain ⟨s8, h⟩ := h
      obtain ⟨s9, h⟩ := h
      exact AtV.go tabOk ext11Ok mixed false [] [] [0, 1, 5] [0] [true] (a1 b0 (a1 s0 (a1 s1 (a1 s2 (a1 trivial (a1 s3 (a1 s4 (a1 s5 (a1 trivial (a1 s6 (a1 s7 (a1 s8 (a1 s9 trivial))))))))))))) (ih2 _ _ _ _ _ h K q) (by kernel_rfl)
    · rw [if_neg b0] at h
      replace b0 := Bool.eq_false_iff.2 b0
      obtain ⟨h, h'⟩ := h; subst h; subst h'
      exact AtV.ret Tryz.func11 tabOk ext11Ok mixed false [] tys11 [false] (a1 b0 trivial) (by kernel_rfl)
def M11 (x1 : Int) (n : Nat) : List TyB3 := (List.range n).map fun (j : Nat) => ((x1 + 3 * (j : Int)), g44_0 (x1 + 3 * (j : Int) + 1), g44_0 (x1 + 3 * (j : Int) + 1 + 1), ())
theorem M11_len (x1 : Int) (n : Nat) : (M11 x1 n).length = n := by simp [M11]
theorem M11_succ (x1 : Int) (n : Nat) : M11 x1 (n + 1) = M11 x1 n ++ [((x1 + 3 * (n : Int)), g44_0 (x1 + 3 * (n : Int) + 1), g44_0 (x1 + 3 * (n : Int) + 1 + 1), ())] := by
  simp [M11, List.range_succ]
theorem run11 (x0 : List TyB3) (x1 : Int) (hm : x0.length ≤ maxLen) (h0 : 0 ≤ x1) (h1 : x1 + 3 * x0.length ≤ 9223372036854775807) : ∀ (k i : Nat), i + k = x0.length →
    R11_2 (k + 1) (i : Int) (x1 + 3 * (i : Int)) (M11 x1 i ++ x0.drop i) [⟨.int .i64, x1 + 3 * (x0.length : Int)⟩] [some ⟨(.cons (.int .i64) (.cons .str (.cons .str .unit))), M11 x1 x0.length⟩] := by
  intro k
  induction k with
  | zero =>
    intro i hi
    have hl : (M11 x1 i ++ x0.drop i).length = x0.length := by simp [M11_len]; omega
    rw [R11_2, if_neg (by rw [hl]; simp; omega), drop_end x0 i (by omega), List.append_nil]
    have : i = x0.length := by omega
    subst this
    exact ⟨rfl, rfl⟩
  | succ k ih =>
    intro i hi
    have hl : (M11 x1 i ++ x0.drop i).length = x0.length := by simp [M11_len]; omega
    have hA := M11_len x1 i
    rw [R11_2, if_pos (by rw [hl]; simp; omega)]
    rw [drop_get x0 i ((0 : Int), ByteArray.empty, ByteArray.empty, ()) (by omega)] at hl ⊢
    simp only [Int.toNat_natCast, set_mid _ _ _ _ i hA, get_mid _ _ _ _ i hA]
    have hl' : ∀ y : TyB3, ((M11 x1 i ++ y :: x0.drop (i + 1)).length : Int) = x0.length := fun y => by rw [← hl]; simp
    simp only [hl']
    refine ⟨by omega, by omega, by rw [i64_iff]; omega, by omega, by omega, by rw [i64_iff]; omega, by omega, by omega, by rw [i64_iff]; omega, inR_up hm (by omega), ?_⟩
    have hx : x1 + 3 * (i : Int) + 1 + 1 + 1 = x1 + 3 * ((i + 1 : Nat) : Int) := by omega
    have := ih (i + 1) (by omega)
    rw [M11_succ, List.append_assoc] at this
    rw [hx]
    simpa using this
def P11 (x0 : List TyB3) (x1 : Int) : Prop := 0 ≤ x1 ∧ x1 + 3 * x0.length ≤ 9223372036854775807
def g11_0 (x0 : List TyB3) (x1 : Int) : Int := x1 + 3 * (x0.length : Int)
def u11_0 (x0 : List TyB3) (x1 : Int) : List TyB3 := M11 x1 x0.length
theorem top11 (x0 : List TyB3) (x1 : Int) (hm : x0.length ≤ maxLen) (h : P11 x0 x1) : R11 (x0.length + 1 + 1) x0 x1 [⟨.int .i64, g11_0 x0 x1⟩] [some ⟨(.cons (.int .i64) (.cons .str (.cons .str .unit))), u11_0 x0 x1⟩] := by
  rw [R11]
  have := run11 x0 x1 hm h.1 h.2 x0.length 0 (by omega)
  simpa [M11, g11_0, u11_0] using this
def S11 : Am.Spec := { sig := sig11, pre := fun ⟨x0, x1, _⟩ => P11 x0 x1, upd := fun ⟨x0, x1, _⟩ => [some ⟨(.cons (.int .i64) (.cons .str (.cons .str .unit))), u11_0 x0 x1⟩], res := fun ⟨x0, x1, _⟩ => [⟨.int .i64, g11_0 x0 x1⟩] }
theorem con11 : Contract Tryz.prog 11 S11 := contract_of Tryz.func11 hb11 (Nat.le_of_ble_eq_true (by kernel_rfl)) (fun ⟨x0, x1, _⟩ h hwf K q =>
  (snd11 _).1 x0 x1 _ _ (top11 x0 x1 hwf.1.1 h) K q)
end
noncomputable section
def ext12 : Ext := [(44, S44)]
theorem ext12Ok : ExtOk Tryz.prog ext12 := ⟨⟨ca44, con44⟩, trivial⟩
noncomputable def b12 : Code := bodyOf Tryz.f12
theorem hb12 : Tryz.f12.body = some b12 := by kernel_rfl
def sig12 : List AT := [AT.v (Ty.sl YA8), AT.v (Ty.int .i64)]
def tys12 : List Ty := [Ty.int .i64]
def kds12 : List RK := []
def oks12 : List AT := owns sig12
def E12_2 (v5 : Int) (x0 : List TyB3) (x1 : Int) : Env := [(0, PV.a (Atom.sl YA8 x0)), (1, PV.a (Atom.val (Value.int .i64 x1))), (5, PV.a (Atom.val (Value.int .i64 v5)))]
def L12_2 (v5 : Int) (x0 : List TyB3) (x1 : Int) : Heap := []
mutual
def R12 : Nat → List TyB3 → Int → List Dyn → Prop
  | 0, _, _, _ => False
  | n + 1, x0, x1, ds => (R12_2 n (0) (x0) (x1) ds)
def R12_2 : Nat → Int → List TyB3 → Int → List Dyn → Prop
  | 0, _, _, _, _ => False
  | n + 1, v5, x0, x1, ds => (if (decide (v5 < (↑(List.length x0) : Int))) = true then ((0 ≤ v5) ∧ (v5 < (↑(List.length x0) : Int)) ∧ (if ((List.getD x0 (Int.toNat v5) (0, ByteArray.empty, ByteArray.empty, ())).1 != x1) = true then (ds = [Dyn.mk (Ty.int .i64) (-1)]) else ((InR .i64 (x1 + 1)) ∧ ((0 ≤ v5) ∧ (v5 < (↑(List.length x0) : Int)) ∧ (if (!ByteArray.toList (List.getD x0 (Int.toNat v5) (0, ByteArray.empty, ByteArray.empty, ())).2.1 == ByteArray.toList (g44_0 (x1 + 1))) = true then (ds = [Dyn.mk (Ty.int .i64) (-1)]) else ((InR .i64 (x1 + 1 + 1)) ∧ ((0 ≤ v5) ∧ (v5 < (↑(List.length x0) : Int)) ∧ (if (!ByteArray.toList (List.getD x0 (Int.toNat v5) (0, ByteArray.empty, ByteArray.empty, ())).2.2.1 == ByteArray.toList (g44_0 (x1 + 1 + 1))) = true then (ds = [Dyn.mk (Ty.int .i64) (-1)]) else ((InR .i64 (x1 + 1 + 1 + 1)) ∧ ((InR .i64 (v5 + 1)) ∧ (R12_2 n (v5 + 1) (x0) (x1 + 1 + 1 + 1) ds))))))))))) else (ds = [Dyn.mk (Ty.int .i64) x1]))
end
theorem snd12 : ∀ n, (∀ (x0 : List TyB3) (x1 : Int) ds, R12 n x0 x1 ds → ∀ K q, AtV Tryz.prog 12 (PostR kds12 oks12 ds [] [] q K) 42 K q [] [.code b12] (entE 0 0 sig12 (x0, x1, ())) (entL sig12 (x0, x1, ()))) ∧ (∀ (v5 : Int) (x0 : List TyB3) (x1 : Int) ds, R12_2 n v5 x0 x1 ds → ∀ K q, AtV Tryz.prog 12 (PostR kds12 oks12 ds [] [] q K) 42 K q [] (cutAt b12 2) (E12_2 v5 x0 x1) (L12_2 v5 x0 x1)) := by
  intro n
  induction n with
  | zero => exact ⟨fun _ _ _ h => by simp only [R12] at h, fun _ _ _ _ h => by simp only [R12_2] at h⟩
  | succ n ih =>
  obtain ⟨ih, ih2⟩ := ih
  refine ⟨?_, ?_⟩
  · intro x0 x1 ds h K q
    rw [R12] at h
    exact AtV.go tabOk ext12Ok mixed false [] [] [0, 1, 5] [] [] trivial (ih2 _ _ _ _ h K q) (by kernel_rfl)
  · intro v5 x0 x1 ds h K q
    rw [R12_2] at h
    by_cases b0 : (decide (v5 < (↑(List.length x0) : Int))) = true
    · rw [if_pos b0] at h
      obtain ⟨s0, s1, h⟩ := h
      by_cases b1 : ((List.getD x0 (Int.toNat v5) (0, ByteArray.empty, ByteArray.empty, ())).1 != x1) = true
      · rw [if_pos b1] at h
        subst h
        exact AtV.ret Tryz.func12 tabOk ext12Ok mixed false [] tys12 [true, true] (a1 b0 (a1 s0 (a1 s1 (a1 b1 trivial)))) (by kernel_rfl)
      · rw [if_neg b1] at h
        replace b1 := Bool.eq_false_iff.2 b1
        obtain ⟨s2, h⟩ := h
        obtain ⟨s3, s4, h⟩ := h
        by_cases b2 : (!ByteArray.toList (List.getD x0 (Int.toNat v5) (0, ByteArray.empty, ByteArray.empty, ())).2.1 == ByteArray.toList (g44_0 (x1 + 1))) = true
        · rw [if_pos b2] at h
          subst h
          exact AtV.ret Tryz.func12 tabOk ext12Ok mixed false [] tys12 [true, false, true] (a1 b0 (a1 s0 (a1 s1 (a1 b1 (a1 s2 (a1 s3 (a1 s4 (a1 trivial (a1 b2 trivial))))))))) (by kernel_rfl)
        · rw [if_neg b2] at h
          replace b2 := Bool.eq_false_iff.2 b2
          obtain ⟨s5, h⟩ := h
          obtain ⟨s6, s7, h⟩ := h
          by_cases b3 : (!ByteArray.toList (List.getD x0 (Int.toNat v5) (0, ByteArray.empty, ByteArray.empty, ())).2.2.1 == ByteArray.toList (g44_0 (x1 + 1 + 1))) = true
          · rw [if_pos b3] at h
            subst h
            exact AtV.ret Tryz.func12 tabOk ext12Ok mixed false [] tys12 [true, false, false, true] (a1 b0 (a1 s0 (a1 s1 (a1 b1 (a1 s2 (a1 s3 (a1 s4 (a1 trivial (a1 b2 (a1 s5 (a1 s6 (a1 s7 (a1 trivial (a1 b3 trivial)))))))))))))) (by kernel_rfl)
          · rw [if_neg b3] at h
            replace b3 := Bool.eq_false_iff.2 b3
            obtain ⟨s8, h⟩ := h
            obtain ⟨s9, h⟩ := h
            exact AtV.go tabOk ext12Ok mixed false [] [] [0, 1, 5] [] [true, false, false, false] (a1 b0 (a1 s0 (a1 s1 (a1 b1 (a1 s2 (a1 s3 (a1 s4 (a1 trivial (a1 b2 (a1 s5 (a1 s6 (a1 s7 (a1 trivial (a1 b3 (a1 s8 (a1 s9 trivial)))))))))))))))) (ih2 _ _ _ _ h K q) (by kernel_rfl)
    · rw [if_neg b0] at h
      replace b0 := Bool.eq_false_iff.2 b0
      subst h
      exact AtV.ret Tryz.func12 tabOk ext12Ok mixed false [] tys12 [false] (a1 b0 trivial) (by kernel_rfl)
theorem run12 (x0 : List TyB3) (x1 : Int) (hm : x0.length ≤ maxLen) (h0 : 0 ≤ x1) (h1 : x1 + 3 * x0.length ≤ 9223372036854775807) (he : ∀ i : Nat, i < x0.length → x0.getD i ((0 : Int), ByteArray.empty, ByteArray.empty, ()) = ((x1 + 3 * (i : Int)), g44_0 (x1 + 3 * (i : Int) + 1), g44_0 (x1 + 3 * (i : Int) + 1 + 1), ())) : ∀ (k i : Nat), i + k = x0.length →
    R12_2 (k + 1) (i : Int) x0 (x1 + 3 * (i : Int)) [⟨.int .i64, x1 + 3 * (x0.length : Int)⟩] := by
  intro k
  induction k with
  | zero =>
    intro i hi
    rw [R12_2, if_neg (by simp; omega)]
    have : i = x0.length := by omega
    subst this
    rfl
  | succ k ih =>
    intro i hi
    rw [R12_2, if_pos (by simp; omega)]
    simp only [Int.toNat_natCast, he i (by omega)]
    have hb : ∀ y : ByteArray, (!(ByteArray.toList y == ByteArray.toList y)) = true → False := fun y h => by rw [(bytes_eq y y).2 rfl] at h; cases h
    refine ⟨by omega, by omega, ?_⟩
    rw [if_neg (by simp only [bne_self_eq_false, Bool.false_eq_true, not_false_eq_true])]
    refine ⟨by rw [i64_iff]; omega, by omega, by omega, ?_⟩
    rw [if_neg (hb _)]
    refine ⟨by rw [i64_iff]; omega, by omega, by omega, ?_⟩
    rw [if_neg (hb _)]
    refine ⟨by rw [i64_iff]; omega, inR_up hm (by omega), ?_⟩
    have hx : x1 + 3 * (i : Int) + 1 + 1 + 1 = x1 + 3 * ((i + 1 : Nat) : Int) := by omega
    rw [hx]
    exact ih (i + 1) (by omega)
def P12 (x0 : List TyB3) (x1 : Int) : Prop := (0 ≤ x1 ∧ x1 + 3 * x0.length ≤ 9223372036854775807) ∧ ∀ i : Nat, i < x0.length → x0.getD i ((0 : Int), ByteArray.empty, ByteArray.empty, ()) = ((x1 + 3 * (i : Int)), g44_0 (x1 + 3 * (i : Int) + 1), g44_0 (x1 + 3 * (i : Int) + 1 + 1), ())
def g12_0 (x0 : List TyB3) (x1 : Int) : Int := x1 + 3 * (x0.length : Int)
theorem top12 (x0 : List TyB3) (x1 : Int) (hm : x0.length ≤ maxLen) (h : P12 x0 x1) : R12 (x0.length + 1 + 1) x0 x1 [⟨.int .i64, g12_0 x0 x1⟩] := by
  rw [R12]
  have := run12 x0 x1 hm h.1.1 h.1.2 h.2 x0.length 0 (by omega)
  simpa [g12_0] using this
def S12 : Am.Spec := { sig := sig12, pre := fun ⟨x0, x1, _⟩ => P12 x0 x1, res := fun ⟨x0, x1, _⟩ => [⟨.int .i64, g12_0 x0 x1⟩] }
theorem con12 : Contract Tryz.prog 12 S12 := contract_of Tryz.func12 hb12 (Nat.le_of_ble_eq_true (by kernel_rfl)) (fun ⟨x0, x1, _⟩ h hwf K q =>
  (snd12 _).1 x0 x1 _ (top12 x0 x1 hwf.1.1 h) K q)
end
noncomputable section
def ext3 : Ext := [(4, S4), (6, S6), (5, S5), (7, S7), (8, S8), (9, S9), (10, S10), (11, S11), (12, S12)]
theorem ext3Ok : ExtOk Tryz.prog ext3 := ⟨⟨ca4, con4⟩, ⟨ca6, con6⟩, ⟨ca5, con5⟩, ⟨ca7, con7⟩, ⟨ca8, con8⟩, ⟨ca9, con9⟩, ⟨ca10, con10⟩, ⟨ca11, con11⟩, ⟨ca12, con12⟩, trivial⟩
noncomputable def b3 : Code := bodyOf Tryz.f3
theorem hb3 : Tryz.f3.body = some b3 := by kernel_rfl
def sig3 : List AT := [AT.v YA0]
def tys3 : List Ty := [Ty.bool]
def kds3 : List RK := []
def oks3 : List AT := owns sig3
def P3 (x0 : TyA0) : Prop := ((P4 x0 1048576) ∧ (if (decide (g4_0 x0 1048576 < 0)) = true then True else ((P6 x0) ∧ ((P5 (((g6_0 x0).1.1, (g6_0 x0).1.2.1, (g6_0 x0).1.2.2.1, ()), (g6_0 x0).2.1, ((g6_0 x0).2.2.1.1, (g6_0 x0).2.2.1.2.1, ()), ((g6_0 x0).2.2.2.1.1, (g6_0 x0).2.2.2.1.2.1, (g6_0 x0).2.2.2.1.2.2.1, (g6_0 x0).2.2.2.1.2.2.2.1, ()), (g6_0 x0).2.2.2.2.1, ((g6_0 x0).2.2.2.2.2.1.1, (g6_0 x0).2.2.2.2.2.1.2.1, (g6_0 x0).2.2.2.2.2.1.2.2.1, ()), (g6_0 x0).2.2.2.2.2.2.1, (g6_0 x0).2.2.2.2.2.2.2.1, (g6_0 x0).2.2.2.2.2.2.2.2.1, (g6_0 x0).2.2.2.2.2.2.2.2.2.1, (g6_0 x0).2.2.2.2.2.2.2.2.2.2.1, (g6_0 x0).2.2.2.2.2.2.2.2.2.2.2.1, ())) ∧ ((P6 x0) ∧ ((P7 (((g6_0 x0).1.1, (g6_0 x0).1.2.1, (g6_0 x0).1.2.2.1, ()), (g6_0 x0).2.1, ((g6_0 x0).2.2.1.1, (g6_0 x0).2.2.1.2.1, ()), ((g6_0 x0).2.2.2.1.1, (g6_0 x0).2.2.2.1.2.1, (g6_0 x0).2.2.2.1.2.2.1, (g6_0 x0).2.2.2.1.2.2.2.1, ()), (g6_0 x0).2.2.2.2.1, ((g6_0 x0).2.2.2.2.2.1.1, (g6_0 x0).2.2.2.2.2.1.2.1, (g6_0 x0).2.2.2.2.2.1.2.2.1, ()), (g6_0 x0).2.2.2.2.2.2.1, (g6_0 x0).2.2.2.2.2.2.2.1, (g6_0 x0).2.2.2.2.2.2.2.2.1, (g6_0 x0).2.2.2.2.2.2.2.2.2.1, (g6_0 x0).2.2.2.2.2.2.2.2.2.2.1, (g6_0 x0).2.2.2.2.2.2.2.2.2.2.2.1, ())) ∧ (if (!g8_0 (g7_0 (((g6_0 x0).1.1, (g6_0 x0).1.2.1, (g6_0 x0).1.2.2.1, ()), (g6_0 x0).2.1, ((g6_0 x0).2.2.1.1, (g6_0 x0).2.2.1.2.1, ()), ((g6_0 x0).2.2.2.1.1, (g6_0 x0).2.2.2.1.2.1, (g6_0 x0).2.2.2.1.2.2.1, (g6_0 x0).2.2.2.1.2.2.2.1, ()), (g6_0 x0).2.2.2.2.1, ((g6_0 x0).2.2.2.2.2.1.1, (g6_0 x0).2.2.2.2.2.1.2.1, (g6_0 x0).2.2.2.2.2.1.2.2.1, ()), (g6_0 x0).2.2.2.2.2.2.1, (g6_0 x0).2.2.2.2.2.2.2.1, (g6_0 x0).2.2.2.2.2.2.2.2.1, (g6_0 x0).2.2.2.2.2.2.2.2.2.1, (g6_0 x0).2.2.2.2.2.2.2.2.2.2.1, (g6_0 x0).2.2.2.2.2.2.2.2.2.2.2.1, ())) (g5_0 (((g6_0 x0).1.1, (g6_0 x0).1.2.1, (g6_0 x0).1.2.2.1, ()), (g6_0 x0).2.1, ((g6_0 x0).2.2.1.1, (g6_0 x0).2.2.1.2.1, ()), ((g6_0 x0).2.2.2.1.1, (g6_0 x0).2.2.2.1.2.1, (g6_0 x0).2.2.2.1.2.2.1, (g6_0 x0).2.2.2.1.2.2.2.1, ()), (g6_0 x0).2.2.2.2.1, ((g6_0 x0).2.2.2.2.2.1.1, (g6_0 x0).2.2.2.2.2.1.2.1, (g6_0 x0).2.2.2.2.2.1.2.2.1, ()), (g6_0 x0).2.2.2.2.2.2.1, (g6_0 x0).2.2.2.2.2.2.2.1, (g6_0 x0).2.2.2.2.2.2.2.2.1, (g6_0 x0).2.2.2.2.2.2.2.2.2.1, (g6_0 x0).2.2.2.2.2.2.2.2.2.2.1, (g6_0 x0).2.2.2.2.2.2.2.2.2.2.2.1, ()))) = true then True else (if (g7_1 (((g6_0 x0).1.1, (g6_0 x0).1.2.1, (g6_0 x0).1.2.2.1, ()), (g6_0 x0).2.1, ((g6_0 x0).2.2.1.1, (g6_0 x0).2.2.1.2.1, ()), ((g6_0 x0).2.2.2.1.1, (g6_0 x0).2.2.2.1.2.1, (g6_0 x0).2.2.2.1.2.2.1, (g6_0 x0).2.2.2.1.2.2.2.1, ()), (g6_0 x0).2.2.2.2.1, ((g6_0 x0).2.2.2.2.2.1.1, (g6_0 x0).2.2.2.2.2.1.2.1, (g6_0 x0).2.2.2.2.2.1.2.2.1, ()), (g6_0 x0).2.2.2.2.2.2.1, (g6_0 x0).2.2.2.2.2.2.2.1, (g6_0 x0).2.2.2.2.2.2.2.2.1, (g6_0 x0).2.2.2.2.2.2.2.2.2.1, (g6_0 x0).2.2.2.2.2.2.2.2.2.2.1, (g6_0 x0).2.2.2.2.2.2.2.2.2.2.2.1, ()) != g5_1 (((g6_0 x0).1.1, (g6_0 x0).1.2.1, (g6_0 x0).1.2.2.1, ()), (g6_0 x0).2.1, ((g6_0 x0).2.2.1.1, (g6_0 x0).2.2.1.2.1, ()), ((g6_0 x0).2.2.2.1.1, (g6_0 x0).2.2.2.1.2.1, (g6_0 x0).2.2.2.1.2.2.1, (g6_0 x0).2.2.2.1.2.2.2.1, ()), (g6_0 x0).2.2.2.2.1, ((g6_0 x0).2.2.2.2.2.1.1, (g6_0 x0).2.2.2.2.2.1.2.1, (g6_0 x0).2.2.2.2.2.1.2.2.1, ()), (g6_0 x0).2.2.2.2.2.2.1, (g6_0 x0).2.2.2.2.2.2.2.1, (g6_0 x0).2.2.2.2.2.2.2.2.1, (g6_0 x0).2.2.2.2.2.2.2.2.2.1, (g6_0 x0).2.2.2.2.2.2.2.2.2.2.1, (g6_0 x0).2.2.2.2.2.2.2.2.2.2.2.1, ())) = true then True else ((P6 x0) ∧ (if (!g9_0 (((g6_0 x0).1.1, (g6_0 x0).1.2.1, (g6_0 x0).1.2.2.1, ()), (g6_0 x0).2.1, ((g6_0 x0).2.2.1.1, (g6_0 x0).2.2.1.2.1, ()), ((g6_0 x0).2.2.2.1.1, (g6_0 x0).2.2.2.1.2.1, (g6_0 x0).2.2.2.1.2.2.1, (g6_0 x0).2.2.2.1.2.2.2.1, ()), (g6_0 x0).2.2.2.2.1, ((g6_0 x0).2.2.2.2.2.1.1, (g6_0 x0).2.2.2.2.2.1.2.1, (g6_0 x0).2.2.2.2.2.1.2.2.1, ()), (g6_0 x0).2.2.2.2.2.2.1, (g6_0 x0).2.2.2.2.2.2.2.1, (g6_0 x0).2.2.2.2.2.2.2.2.1, (g6_0 x0).2.2.2.2.2.2.2.2.2.1, (g6_0 x0).2.2.2.2.2.2.2.2.2.2.1, (g6_0 x0).2.2.2.2.2.2.2.2.2.2.2.1, ()) (((g6_0 x0).1.1, (g6_0 x0).1.2.1, (g6_0 x0).1.2.2.1, ()), (g6_0 x0).2.1, ((g6_0 x0).2.2.1.1, (g6_0 x0).2.2.1.2.1, ()), ((g6_0 x0).2.2.2.1.1, (g6_0 x0).2.2.2.1.2.1, (g6_0 x0).2.2.2.1.2.2.1, (g6_0 x0).2.2.2.1.2.2.2.1, ()), (g6_0 x0).2.2.2.2.1, ((g6_0 x0).2.2.2.2.2.1.1, (g6_0 x0).2.2.2.2.2.1.2.1, (g6_0 x0).2.2.2.2.2.1.2.2.1, ()), (g6_0 x0).2.2.2.2.2.2.1, (g6_0 x0).2.2.2.2.2.2.2.1, (g6_0 x0).2.2.2.2.2.2.2.2.1, (g6_0 x0).2.2.2.2.2.2.2.2.2.1, (g6_0 x0).2.2.2.2.2.2.2.2.2.2.1, (g6_0 x0).2.2.2.2.2.2.2.2.2.2.2.1, ())) = true then True else ((P10 (((g6_0 x0).1.1, (g6_0 x0).1.2.1, (g6_0 x0).1.2.2.1, ()), (g6_0 x0).2.1, ((g6_0 x0).2.2.1.1, (g6_0 x0).2.2.1.2.1, ()), ((g6_0 x0).2.2.2.1.1, (g6_0 x0).2.2.2.1.2.1, (g6_0 x0).2.2.2.1.2.2.1, (g6_0 x0).2.2.2.1.2.2.2.1, ()), (g6_0 x0).2.2.2.2.1, ((g6_0 x0).2.2.2.2.2.1.1, (g6_0 x0).2.2.2.2.2.1.2.1, (g6_0 x0).2.2.2.2.2.1.2.2.1, ()), (g6_0 x0).2.2.2.2.2.2.1, (g6_0 x0).2.2.2.2.2.2.2.1, (g6_0 x0).2.2.2.2.2.2.2.2.1, (g6_0 x0).2.2.2.2.2.2.2.2.2.1, (g6_0 x0).2.2.2.2.2.2.2.2.2.2.1, (g6_0 x0).2.2.2.2.2.2.2.2.2.2.2.1, ()) 1) ∧ (List.length (u10_0 (((g6_0 x0).1.1, (g6_0 x0).1.2.1, (g6_0 x0).1.2.2.1, ()), (g6_0 x0).2.1, ((g6_0 x0).2.2.1.1, (g6_0 x0).2.2.1.2.1, ()), ((g6_0 x0).2.2.2.1.1, (g6_0 x0).2.2.2.1.2.1, (g6_0 x0).2.2.2.1.2.2.1, (g6_0 x0).2.2.2.1.2.2.2.1, ()), (g6_0 x0).2.2.2.2.1, ((g6_0 x0).2.2.2.2.2.1.1, (g6_0 x0).2.2.2.2.2.1.2.1, (g6_0 x0).2.2.2.2.2.1.2.2.1, ()), (g6_0 x0).2.2.2.2.2.2.1, (g6_0 x0).2.2.2.2.2.2.2.1, (g6_0 x0).2.2.2.2.2.2.2.2.1, (g6_0 x0).2.2.2.2.2.2.2.2.2.1, (g6_0 x0).2.2.2.2.2.2.2.2.2.2.1, (g6_0 x0).2.2.2.2.2.2.2.2.2.2.2.1, ()) 1).1.1 = List.length (g6_0 x0).1.1) ∧ (List.length (u10_0 (((g6_0 x0).1.1, (g6_0 x0).1.2.1, (g6_0 x0).1.2.2.1, ()), (g6_0 x0).2.1, ((g6_0 x0).2.2.1.1, (g6_0 x0).2.2.1.2.1, ()), ((g6_0 x0).2.2.2.1.1, (g6_0 x0).2.2.2.1.2.1, (g6_0 x0).2.2.2.1.2.2.1, (g6_0 x0).2.2.2.1.2.2.2.1, ()), (g6_0 x0).2.2.2.2.1, ((g6_0 x0).2.2.2.2.2.1.1, (g6_0 x0).2.2.2.2.2.1.2.1, (g6_0 x0).2.2.2.2.2.1.2.2.1, ()), (g6_0 x0).2.2.2.2.2.2.1, (g6_0 x0).2.2.2.2.2.2.2.1, (g6_0 x0).2.2.2.2.2.2.2.2.1, (g6_0 x0).2.2.2.2.2.2.2.2.2.1, (g6_0 x0).2.2.2.2.2.2.2.2.2.2.1, (g6_0 x0).2.2.2.2.2.2.2.2.2.2.2.1, ()) 1).2.2.2.2.1 = List.length (g6_0 x0).2.2.2.2.1) ∧ (List.length (u10_0 (((g6_0 x0).1.1, (g6_0 x0).1.2.1, (g6_0 x0).1.2.2.1, ()), (g6_0 x0).2.1, ((g6_0 x0).2.2.1.1, (g6_0 x0).2.2.1.2.1, ()), ((g6_0 x0).2.2.2.1.1, (g6_0 x0).2.2.2.1.2.1, (g6_0 x0).2.2.2.1.2.2.1, (g6_0 x0).2.2.2.1.2.2.2.1, ()), (g6_0 x0).2.2.2.2.1, ((g6_0 x0).2.2.2.2.2.1.1, (g6_0 x0).2.2.2.2.2.1.2.1, (g6_0 x0).2.2.2.2.2.1.2.2.1, ()), (g6_0 x0).2.2.2.2.2.2.1, (g6_0 x0).2.2.2.2.2.2.2.1, (g6_0 x0).2.2.2.2.2.2.2.2.1, (g6_0 x0).2.2.2.2.2.2.2.2.2.1, (g6_0 x0).2.2.2.2.2.2.2.2.2.2.1, (g6_0 x0).2.2.2.2.2.2.2.2.2.2.2.1, ()) 1).2.2.2.2.2.2.1 = List.length (g6_0 x0).2.2.2.2.2.2.1) ∧ (List.length (u10_0 (((g6_0 x0).1.1, (g6_0 x0).1.2.1, (g6_0 x0).1.2.2.1, ()), (g6_0 x0).2.1, ((g6_0 x0).2.2.1.1, (g6_0 x0).2.2.1.2.1, ()), ((g6_0 x0).2.2.2.1.1, (g6_0 x0).2.2.2.1.2.1, (g6_0 x0).2.2.2.1.2.2.1, (g6_0 x0).2.2.2.1.2.2.2.1, ()), (g6_0 x0).2.2.2.2.1, ((g6_0 x0).2.2.2.2.2.1.1, (g6_0 x0).2.2.2.2.2.1.2.1, (g6_0 x0).2.2.2.2.2.1.2.2.1, ()), (g6_0 x0).2.2.2.2.2.2.1, (g6_0 x0).2.2.2.2.2.2.2.1, (g6_0 x0).2.2.2.2.2.2.2.2.1, (g6_0 x0).2.2.2.2.2.2.2.2.2.1, (g6_0 x0).2.2.2.2.2.2.2.2.2.2.1, (g6_0 x0).2.2.2.2.2.2.2.2.2.2.2.1, ()) 1).2.2.2.2.2.2.2.2.2.1 = List.length (g6_0 x0).2.2.2.2.2.2.2.2.2.1) ∧ (List.length (u10_0 (((g6_0 x0).1.1, (g6_0 x0).1.2.1, (g6_0 x0).1.2.2.1, ()), (g6_0 x0).2.1, ((g6_0 x0).2.2.1.1, (g6_0 x0).2.2.1.2.1, ()), ((g6_0 x0).2.2.2.1.1, (g6_0 x0).2.2.2.1.2.1, (g6_0 x0).2.2.2.1.2.2.1, (g6_0 x0).2.2.2.1.2.2.2.1, ()), (g6_0 x0).2.2.2.2.1, ((g6_0 x0).2.2.2.2.2.1.1, (g6_0 x0).2.2.2.2.2.1.2.1, (g6_0 x0).2.2.2.2.2.1.2.2.1, ()), (g6_0 x0).2.2.2.2.2.2.1, (g6_0 x0).2.2.2.2.2.2.2.1, (g6_0 x0).2.2.2.2.2.2.2.2.1, (g6_0 x0).2.2.2.2.2.2.2.2.2.1, (g6_0 x0).2.2.2.2.2.2.2.2.2.2.1, (g6_0 x0).2.2.2.2.2.2.2.2.2.2.2.1, ()) 1).2.2.2.2.2.2.2.2.2.2.2.1 = List.length (g6_0 x0).2.2.2.2.2.2.2.2.2.2.2.1) ∧ (if (decide (g10_0 (((g6_0 x0).1.1, (g6_0 x0).1.2.1, (g6_0 x0).1.2.2.1, ()), (g6_0 x0).2.1, ((g6_0 x0).2.2.1.1, (g6_0 x0).2.2.1.2.1, ()), ((g6_0 x0).2.2.2.1.1, (g6_0 x0).2.2.2.1.2.1, (g6_0 x0).2.2.2.1.2.2.1, (g6_0 x0).2.2.2.1.2.2.2.1, ()), (g6_0 x0).2.2.2.2.1, ((g6_0 x0).2.2.2.2.2.1.1, (g6_0 x0).2.2.2.2.2.1.2.1, (g6_0 x0).2.2.2.2.2.1.2.2.1, ()), (g6_0 x0).2.2.2.2.2.2.1, (g6_0 x0).2.2.2.2.2.2.2.1, (g6_0 x0).2.2.2.2.2.2.2.2.1, (g6_0 x0).2.2.2.2.2.2.2.2.2.1, (g6_0 x0).2.2.2.2.2.2.2.2.2.2.1, (g6_0 x0).2.2.2.2.2.2.2.2.2.2.2.1, ()) 1 < 0)) = true then True else ((P11 (g7_0 (((g6_0 x0).1.1, (g6_0 x0).1.2.1, (g6_0 x0).1.2.2.1, ()), (g6_0 x0).2.1, ((g6_0 x0).2.2.1.1, (g6_0 x0).2.2.1.2.1, ()), ((g6_0 x0).2.2.2.1.1, (g6_0 x0).2.2.2.1.2.1, (g6_0 x0).2.2.2.1.2.2.1, (g6_0 x0).2.2.2.1.2.2.2.1, ()), (g6_0 x0).2.2.2.2.1, ((g6_0 x0).2.2.2.2.2.1.1, (g6_0 x0).2.2.2.2.2.1.2.1, (g6_0 x0).2.2.2.2.2.1.2.2.1, ()), (g6_0 x0).2.2.2.2.2.2.1, (g6_0 x0).2.2.2.2.2.2.2.1, (g6_0 x0).2.2.2.2.2.2.2.2.1, (g6_0 x0).2.2.2.2.2.2.2.2.2.1, (g6_0 x0).2.2.2.2.2.2.2.2.2.2.1, (g6_0 x0).2.2.2.2.2.2.2.2.2.2.2.1, ())) 1) ∧ (List.length (u11_0 (g7_0 (((g6_0 x0).1.1, (g6_0 x0).1.2.1, (g6_0 x0).1.2.2.1, ()), (g6_0 x0).2.1, ((g6_0 x0).2.2.1.1, (g6_0 x0).2.2.1.2.1, ()), ((g6_0 x0).2.2.2.1.1, (g6_0 x0).2.2.2.1.2.1, (g6_0 x0).2.2.2.1.2.2.1, (g6_0 x0).2.2.2.1.2.2.2.1, ()), (g6_0 x0).2.2.2.2.1, ((g6_0 x0).2.2.2.2.2.1.1, (g6_0 x0).2.2.2.2.2.1.2.1, (g6_0 x0).2.2.2.2.2.1.2.2.1, ()), (g6_0 x0).2.2.2.2.2.2.1, (g6_0 x0).2.2.2.2.2.2.2.1, (g6_0 x0).2.2.2.2.2.2.2.2.1, (g6_0 x0).2.2.2.2.2.2.2.2.2.1, (g6_0 x0).2.2.2.2.2.2.2.2.2.2.1, (g6_0 x0).2.2.2.2.2.2.2.2.2.2.2.1, ())) 1) = List.length (g7_0 (((g6_0 x0).1.1, (g6_0 x0).1.2.1, (g6_0 x0).1.2.2.1, ()), (g6_0 x0).2.1, ((g6_0 x0).2.2.1.1, (g6_0 x0).2.2.1.2.1, ()), ((g6_0 x0).2.2.2.1.1, (g6_0 x0).2.2.2.1.2.1, (g6_0 x0).2.2.2.1.2.2.1, (g6_0 x0).2.2.2.1.2.2.2.1, ()), (g6_0 x0).2.2.2.2.1, ((g6_0 x0).2.2.2.2.2.1.1, (g6_0 x0).2.2.2.2.2.1.2.1, (g6_0 x0).2.2.2.2.2.1.2.2.1, ()), (g6_0 x0).2.2.2.2.2.2.1, (g6_0 x0).2.2.2.2.2.2.2.1, (g6_0 x0).2.2.2.2.2.2.2.2.1, (g6_0 x0).2.2.2.2.2.2.2.2.2.1, (g6_0 x0).2.2.2.2.2.2.2.2.2.2.1, (g6_0 x0).2.2.2.2.2.2.2.2.2.2.2.1, ()))) ∧ ((P12 (u11_0 (g7_0 (((g6_0 x0).1.1, (g6_0 x0).1.2.1, (g6_0 x0).1.2.2.1, ()), (g6_0 x0).2.1, ((g6_0 x0).2.2.1.1, (g6_0 x0).2.2.1.2.1, ()), ((g6_0 x0).2.2.2.1.1, (g6_0 x0).2.2.2.1.2.1, (g6_0 x0).2.2.2.1.2.2.1, (g6_0 x0).2.2.2.1.2.2.2.1, ()), (g6_0 x0).2.2.2.2.1, ((g6_0 x0).2.2.2.2.2.1.1, (g6_0 x0).2.2.2.2.2.1.2.1, (g6_0 x0).2.2.2.2.2.1.2.2.1, ()), (g6_0 x0).2.2.2.2.2.2.1, (g6_0 x0).2.2.2.2.2.2.2.1, (g6_0 x0).2.2.2.2.2.2.2.2.1, (g6_0 x0).2.2.2.2.2.2.2.2.2.1, (g6_0 x0).2.2.2.2.2.2.2.2.2.2.1, (g6_0 x0).2.2.2.2.2.2.2.2.2.2.2.1, ())) 1) 1) ∧ (if (decide (g12_0 (u11_0 (g7_0 (((g6_0 x0).1.1, (g6_0 x0).1.2.1, (g6_0 x0).1.2.2.1, ()), (g6_0 x0).2.1, ((g6_0 x0).2.2.1.1, (g6_0 x0).2.2.1.2.1, ()), ((g6_0 x0).2.2.2.1.1, (g6_0 x0).2.2.2.1.2.1, (g6_0 x0).2.2.2.1.2.2.1, (g6_0 x0).2.2.2.1.2.2.2.1, ()), (g6_0 x0).2.2.2.2.1, ((g6_0 x0).2.2.2.2.2.1.1, (g6_0 x0).2.2.2.2.2.1.2.1, (g6_0 x0).2.2.2.2.2.1.2.2.1, ()), (g6_0 x0).2.2.2.2.2.2.1, (g6_0 x0).2.2.2.2.2.2.2.1, (g6_0 x0).2.2.2.2.2.2.2.2.1, (g6_0 x0).2.2.2.2.2.2.2.2.2.1, (g6_0 x0).2.2.2.2.2.2.2.2.2.2.1, (g6_0 x0).2.2.2.2.2.2.2.2.2.2.2.1, ())) 1) 1 < 0)) = true then True else (if (g12_0 (u11_0 (g7_0 (((g6_0 x0).1.1, (g6_0 x0).1.2.1, (g6_0 x0).1.2.2.1, ()), (g6_0 x0).2.1, ((g6_0 x0).2.2.1.1, (g6_0 x0).2.2.1.2.1, ()), ((g6_0 x0).2.2.2.1.1, (g6_0 x0).2.2.2.1.2.1, (g6_0 x0).2.2.2.1.2.2.1, (g6_0 x0).2.2.2.1.2.2.2.1, ()), (g6_0 x0).2.2.2.2.1, ((g6_0 x0).2.2.2.2.2.1.1, (g6_0 x0).2.2.2.2.2.1.2.1, (g6_0 x0).2.2.2.2.2.1.2.2.1, ()), (g6_0 x0).2.2.2.2.2.2.1, (g6_0 x0).2.2.2.2.2.2.2.1, (g6_0 x0).2.2.2.2.2.2.2.2.1, (g6_0 x0).2.2.2.2.2.2.2.2.2.1, (g6_0 x0).2.2.2.2.2.2.2.2.2.2.1, (g6_0 x0).2.2.2.2.2.2.2.2.2.2.2.1, ())) 1) 1 != g11_0 (g7_0 (((g6_0 x0).1.1, (g6_0 x0).1.2.1, (g6_0 x0).1.2.2.1, ()), (g6_0 x0).2.1, ((g6_0 x0).2.2.1.1, (g6_0 x0).2.2.1.2.1, ()), ((g6_0 x0).2.2.2.1.1, (g6_0 x0).2.2.2.1.2.1, (g6_0 x0).2.2.2.1.2.2.1, (g6_0 x0).2.2.2.1.2.2.2.1, ()), (g6_0 x0).2.2.2.2.1, ((g6_0 x0).2.2.2.2.2.1.1, (g6_0 x0).2.2.2.2.2.1.2.1, (g6_0 x0).2.2.2.2.2.1.2.2.1, ()), (g6_0 x0).2.2.2.2.2.2.1, (g6_0 x0).2.2.2.2.2.2.2.1, (g6_0 x0).2.2.2.2.2.2.2.2.1, (g6_0 x0).2.2.2.2.2.2.2.2.2.1, (g6_0 x0).2.2.2.2.2.2.2.2.2.2.1, (g6_0 x0).2.2.2.2.2.2.2.2.2.2.2.1, ())) 1) = true then True else ((P6 x0) ∧ ((P7 (((g6_0 x0).1.1, (g6_0 x0).1.2.1, (g6_0 x0).1.2.2.1, ()), (g6_0 x0).2.1, ((g6_0 x0).2.2.1.1, (g6_0 x0).2.2.1.2.1, ()), ((g6_0 x0).2.2.2.1.1, (g6_0 x0).2.2.2.1.2.1, (g6_0 x0).2.2.2.1.2.2.1, (g6_0 x0).2.2.2.1.2.2.2.1, ()), (g6_0 x0).2.2.2.2.1, ((g6_0 x0).2.2.2.2.2.1.1, (g6_0 x0).2.2.2.2.2.1.2.1, (g6_0 x0).2.2.2.2.2.1.2.2.1, ()), (g6_0 x0).2.2.2.2.2.2.1, (g6_0 x0).2.2.2.2.2.2.2.1, (g6_0 x0).2.2.2.2.2.2.2.2.1, (g6_0 x0).2.2.2.2.2.2.2.2.2.1, (g6_0 x0).2.2.2.2.2.2.2.2.2.2.1, (g6_0 x0).2.2.2.2.2.2.2.2.2.2.2.1, ())) ∧ ((P12 (u11_0 (g7_0 (((g6_0 x0).1.1, (g6_0 x0).1.2.1, (g6_0 x0).1.2.2.1, ()), (g6_0 x0).2.1, ((g6_0 x0).2.2.1.1, (g6_0 x0).2.2.1.2.1, ()), ((g6_0 x0).2.2.2.1.1, (g6_0 x0).2.2.2.1.2.1, (g6_0 x0).2.2.2.1.2.2.1, (g6_0 x0).2.2.2.1.2.2.2.1, ()), (g6_0 x0).2.2.2.2.1, ((g6_0 x0).2.2.2.2.2.1.1, (g6_0 x0).2.2.2.2.2.1.2.1, (g6_0 x0).2.2.2.2.2.1.2.2.1, ()), (g6_0 x0).2.2.2.2.2.2.1, (g6_0 x0).2.2.2.2.2.2.2.1, (g6_0 x0).2.2.2.2.2.2.2.2.1, (g6_0 x0).2.2.2.2.2.2.2.2.2.1, (g6_0 x0).2.2.2.2.2.2.2.2.2.2.1, (g6_0 x0).2.2.2.2.2.2.2.2.2.2.2.1, ())) 1) 1) ∧ True)))))))))))))))))))
def g3_0 (x0 : TyA0) : Bool := (if (decide (g4_0 x0 1048576 < 0)) = true then true else (if (!g8_0 (g7_0 (((g6_0 x0).1.1, (g6_0 x0).1.2.1, (g6_0 x0).1.2.2.1, ()), (g6_0 x0).2.1, ((g6_0 x0).2.2.1.1, (g6_0 x0).2.2.1.2.1, ()), ((g6_0 x0).2.2.2.1.1, (g6_0 x0).2.2.2.1.2.1, (g6_0 x0).2.2.2.1.2.2.1, (g6_0 x0).2.2.2.1.2.2.2.1, ()), (g6_0 x0).2.2.2.2.1, ((g6_0 x0).2.2.2.2.2.1.1, (g6_0 x0).2.2.2.2.2.1.2.1, (g6_0 x0).2.2.2.2.2.1.2.2.1, ()), (g6_0 x0).2.2.2.2.2.2.1, (g6_0 x0).2.2.2.2.2.2.2.1, (g6_0 x0).2.2.2.2.2.2.2.2.1, (g6_0 x0).2.2.2.2.2.2.2.2.2.1, (g6_0 x0).2.2.2.2.2.2.2.2.2.2.1, (g6_0 x0).2.2.2.2.2.2.2.2.2.2.2.1, ())) (g5_0 (((g6_0 x0).1.1, (g6_0 x0).1.2.1, (g6_0 x0).1.2.2.1, ()), (g6_0 x0).2.1, ((g6_0 x0).2.2.1.1, (g6_0 x0).2.2.1.2.1, ()), ((g6_0 x0).2.2.2.1.1, (g6_0 x0).2.2.2.1.2.1, (g6_0 x0).2.2.2.1.2.2.1, (g6_0 x0).2.2.2.1.2.2.2.1, ()), (g6_0 x0).2.2.2.2.1, ((g6_0 x0).2.2.2.2.2.1.1, (g6_0 x0).2.2.2.2.2.1.2.1, (g6_0 x0).2.2.2.2.2.1.2.2.1, ()), (g6_0 x0).2.2.2.2.2.2.1, (g6_0 x0).2.2.2.2.2.2.2.1, (g6_0 x0).2.2.2.2.2.2.2.2.1, (g6_0 x0).2.2.2.2.2.2.2.2.2.1, (g6_0 x0).2.2.2.2.2.2.2.2.2.2.1, (g6_0 x0).2.2.2.2.2.2.2.2.2.2.2.1, ()))) = true then false else (if (g7_1 (((g6_0 x0).1.1, (g6_0 x0).1.2.1, (g6_0 x0).1.2.2.1, ()), (g6_0 x0).2.1, ((g6_0 x0).2.2.1.1, (g6_0 x0).2.2.1.2.1, ()), ((g6_0 x0).2.2.2.1.1, (g6_0 x0).2.2.2.1.2.1, (g6_0 x0).2.2.2.1.2.2.1, (g6_0 x0).2.2.2.1.2.2.2.1, ()), (g6_0 x0).2.2.2.2.1, ((g6_0 x0).2.2.2.2.2.1.1, (g6_0 x0).2.2.2.2.2.1.2.1, (g6_0 x0).2.2.2.2.2.1.2.2.1, ()), (g6_0 x0).2.2.2.2.2.2.1, (g6_0 x0).2.2.2.2.2.2.2.1, (g6_0 x0).2.2.2.2.2.2.2.2.1, (g6_0 x0).2.2.2.2.2.2.2.2.2.1, (g6_0 x0).2.2.2.2.2.2.2.2.2.2.1, (g6_0 x0).2.2.2.2.2.2.2.2.2.2.2.1, ()) != g5_1 (((g6_0 x0).1.1, (g6_0 x0).1.2.1, (g6_0 x0).1.2.2.1, ()), (g6_0 x0).2.1, ((g6_0 x0).2.2.1.1, (g6_0 x0).2.2.1.2.1, ()), ((g6_0 x0).2.2.2.1.1, (g6_0 x0).2.2.2.1.2.1, (g6_0 x0).2.2.2.1.2.2.1, (g6_0 x0).2.2.2.1.2.2.2.1, ()), (g6_0 x0).2.2.2.2.1, ((g6_0 x0).2.2.2.2.2.1.1, (g6_0 x0).2.2.2.2.2.1.2.1, (g6_0 x0).2.2.2.2.2.1.2.2.1, ()), (g6_0 x0).2.2.2.2.2.2.1, (g6_0 x0).2.2.2.2.2.2.2.1, (g6_0 x0).2.2.2.2.2.2.2.2.1, (g6_0 x0).2.2.2.2.2.2.2.2.2.1, (g6_0 x0).2.2.2.2.2.2.2.2.2.2.1, (g6_0 x0).2.2.2.2.2.2.2.2.2.2.2.1, ())) = true then false else (if (!g9_0 (((g6_0 x0).1.1, (g6_0 x0).1.2.1, (g6_0 x0).1.2.2.1, ()), (g6_0 x0).2.1, ((g6_0 x0).2.2.1.1, (g6_0 x0).2.2.1.2.1, ()), ((g6_0 x0).2.2.2.1.1, (g6_0 x0).2.2.2.1.2.1, (g6_0 x0).2.2.2.1.2.2.1, (g6_0 x0).2.2.2.1.2.2.2.1, ()), (g6_0 x0).2.2.2.2.1, ((g6_0 x0).2.2.2.2.2.1.1, (g6_0 x0).2.2.2.2.2.1.2.1, (g6_0 x0).2.2.2.2.2.1.2.2.1, ()), (g6_0 x0).2.2.2.2.2.2.1, (g6_0 x0).2.2.2.2.2.2.2.1, (g6_0 x0).2.2.2.2.2.2.2.2.1, (g6_0 x0).2.2.2.2.2.2.2.2.2.1, (g6_0 x0).2.2.2.2.2.2.2.2.2.2.1, (g6_0 x0).2.2.2.2.2.2.2.2.2.2.2.1, ()) (((g6_0 x0).1.1, (g6_0 x0).1.2.1, (g6_0 x0).1.2.2.1, ()), (g6_0 x0).2.1, ((g6_0 x0).2.2.1.1, (g6_0 x0).2.2.1.2.1, ()), ((g6_0 x0).2.2.2.1.1, (g6_0 x0).2.2.2.1.2.1, (g6_0 x0).2.2.2.1.2.2.1, (g6_0 x0).2.2.2.1.2.2.2.1, ()), (g6_0 x0).2.2.2.2.1, ((g6_0 x0).2.2.2.2.2.1.1, (g6_0 x0).2.2.2.2.2.1.2.1, (g6_0 x0).2.2.2.2.2.1.2.2.1, ()), (g6_0 x0).2.2.2.2.2.2.1, (g6_0 x0).2.2.2.2.2.2.2.1, (g6_0 x0).2.2.2.2.2.2.2.2.1, (g6_0 x0).2.2.2.2.2.2.2.2.2.1, (g6_0 x0).2.2.2.2.2.2.2.2.2.2.1, (g6_0 x0).2.2.2.2.2.2.2.2.2.2.2.1, ())) = true then false else (if (decide (g10_0 (((g6_0 x0).1.1, (g6_0 x0).1.2.1, (g6_0 x0).1.2.2.1, ()), (g6_0 x0).2.1, ((g6_0 x0).2.2.1.1, (g6_0 x0).2.2.1.2.1, ()), ((g6_0 x0).2.2.2.1.1, (g6_0 x0).2.2.2.1.2.1, (g6_0 x0).2.2.2.1.2.2.1, (g6_0 x0).2.2.2.1.2.2.2.1, ()), (g6_0 x0).2.2.2.2.1, ((g6_0 x0).2.2.2.2.2.1.1, (g6_0 x0).2.2.2.2.2.1.2.1, (g6_0 x0).2.2.2.2.2.1.2.2.1, ()), (g6_0 x0).2.2.2.2.2.2.1, (g6_0 x0).2.2.2.2.2.2.2.1, (g6_0 x0).2.2.2.2.2.2.2.2.1, (g6_0 x0).2.2.2.2.2.2.2.2.2.1, (g6_0 x0).2.2.2.2.2.2.2.2.2.2.1, (g6_0 x0).2.2.2.2.2.2.2.2.2.2.2.1, ()) 1 < 0)) = true then false else (if (decide (g12_0 (u11_0 (g7_0 (((g6_0 x0).1.1, (g6_0 x0).1.2.1, (g6_0 x0).1.2.2.1, ()), (g6_0 x0).2.1, ((g6_0 x0).2.2.1.1, (g6_0 x0).2.2.1.2.1, ()), ((g6_0 x0).2.2.2.1.1, (g6_0 x0).2.2.2.1.2.1, (g6_0 x0).2.2.2.1.2.2.1, (g6_0 x0).2.2.2.1.2.2.2.1, ()), (g6_0 x0).2.2.2.2.1, ((g6_0 x0).2.2.2.2.2.1.1, (g6_0 x0).2.2.2.2.2.1.2.1, (g6_0 x0).2.2.2.2.2.1.2.2.1, ()), (g6_0 x0).2.2.2.2.2.2.1, (g6_0 x0).2.2.2.2.2.2.2.1, (g6_0 x0).2.2.2.2.2.2.2.2.1, (g6_0 x0).2.2.2.2.2.2.2.2.2.1, (g6_0 x0).2.2.2.2.2.2.2.2.2.2.1, (g6_0 x0).2.2.2.2.2.2.2.2.2.2.2.1, ())) 1) 1 < 0)) = true then false else (if (g12_0 (u11_0 (g7_0 (((g6_0 x0).1.1, (g6_0 x0).1.2.1, (g6_0 x0).1.2.2.1, ()), (g6_0 x0).2.1, ((g6_0 x0).2.2.1.1, (g6_0 x0).2.2.1.2.1, ()), ((g6_0 x0).2.2.2.1.1, (g6_0 x0).2.2.2.1.2.1, (g6_0 x0).2.2.2.1.2.2.1, (g6_0 x0).2.2.2.1.2.2.2.1, ()), (g6_0 x0).2.2.2.2.1, ((g6_0 x0).2.2.2.2.2.1.1, (g6_0 x0).2.2.2.2.2.1.2.1, (g6_0 x0).2.2.2.2.2.1.2.2.1, ()), (g6_0 x0).2.2.2.2.2.2.1, (g6_0 x0).2.2.2.2.2.2.2.1, (g6_0 x0).2.2.2.2.2.2.2.2.1, (g6_0 x0).2.2.2.2.2.2.2.2.2.1, (g6_0 x0).2.2.2.2.2.2.2.2.2.2.1, (g6_0 x0).2.2.2.2.2.2.2.2.2.2.2.1, ())) 1) 1 != g11_0 (g7_0 (((g6_0 x0).1.1, (g6_0 x0).1.2.1, (g6_0 x0).1.2.2.1, ()), (g6_0 x0).2.1, ((g6_0 x0).2.2.1.1, (g6_0 x0).2.2.1.2.1, ()), ((g6_0 x0).2.2.2.1.1, (g6_0 x0).2.2.2.1.2.1, (g6_0 x0).2.2.2.1.2.2.1, (g6_0 x0).2.2.2.1.2.2.2.1, ()), (g6_0 x0).2.2.2.2.1, ((g6_0 x0).2.2.2.2.2.1.1, (g6_0 x0).2.2.2.2.2.1.2.1, (g6_0 x0).2.2.2.2.2.1.2.2.1, ()), (g6_0 x0).2.2.2.2.2.2.1, (g6_0 x0).2.2.2.2.2.2.2.1, (g6_0 x0).2.2.2.2.2.2.2.2.1, (g6_0 x0).2.2.2.2.2.2.2.2.2.1, (g6_0 x0).2.2.2.2.2.2.2.2.2.2.1, (g6_0 x0).2.2.2.2.2.2.2.2.2.2.2.1, ())) 1) = true then false else true)))))))
theorem at3 (x0 : TyA0) (h : P3 x0) (K : Ctx) (q : Nat → Value) : AtV Tryz.prog 3 (PostR kds3 oks3 [⟨Ty.bool, g3_0 x0⟩] [] [] q K) 96 K q [] [.code b3] (entE 0 0 sig3 (x0, ())) (entL sig3 (x0, ())) := by
  unfold P3 at h
  unfold g3_0
  obtain ⟨s0, h⟩ := h
  by_cases b0 : (decide (g4_0 x0 1048576 < 0)) = true
  · try simp only [if_pos b0] at h ⊢
    exact AtV.ret Tryz.func3 tabOk ext3Ok mixed false [] tys3 [true] (a1 s0 (a1 b0 trivial)) (by kernel_rfl)
  · try simp only [if_neg b0] at h ⊢
    replace b0 := Bool.eq_false_iff.2 b0
    obtain ⟨s1, h⟩ := h
    obtain ⟨s2, h⟩ := h
    obtain ⟨s3, h⟩ := h
    obtain ⟨s4, h⟩ := h
    by_cases b1 : (!g8_0 (g7_0 (((g6_0 x0).1.1, (g6_0 x0).1.2.1, (g6_0 x0).1.2.2.1, ()), (g6_0 x0).2.1, ((g6_0 x0).2.2.1.1, (g6_0 x0).2.2.1.2.1, ()), ((g6_0 x0).2.2.2.1.1, (g6_0 x0).2.2.2.1.2.1, (g6_0 x0).2.2.2.1.2.2.1, (g6_0 x0).2.2.2.1.2.2.2.1, ()), (g6_0 x0).2.2.2.2.1, ((g6_0 x0).2.2.2.2.2.1.1, (g6_0 x0).2.2.2.2.2.1.2.1, (g6_0 x0).2.2.2.2.2.1.2.2.1, ()), (g6_0 x0).2.2.2.2.2.2.1, (g6_0 x0).2.2.2.2.2.2.2.1, (g6_0 x0).2.2.2.2.2.2.2.2.1, (g6_0 x0).2.2.2.2.2.2.2.2.2.1, (g6_0 x0).2.2.2.2.2.2.2.2.2.2.1, (g6_0 x0).2.2.2.2.2.2.2.2.2.2.2.1, ())) (g5_0 (((g6_0 x0).1.1, (g6_0 x0).1.2.1, (g6_0 x0).1.2.2.1, ()), (g6_0 x0).2.1, ((g6_0 x0).2.2.1.1, (g6_0 x0).2.2.1.2.1, ()), ((g6_0 x0).2.2.2.1.1, (g6_0 x0).2.2.2.1.2.1, (g6_0 x0).2.2.2.1.2.2.1, (g6_0 x0).2.2.2.1.2.2.2.1, ()), (g6_0 x0).2.2.2.2.1, ((g6_0 x0).2.2.2.2.2.1.1, (g6_0 x0).2.2.2.2.2.1.2.1, (g6_0 x0).2.2.2.2.2.1.2.2.1, ()), (g6_0 x0).2.2.2.2.2.2.1, (g6_0 x0).2.2.2.2.2.2.2.1, (g6_0 x0).2.2.2.2.2.2.2.2.1, (g6_0 x0).2.2.2.2.2.2.2.2.2.1, (g6_0 x0).2.2.2.2.2.2.2.2.2.2.1, (g6_0 x0).2.2.2.2.2.2.2.2.2.2.2.1, ()))) = true
    · try simp only [if_pos b1] at h ⊢
      exact AtV.ret Tryz.func3 tabOk ext3Ok mixed false [] tys3 [false, true, true] (a1 s0 (a1 b0 (a1 s1 (a1 s2 (a1 s3 (a1 s4 (a1 trivial (a1 b1 (a1 (rfl : true = true) trivial))))))))) (by kernel_rfl)
    · try simp only [if_neg b1] at h ⊢
      replace b1 := Bool.eq_false_iff.2 b1
      by_cases b2 : (g7_1 (((g6_0 x0).1.1, (g6_0 x0).1.2.1, (g6_0 x0).1.2.2.1, ()), (g6_0 x0).2.1, ((g6_0 x0).2.2.1.1, (g6_0 x0).2.2.1.2.1, ()), ((g6_0 x0).2.2.2.1.1, (g6_0 x0).2.2.2.1.2.1, (g6_0 x0).2.2.2.1.2.2.1, (g6_0 x0).2.2.2.1.2.2.2.1, ()), (g6_0 x0).2.2.2.2.1, ((g6_0 x0).2.2.2.2.2.1.1, (g6_0 x0).2.2.2.2.2.1.2.1, (g6_0 x0).2.2.2.2.2.1.2.2.1, ()), (g6_0 x0).2.2.2.2.2.2.1, (g6_0 x0).2.2.2.2.2.2.2.1, (g6_0 x0).2.2.2.2.2.2.2.2.1, (g6_0 x0).2.2.2.2.2.2.2.2.2.1, (g6_0 x0).2.2.2.2.2.2.2.2.2.2.1, (g6_0 x0).2.2.2.2.2.2.2.2.2.2.2.1, ()) != g5_1 (((g6_0 x0).1.1, (g6_0 x0).1.2.1, (g6_0 x0).1.2.2.1, ()), (g6_0 x0).2.1, ((g6_0 x0).2.2.1.1, (g6_0 x0).2.2.1.2.1, ()), ((g6_0 x0).2.2.2.1.1, (g6_0 x0).2.2.2.1.2.1, (g6_0 x0).2.2.2.1.2.2.1, (g6_0 x0).2.2.2.1.2.2.2.1, ()), (g6_0 x0).2.2.2.2.1, ((g6_0 x0).2.2.2.2.2.1.1, (g6_0 x0).2.2.2.2.2.1.2.1, (g6_0 x0).2.2.2.2.2.1.2.2.1, ()), (g6_0 x0).2.2.2.2.2.2.1, (g6_0 x0).2.2.2.2.2.2.2.1, (g6_0 x0).2.2.2.2.2.2.2.2.1, (g6_0 x0).2.2.2.2.2.2.2.2.2.1, (g6_0 x0).2.2.2.2.2.2.2.2.2.2.1, (g6_0 x0).2.2.2.2.2.2.2.2.2.2.2.1, ())) = true
      · try simp only [if_pos b2] at h ⊢
        exact AtV.ret Tryz.func3 tabOk ext3Ok mixed false [] tys3 [false, false, true] (a1 s0 (a1 b0 (a1 s1 (a1 s2 (a1 s3 (a1 s4 (a1 trivial (a1 b1 (a1 b2 trivial))))))))) (by kernel_rfl)
      · try simp only [if_neg b2] at h ⊢
        replace b2 := Bool.eq_false_iff.2 b2
        obtain ⟨s5, h⟩ := h
        by_cases b3 : (!g9_0 (((g6_0 x0).1.1, (g6_0 x0).1.2.1, (g6_0 x0).1.2.2.1, ()), (g6_0 x0).2.1, ((g6_0 x0).2.2.1.1, (g6_0 x0).2.2.1.2.1, ()), ((g6_0 x0).2.2.2.1.1, (g6_0 x0).2.2.2.1.2.1, (g6_0 x0).2.2.2.1.2.2.1, (g6_0 x0).2.2.2.1.2.2.2.1, ()), (g6_0 x0).2.2.2.2.1, ((g6_0 x0).2.2.2.2.2.1.1, (g6_0 x0).2.2.2.2.2.1.2.1, (g6_0 x0).2.2.2.2.2.1.2.2.1, ()), (g6_0 x0).2.2.2.2.2.2.1, (g6_0 x0).2.2.2.2.2.2.2.1, (g6_0 x0).2.2.2.2.2.2.2.2.1, (g6_0 x0).2.2.2.2.2.2.2.2.2.1, (g6_0 x0).2.2.2.2.2.2.2.2.2.2.1, (g6_0 x0).2.2.2.2.2.2.2.2.2.2.2.1, ()) (((g6_0 x0).1.1, (g6_0 x0).1.2.1, (g6_0 x0).1.2.2.1, ()), (g6_0 x0).2.1, ((g6_0 x0).2.2.1.1, (g6_0 x0).2.2.1.2.1, ()), ((g6_0 x0).2.2.2.1.1, (g6_0 x0).2.2.2.1.2.1, (g6_0 x0).2.2.2.1.2.2.1, (g6_0 x0).2.2.2.1.2.2.2.1, ()), (g6_0 x0).2.2.2.2.1, ((g6_0 x0).2.2.2.2.2.1.1, (g6_0 x0).2.2.2.2.2.1.2.1, (g6_0 x0).2.2.2.2.2.1.2.2.1, ()), (g6_0 x0).2.2.2.2.2.2.1, (g6_0 x0).2.2.2.2.2.2.2.1, (g6_0 x0).2.2.2.2.2.2.2.2.1, (g6_0 x0).2.2.2.2.2.2.2.2.2.1, (g6_0 x0).2.2.2.2.2.2.2.2.2.2.1, (g6_0 x0).2.2.2.2.2.2.2.2.2.2.2.1, ())) = true
        · try simp only [if_pos b3] at h ⊢
          exact AtV.ret Tryz.func3 tabOk ext3Ok mixed false [] tys3 [false, false, false, true] (a1 s0 (a1 b0 (a1 s1 (a1 s2 (a1 s3 (a1 s4 (a1 trivial (a1 b1 (a1 b2 (a1 s5 (a1 trivial (a1 b3 trivial)))))))))))) (by kernel_rfl)
        · try simp only [if_neg b3] at h ⊢
          replace b3 := Bool.eq_false_iff.2 b3
          obtain ⟨s6, s7, s8, s9, s10, s11, h⟩ := h
          by_cases b4 : (decide (g10_0 (((g6_0 x0).1.1, (g6_0 x0).1.2.1, (g6_0 x0).1.2.2.1, ()), (g6_0 x0).2.1, ((g6_0 x0).2.2.1.1, (g6_0 x0).2.2.1.2.1, ()), ((g6_0 x0).2.2.2.1.1, (g6_0 x0).2.2.2.1.2.1, (g6_0 x0).2.2.2.1.2.2.1, (g6_0 x0).2.2.2.1.2.2.2.1, ()), (g6_0 x0).2.2.2.2.1, ((g6_0 x0).2.2.2.2.2.1.1, (g6_0 x0).2.2.2.2.2.1.2.1, (g6_0 x0).2.2.2.2.2.1.2.2.1, ()), (g6_0 x0).2.2.2.2.2.2.1, (g6_0 x0).2.2.2.2.2.2.2.1, (g6_0 x0).2.2.2.2.2.2.2.2.1, (g6_0 x0).2.2.2.2.2.2.2.2.2.1, (g6_0 x0).2.2.2.2.2.2.2.2.2.2.1, (g6_0 x0).2.2.2.2.2.2.2.2.2.2.2.1, ()) 1 < 0)) = true
          · try simp only [if_pos b4] at h ⊢
            exact AtV.ret Tryz.func3 tabOk ext3Ok mixed false [] tys3 [false, false, false, false, true, true, true] (a1 s0 (a1 b0 (a1 s1 (a1 s2 (a1 s3 (a1 s4 (a1 trivial (a1 b1 (a1 b2 (a1 s5 (a1 trivial (a1 b3 (a1 s6 (a1 s7 (a1 s8 (a1 s9 (a1 s10 (a1 s11 (a1 b4 (a1 (rfl : true = true) (a1 (rfl : true = true) trivial))))))))))))))))))))) (by kernel_rfl)
          · try simp only [if_neg b4] at h ⊢
            replace b4 := Bool.eq_false_iff.2 b4
            obtain ⟨s12, s13, h⟩ := h
            obtain ⟨s14, h⟩ := h
            by_cases b5 : (decide (g12_0 (u11_0 (g7_0 (((g6_0 x0).1.1, (g6_0 x0).1.2.1, (g6_0 x0).1.2.2.1, ()), (g6_0 x0).2.1, ((g6_0 x0).2.2.1.1, (g6_0 x0).2.2.1.2.1, ()), ((g6_0 x0).2.2.2.1.1, (g6_0 x0).2.2.2.1.2.1, (g6_0 x0).2.2.2.1.2.2.1, (g6_0 x0).2.2.2.1.2.2.2.1, ()), (g6_0 x0).2.2.2.2.1, ((g6_0 x0).2.2.2.2.2.1.1, (g6_0 x0).2.2.2.2.2.1.2.1, (g6_0 x0).2.2.2.2.2.1.2.2.1, ()), (g6_0 x0).2.2.2.2.2.2.1, (g6_0 x0).2.2.2.2.2.2.2.1, (g6_0 x0).2.2.2.2.2.2.2.2.1, (g6_0 x0).2.2.2.2.2.2.2.2.2.1, (g6_0 x0).2.2.2.2.2.2.2.2.2.2.1, (g6_0 x0).2.2.2.2.2.2.2.2.2.2.2.1, ())) 1) 1 < 0)) = true
            · try simp only [if_pos b5] at h ⊢
              exact AtV.ret Tryz.func3 tabOk ext3Ok mixed false [] tys3 [false, false, false, false, false, false, false, true] (a1 s0 (a1 b0 (a1 s1 (a1 s2 (a1 s3 (a1 s4 (a1 trivial (a1 b1 (a1 b2 (a1 s5 (a1 trivial (a1 b3 (a1 s6 (a1 s7 (a1 s8 (a1 s9 (a1 s10 (a1 s11 (a1 b4 (a1 trivial (a1 b1 (a1 b2 (a1 s12 (a1 s13 (a1 s14 (a1 b5 trivial)))))))))))))))))))))))))) (by kernel_rfl)
            · try simp only [if_neg b5] at h ⊢
              replace b5 := Bool.eq_false_iff.2 b5
              by_cases b6 : (g12_0 (u11_0 (g7_0 (((g6_0 x0).1.1, (g6_0 x0).1.2.1, (g6_0 x0).1.2.2.1, ()), (g6_0 x0).2.1, ((g6_0 x0).2.2.1.1, (g6_0 x0).2.2.1.2.1, ()), ((g6_0 x0).2.2.2.1.1, (g6_0 x0).2.2.2.1.2.1, (g6_0 x0).2.2.2.1.2.2.1, (g6_0 x0).2.2.2.1.2.2.2.1, ()), (g6_0 x0).2.2.2.2.1, ((g6_0 x0).2.2.2.2.2.1.1, (g6_0 x0).2.2.2.2.2.1.2.1, (g6_0 x0).2.2.2.2.2.1.2.2.1, ()), (g6_0 x0).2.2.2.2.2.2.1, (g6_0 x0).2.2.2.2.2.2.2.1, (g6_0 x0).2.2.2.2.2.2.2.2.1, (g6_0 x0).2.2.2.2.2.2.2.2.2.1, (g6_0 x0).2.2.2.2.2.2.2.2.2.2.1, (g6_0 x0).2.2.2.2.2.2.2.2.2.2.2.1, ())) 1) 1 != g11_0 (g7_0 (((g6_0 x0).1.1, (g6_0 x0).1.2.1, (g6_0 x0).1.2.2.1, ()), (g6_0 x0).2.1, ((g6_0 x0).2.2.1.1, (g6_0 x0).2.2.1.2.1, ()), ((g6_0 x0).2.2.2.1.1, (g6_0 x0).2.2.2.1.2.1, (g6_0 x0).2.2.2.1.2.2.1, (g6_0 x0).2.2.2.1.2.2.2.1, ()), (g6_0 x0).2.2.2.2.1, ((g6_0 x0).2.2.2.2.2.1.1, (g6_0 x0).2.2.2.2.2.1.2.1, (g6_0 x0).2.2.2.2.2.1.2.2.1, ()), (g6_0 x0).2.2.2.2.2.2.1, (g6_0 x0).2.2.2.2.2.2.2.1, (g6_0 x0).2.2.2.2.2.2.2.2.1, (g6_0 x0).2.2.2.2.2.2.2.2.2.1, (g6_0 x0).2.2.2.2.2.2.2.2.2.2.1, (g6_0 x0).2.2.2.2.2.2.2.2.2.2.2.1, ())) 1) = true
              · try simp only [if_pos b6] at h ⊢
                exact AtV.ret Tryz.func3 tabOk ext3Ok mixed false [] tys3 [false, false, false, false, false, false, false, false, true] (a1 s0 (a1 b0 (a1 s1 (a1 s2 (a1 s3 (a1 s4 (a1 trivial (a1 b1 (a1 b2 (a1 s5 (a1 trivial (a1 b3 (a1 s6 (a1 s7 (a1 s8 (a1 s9 (a1 s10 (a1 s11 (a1 b4 (a1 trivial (a1 b1 (a1 b2 (a1 s12 (a1 s13 (a1 s14 (a1 b5 (a1 b6 trivial))))))))))))))))))))))))))) (by kernel_rfl)
              · try simp only [if_neg b6] at h ⊢
                replace b6 := Bool.eq_false_iff.2 b6
                obtain ⟨s15, h⟩ := h
                obtain ⟨s16, h⟩ := h
                obtain ⟨s17, h⟩ := h
                exact AtV.ret Tryz.func3 tabOk ext3Ok mixed false [] tys3 [false, false, false, false, false, false, false, false, false, false, false, false, false] (a1 s0 (a1 b0 (a1 s1 (a1 s2 (a1 s3 (a1 s4 (a1 trivial (a1 b1 (a1 b2 (a1 s5 (a1 trivial (a1 b3 (a1 s6 (a1 s7 (a1 s8 (a1 s9 (a1 s10 (a1 s11 (a1 b4 (a1 trivial (a1 b1 (a1 b2 (a1 s12 (a1 s13 (a1 s14 (a1 b5 (a1 b6 (a1 s15 (a1 s16 (a1 trivial (a1 b1 (a1 b2 (a1 s17 (a1 b5 (a1 b6 trivial))))))))))))))))))))))))))))))))))) (by kernel_rfl)
def S3 : Am.Spec := { sig := sig3, pre := fun ⟨x0, _⟩ => P3 x0, res := fun ⟨x0, _⟩ => [⟨Ty.bool, g3_0 x0⟩], kds := kds3 }
theorem con3 : Contract Tryz.prog 3 S3 := contract_of Tryz.func3 hb3 (Nat.le_of_ble_eq_true (by kernel_rfl)) (fun ⟨x0, _⟩ h _ K q => at3 x0 h K q)
end
theorem szs_Section (xs : List TyB4) (l : Int) (h0 : 0 ≤ l) (hi : l ≤ 1048576) (hw : Wf (.sl (.cons (.int .i64) (.cons (.int .i64) .unit))) xs) : P45 xs l ∧ (¬ g45_0 xs l < 0 → g45_0 xs l ≤ l - xs.length) := by
  have hi' : InR .i64 l := by rw [i64_iff]; omega
  have hm : xs.length ≤ 9223372036854775807 := hw.1
  refine ⟨⟨by rw [i64_iff]; omega, trivial⟩, fun hg => (g45_le xs l h0 hi' hw hg).2⟩
theorem szs_Group (xs : List TyB1) (l : Int) (h0 : 0 ≤ l) (hi : l ≤ 1048576) (hw : Wf (.sl (.cons .str (.cons (.int .i64) (.cons (.int .i64) (.cons (.int .i64) .unit))))) xs) : P14 xs l ∧ (¬ g14_0 xs l < 0 → g14_0 xs l ≤ l - xs.length) := by
  have hi' : InR .i64 l := by rw [i64_iff]; omega
  exact ⟨h0, fun hg => g14_le xs l h0 hi' hw hg⟩
theorem szs_Check (xs : List TyB0) (l : Int) (h0 : 0 ≤ l) (hi : l ≤ 1048576) (hw : Wf (.sl (.cons .str (.cons (.int .i64) (.cons (.int .i64) (.cons (.int .i64) (.cons (.int .i64) .unit)))))) xs) : P15 xs l ∧ (¬ g15_0 xs l < 0 → g15_0 xs l ≤ l - xs.length) := by
  have hi' : InR .i64 l := by rw [i64_iff]; omega
  exact ⟨h0, fun hg => g15_le xs l h0 hi' hw hg⟩
theorem szs_Ride (xs : List TyB4) (l : Int) (h0 : 0 ≤ l) (hi : l ≤ 1048576) (hw : Wf (.sl (.cons (.int .i64) (.cons (.int .i64) .unit))) xs) : P16 xs l ∧ (¬ g16_0 xs l < 0 → g16_0 xs l ≤ l - xs.length) := by
  have hi' : InR .i64 l := by rw [i64_iff]; omega
  have hm : xs.length ≤ 9223372036854775807 := hw.1
  refine ⟨⟨by rw [i64_iff]; omega, trivial⟩, fun hg => (g16_le xs l h0 hi' hw hg).2⟩
theorem szs_Line (xs : List TyB2) (l : Int) (h0 : 0 ≤ l) (hi : l ≤ 1048576) (hw : Wf (.sl (.cons (.int .i64) (.cons (.int .i64) (.cons .str (.cons (.int .i64) .unit))))) xs) : P17 xs l ∧ (¬ g17_0 xs l < 0 → g17_0 xs l ≤ l - xs.length) := by
  have hi' : InR .i64 l := by rw [i64_iff]; omega
  exact ⟨h0, fun hg => g17_le xs l h0 hi' hw hg⟩
theorem szs_Track (x : List TyB4 × Int × Int × Unit) (l : Int) (h0 : 0 ≤ l) (hi : l ≤ 1048576) (hw : Wf (.sl (.cons (.int .i64) (.cons (.int .i64) .unit))) x.1) : P13 x l ∧ (¬ g13_0 x l < 0 → g13_0 x l ≤ l - x.1.length) := by
  obtain ⟨p, q⟩ := szs_Section x.1 l h0 hi hw
  unfold P13 g13_0
  by_cases c : g45_0 x.1 l < 0
  · simp only [c, p, decide_true, if_true, and_true, true_and]
    try exact ⟨trivial, fun h => absurd (show (-1 : Int) < 0 by decide) h⟩
    try exact fun h => absurd (show (-1 : Int) < 0 by decide) h
  · simp only [c, p, decide_false, Bool.false_eq_true, if_false, and_true, true_and]
    try exact ⟨trivial, fun h => q h⟩
    try exact fun h => q h
    try exact fun _ => q c
theorem sz_works (x : (TyA0)) (l : Int) (h0 : 0 ≤ l) (hi : l ≤ 1048576) (hw : Wf (.cons (.cons (.sl (.cons (.int .i64) (.cons (.int .i64) .unit))) (.cons (.int .i64) (.cons (.int .i64) .unit))) (.cons (.int .i64) (.cons (.cons (.int .i64) (.cons (.int .i64) .unit)) (.cons (.cons (.int .i64) (.cons (.int .i64) (.cons (.int .i64) (.cons (.int .i64) .unit)))) (.cons (.sl (.cons .str (.cons (.int .i64) (.cons (.int .i64) (.cons (.int .i64) .unit))))) (.cons (.cons (.int .i64) (.cons (.int .i64) (.cons (.int .i64) .unit))) (.cons (.sl (.cons .str (.cons (.int .i64) (.cons (.int .i64) (.cons (.int .i64) (.cons (.int .i64) .unit)))))) (.cons (.int .i64) (.cons (.int .i64) (.cons (.sl (.cons (.int .i64) (.cons (.int .i64) .unit))) (.cons (.int .i64) (.cons (.sl (.cons (.int .i64) (.cons (.int .i64) (.cons .str (.cons (.int .i64) .unit))))) .unit)))))))))))) x) : P4 x l ∧ (¬ g4_0 x l < 0 → 0 ≤ g4_0 x l ∧ g4_0 x l ≤ l ∧ (x.1.1.length : Int) ≤ l ∧ (x.2.2.2.2.1.length : Int) ≤ l ∧ (x.2.2.2.2.2.2.1.length : Int) ≤ l ∧ (x.2.2.2.2.2.2.2.2.2.1.length : Int) ≤ l ∧ (x.2.2.2.2.2.2.2.2.2.2.2.1.length : Int) ≤ l) := by
  unfold P4 g4_0
  obtain ⟨p0, q0⟩ := szs_Track x.1 l (by omega) (by omega) hw.1.1
  by_cases c0 : (g13_0 x.1 l) < 0
  · simp only [c0, p0, decide_true, decide_false, Bool.false_eq_true, if_true, if_false, and_true, true_and]
    try exact ⟨trivial, fun h => absurd (show (-1 : Int) < 0 by decide) h⟩
    try exact fun h => absurd (show (-1 : Int) < 0 by decide) h
  have r0 := q0 c0
  obtain ⟨p1, q1⟩ := szs_Group x.2.2.2.2.1 (g13_0 x.1 l) (by omega) (by omega) hw.2.2.2.2.1
  by_cases c1 : (g14_0 x.2.2.2.2.1 (g13_0 x.1 l)) < 0
  · simp only [c0, p0, c1, p1, decide_true, decide_false, Bool.false_eq_true, if_true, if_false, and_true, true_and]
    try exact ⟨trivial, fun h => absurd (show (-1 : Int) < 0 by decide) h⟩
    try exact fun h => absurd (show (-1 : Int) < 0 by decide) h
  have r1 := q1 c1
  obtain ⟨p2, q2⟩ := szs_Check x.2.2.2.2.2.2.1 (g14_0 x.2.2.2.2.1 (g13_0 x.1 l)) (by omega) (by omega) hw.2.2.2.2.2.2.1
  by_cases c2 : (g15_0 x.2.2.2.2.2.2.1 (g14_0 x.2.2.2.2.1 (g13_0 x.1 l))) < 0
  · simp only [c0, p0, c1, p1, c2, p2, decide_true, decide_false, Bool.false_eq_true, if_true, if_false, and_true, true_and]
    try exact ⟨trivial, fun h => absurd (show (-1 : Int) < 0 by decide) h⟩
    try exact fun h => absurd (show (-1 : Int) < 0 by decide) h
  have r2 := q2 c2
  obtain ⟨p3, q3⟩ := szs_Ride x.2.2.2.2.2.2.2.2.2.1 (g15_0 x.2.2.2.2.2.2.1 (g14_0 x.2.2.2.2.1 (g13_0 x.1 l))) (by omega) (by omega) hw.2.2.2.2.2.2.2.2.2.1
  by_cases c3 : (g16_0 x.2.2.2.2.2.2.2.2.2.1 (g15_0 x.2.2.2.2.2.2.1 (g14_0 x.2.2.2.2.1 (g13_0 x.1 l)))) < 0
  · simp only [c0, p0, c1, p1, c2, p2, c3, p3, decide_true, decide_false, Bool.false_eq_true, if_true, if_false, and_true, true_and]
    try exact ⟨trivial, fun h => absurd (show (-1 : Int) < 0 by decide) h⟩
    try exact fun h => absurd (show (-1 : Int) < 0 by decide) h
  have r3 := q3 c3
  obtain ⟨p4, q4⟩ := szs_Line x.2.2.2.2.2.2.2.2.2.2.2.1 (g16_0 x.2.2.2.2.2.2.2.2.2.1 (g15_0 x.2.2.2.2.2.2.1 (g14_0 x.2.2.2.2.1 (g13_0 x.1 l)))) (by omega) (by omega) hw.2.2.2.2.2.2.2.2.2.2.2.1
  by_cases c4 : (g17_0 x.2.2.2.2.2.2.2.2.2.2.2.1 (g16_0 x.2.2.2.2.2.2.2.2.2.1 (g15_0 x.2.2.2.2.2.2.1 (g14_0 x.2.2.2.2.1 (g13_0 x.1 l))))) < 0
  · simp only [c0, p0, c1, p1, c2, p2, c3, p3, c4, p4, decide_true, decide_false, Bool.false_eq_true, if_true, if_false, and_true, true_and]
    try exact ⟨trivial, fun h => absurd (show (-1 : Int) < 0 by decide) h⟩
    try exact fun h => absurd (show (-1 : Int) < 0 by decide) h
  have r4 := q4 c4
  simp only [c0, p0, c1, p1, c2, p2, c3, p3, c4, p4, decide_false, Bool.false_eq_true, if_false, and_true, true_and]
  intro _
  omega
theorem to_works (x : (TyA0)) (h : (x.1.1.length : Int) ≤ 1048576 ∧ (x.2.2.2.2.1.length : Int) ≤ 1048576 ∧ (x.2.2.2.2.2.2.1.length : Int) ≤ 1048576 ∧ (x.2.2.2.2.2.2.2.2.2.1.length : Int) ≤ 1048576 ∧ (x.2.2.2.2.2.2.2.2.2.2.2.1.length : Int) ≤ 1048576) : P6 x ∧ g6_0 x = x := by
  obtain ⟨l0, l1, l2, l3, l4⟩ := h
  refine ⟨?_, rfl⟩
  unfold P6 P20 P60 P23 P25 P26 P27
  refine ⟨⟨by omega, trivial⟩, by omega, by omega, by omega, by omega, trivial⟩
theorem eq_works (x : (TyA0)) : g9_0 x x = true := by
  simp [g9_0, g31_0, g32_0, g33_0, g35_0, g68_0, g34_0, g36_0, g37_0, g38_0]
theorem name_eq (s : ByteArray) : g125_0 s = g99_0 s := by
  have hs : ∀ c, g121_0 c = (decide (97 ≤ c) && decide (c ≤ 122)) := fun c => by
    unfold g121_0
    by_cases h1 : (97 : Int) ≤ c <;> simp [h1]
  have hd : ∀ c, g122_0 c = (decide (48 ≤ c) && decide (c ≤ 57)) := fun c => by
    unfold g122_0
    by_cases h1 : (48 : Int) ≤ c <;> simp [h1]
  unfold g125_0 g99_0
  have hl := bytesOf_length s
  by_cases h1 : 1 ≤ s.size
  · cases hb : bytesOf s with
    | nil => rw [hb] at hl; simp at hl; omega
    | cons c r =>
      have hr : allI ok125 1 r = r.all fun b => g121_0 b || g122_0 b := by
        rw [← allI_plain (fun b => g121_0 b || g122_0 b) r 1]
        refine allI_congr r 1 fun j x hj => ?_
        have : (j == 0) = false := by simp; omega
        simp only [ok125, this, hs, hd, Bool.not_false, Bool.true_and]
      have h0 : ok125 0 c = g121_0 c := by simp [ok125, hs]
      simp only [allI, hr, h0, List.all_cons, List.getD_cons_zero]
      cases g121_0 c <;> simp
  · simp [h1]
theorem bl_asym {x y : List UInt8} (h : Op.bytesLess x y = true) : Op.bytesLess y x = false := by
  cases h2 : Op.bytesLess y x with
  | false => rfl
  | true =>
    have := bl_trans x y x h h2
    rw [bl_irrefl] at this
    cases this
theorem le_not (a b : ByteArray) : (!(Op.bytesLess (ByteArray.toList a) (ByteArray.toList b) || ByteArray.toList a == ByteArray.toList b)) = Op.bytesLess (ByteArray.toList b) (ByteArray.toList a) := by
  generalize ByteArray.toList a = x
  generalize ByteArray.toList b = y
  cases h1 : Op.bytesLess x y with
  | true => rw [bl_asym h1]; rfl
  | false =>
    cases h2 : (x == y) with
    | true =>
      have : x = y := by simpa using h2
      subst this
      rw [bl_irrefl]; rfl
    | false =>
      cases h3 : Op.bytesLess y x with
      | true => rfl
      | false =>
        have := bl_tri x y h1 h3
        subst this
        simp at h2
theorem allI_mem {α : Type} {p : Nat → α → Bool} : ∀ (l : List α) (i : Nat), allI p i l = true → ∀ x ∈ l, ∃ j, p j x = true
  | [], _, _, x, hx => by cases hx
  | y :: r, i, h, x, hx => by
    simp only [allI, Bool.and_eq_true] at h
    rcases List.mem_cons.1 hx with rfl | hx
    · exact ⟨i, h.1⟩
    · exact allI_mem r (i + 1) h.2 x hx
theorem one_Group (x : TyB1) : g107_0 x = g76_0 x := by
  unfold g107_0 g76_0
  rw [name_eq]
  rfl
theorem list_Group (xs : List TyB1) : g90_0 xs = g53_0 xs := by
  unfold g90_0 g53_0
  congr 1
  refine allI_congr xs 0 fun j y _ => ?_
  unfold ok90 ok53
  rw [one_Group, le_not]
theorem one_Check (x : TyB0) : g126_0 x = g100_0 x := by
  unfold g126_0 g100_0
  rw [name_eq]
  rfl
theorem list_Check (xs : List TyB0) : g109_0 xs = g77_0 xs := by
  unfold g109_0 g77_0
  congr 1
  refine allI_congr xs 0 fun j y _ => ?_
  unfold ok109 ok77
  rw [one_Check, le_not]
theorem word_eq (w : ByteArray) : g140_0 w = g124_0 w := by
  have hb : ∀ b : Int, (!g149_0 b) = ok124 b := fun b => by
    unfold g149_0 ok124 g122_0
    by_cases h1 : b < 97 <;> by_cases h2 : b > 122 <;> by_cases h3 : b < 48 <;> by_cases h4 : b > 57 <;>
      first
        | omega
        | (have e1 : (97 ≤ b) ↔ ¬ b < 97 := by omega
           have e2 : (b ≤ 122) ↔ ¬ b > 122 := by omega
           have e3 : (b ≥ 48) ↔ ¬ b < 48 := by omega
           have e4 : (b ≤ 57) ↔ ¬ b > 57 := by omega
           simp [e1, e2, e3, e4, h1, h2, h3, h4])
  have ha : (!g148c149_0 (bytesOf w)) = (bytesOf w).all ok124 := by
    unfold g148c149_0
    rw [any155c149]
    induction bytesOf w with
    | nil => rfl
    | cons b r ih => rw [List.any_cons, List.all_cons, Bool.not_or, ih, hb]
  unfold g140_0 g124_0
  rw [ha]
  by_cases h : w = ByteArray.mk #[]
  · subst h
    have h1 : (ByteArray.toList (ByteArray.mk #[]) == ByteArray.toList (ByteArray.mk #[])) = true := beq_self_eq_true _
    have h2 : decide (((ByteArray.mk #[]).size : Int) > 0) = false := by decide
    rw [h1, h2, Bool.and_false]
    rfl
  · have h1 : (ByteArray.toList w == ByteArray.toList (ByteArray.mk #[])) = false := by
      rw [Bool.eq_false_iff]; exact fun hh => h ((bytes_eq _ _).1 hh)
    have h2 : decide ((w.size : Int) > 0) = true := by
      refine decide_eq_true ?_
      rcases Nat.lt_or_ge 0 w.size with h3 | h3
      · omega
      · exact absurd (bytesOf_inj (s := w) (t := ByteArray.mk #[]) (List.eq_nil_of_length_eq_zero (by rw [bytesOf_length]; omega))) h
    rw [h1, h2, Bool.and_true]
    rfl
theorem text_eq (s : ByteArray) : g129_0 s = g102_0 s := by
  have e : g138_0 s (ByteArray.mk #[32]) = g123_0 s 32 := splitB_one 32 s
  have hw : ∀ w, (!g139_0 w) = g124_0 w := fun w => by
    unfold g139_0
    rw [Bool.not_not, word_eq]
  have ha : ∀ l : List ByteArray, (!g137c139_0 l) = l.all g124_0 := fun l => by
    unfold g137c139_0
    rw [any146c139]
    induction l with
    | nil => rfl
    | cons b r ih => rw [List.any_cons, List.all_cons, Bool.not_or, ih, hw]
  unfold g129_0 g102_0
  rw [e, ha]
  by_cases h0 : s.size = 0
  · have hn : s.data.toList = [] := List.eq_nil_of_length_eq_zero h0
    have es : g123_0 s 32 = [⟨⟨[]⟩⟩] := by
      show bss (splitC (32 : UInt8) s.data.toList) = _
      rw [hn]; rfl
    rw [es]
    have ew : g124_0 ⟨⟨[]⟩⟩ = false := rfl
    simp [h0, ew]
  · by_cases h1 : (s.size : Int) ≤ 40
    · have h2 : ¬ (s.size : Int) > 40 := by omega
      have h3 : (((s.size : Nat) : Int) == 0) = false := by rw [beq_eq_false_iff_ne]; omega
      rw [decide_eq_true h1, decide_eq_false h2, h3]
      rfl
    · have h2 : (s.size : Int) > 40 := by omega
      rw [decide_eq_false h1, decide_eq_true h2]
      simp
theorem one_Line (x : Int × Int × ByteArray × Int × Unit) : g116_0 x = g83_0 x := by
  unfold g116_0 g83_0
  rw [text_eq]
  rfl
theorem list_Line (xs : List TyB2) : g95_0 xs = g57_0 xs := by
  unfold g95_0 g57_0
  congr 1
  refine allI_congr xs 0 fun j y _ => ?_
  unfold ok95 ok57
  rw [one_Line]
  rfl
theorem track_eq (x : List TyB4 × Int × Int × Unit) : g86_0 x = g49_0 x := rfl
theorem brake_eq (x : Int × Int × Unit) : g88_0 x = g51_0 x := rfl
theorem profile_eq (x : Int × Int × Int × Int × Unit) : g89_0 x = g52_0 x := rfl
theorem room_eq (x : Int × Int × Int × Unit) : g91_0 x = g54_0 x := rfl
theorem list_Ride (x : List TyB4) : g93_0 x = g81_0 x := rfl
theorem insp_eq (xs : List TyB0) (d r : Int) : g92_0 xs d r 0 = g55_0 xs d r := by
  have h0 : g110_0 0 = true := rfl
  have ha : g112c113_0 xs d r = !xs.all (q55 d r) := by
    unfold g112c113_0
    rw [any127c113]
    induction xs with
    | nil => rfl
    | cons x l ih =>
      have hx : g113_0 x d r = !q55 d r x := by
        unfold g113_0 q55 g80_0
        by_cases h1 : x.2.2.2.1 > d
        · have h1' : ¬ x.2.2.2.1 ≤ d := by omega
          simp [h1, h1']
        · have h1' : x.2.2.2.1 ≤ d := by omega
          by_cases h2 : x.2.2.2.2.1 > r
          · have h2' : ¬ x.2.2.2.2.1 ≤ r := by omega
            simp [h1, h1', h2, h2']
          · have h2' : x.2.2.2.2.1 ≤ r := by omega
            simp [h1, h1', h2, h2']
      rw [List.any_cons, List.all_cons, Bool.not_and, ih, hx]
  unfold g92_0 g55_0
  rw [ha, list_Check, h0]
  have e1 : g111_0 d = g78_0 d := rfl
  have e2 : g110_0 r = g79_0 r := rfl
  rw [e1, e2]
  cases g77_0 xs <;> cases g78_0 d <;> cases g79_0 r <;> cases xs.all (q55 d r) <;> rfl
theorem ask_ride (xs : List TyB4) (t : Int) : (g56_0 xs t == 0) = (g81_0 xs && g94_0 t) := by
  unfold g56_0
  have e : g94_0 t = g82_0 t := rfl
  rw [e]
  cases g81_0 xs <;> cases g82_0 t <;> rfl
theorem valid_works (x : (TyA0)) : g65_0 x = g18_0 x := by
  unfold g65_0 g18_0
  rw [track_eq, brake_eq, profile_eq, list_Group, room_eq, insp_eq, list_Ride, list_Line, ask_ride]
  have e : g87_0 x.2.1 = g50_0 x.2.1 := rfl
  rw [e]
  generalize g55_0 x.2.2.2.2.2.2.1 x.2.2.2.2.2.2.2.1 x.2.2.2.2.2.2.2.2.1 = n
  cases g49_0 x.1 <;> cases g50_0 x.2.1 <;> cases g51_0 x.2.2.1 <;> simp
  cases g52_0 x.2.2.2.1 <;> cases g53_0 x.2.2.2.2.1 <;> cases g54_0 x.2.2.2.2.2.1 <;> simp
  by_cases hn : n = 0
  · simp only [hn, if_true]
    simp [Bool.and_assoc]
  · simp [hn]
theorem mk_Section (xs : List TyB4) (k : Int) (h0 : 0 ≤ k) (h1 : k ≤ 100000000) (hl : xs.length ≤ 1048576) : P73 xs k ∧ (u73_0 xs k).length = xs.length ∧ 0 ≤ g73_0 xs k ∧ g73_0 xs k ≤ k + 6000000 := by
  refine ⟨⟨by omega, by omega⟩, by rw [u73_0, M73_len], ?_⟩
  unfold g73_0
  omega
theorem mk_Group (xs : List TyB1) (k : Int) (h0 : 0 ≤ k) (h1 : k ≤ 100000000) (hl : xs.length ≤ 1048576) : P40 xs k ∧ (u40_0 xs k).length = xs.length ∧ 0 ≤ g40_0 xs k ∧ g40_0 xs k ≤ k + 6000000 := by
  refine ⟨⟨by omega, by omega⟩, by rw [u40_0, M40_len], ?_⟩
  unfold g40_0
  omega
theorem mk_Check (xs : List TyB0) (k : Int) (h0 : 0 ≤ k) (h1 : k ≤ 100000000) (hl : xs.length ≤ 1048576) : P41 xs k ∧ (u41_0 xs k).length = xs.length ∧ 0 ≤ g41_0 xs k ∧ g41_0 xs k ≤ k + 6000000 := by
  refine ⟨⟨by omega, by omega⟩, by rw [u41_0, M41_len], ?_⟩
  unfold g41_0
  omega
theorem mk_Ride (xs : List TyB4) (k : Int) (h0 : 0 ≤ k) (h1 : k ≤ 100000000) (hl : xs.length ≤ 1048576) : P42 xs k ∧ (u42_0 xs k).length = xs.length ∧ 0 ≤ g42_0 xs k ∧ g42_0 xs k ≤ k + 6000000 := by
  refine ⟨⟨by omega, by omega⟩, by rw [u42_0, M42_len], ?_⟩
  unfold g42_0
  omega
theorem mk_Line (xs : List TyB2) (k : Int) (h0 : 0 ≤ k) (h1 : k ≤ 100000000) (hl : xs.length ≤ 1048576) : P43 xs k ∧ (u43_0 xs k).length = xs.length ∧ 0 ≤ g43_0 xs k ∧ g43_0 xs k ≤ k + 6000000 := by
  refine ⟨⟨by omega, by omega⟩, by rw [u43_0, M43_len], ?_⟩
  unfold g43_0
  omega
theorem marked_works (x : (TyA0)) (h : (x.1.1.length : Int) ≤ 1048576 ∧ (x.2.2.2.2.1.length : Int) ≤ 1048576 ∧ (x.2.2.2.2.2.2.1.length : Int) ≤ 1048576 ∧ (x.2.2.2.2.2.2.2.2.2.1.length : Int) ≤ 1048576 ∧ (x.2.2.2.2.2.2.2.2.2.2.2.1.length : Int) ≤ 1048576) : P10 x 1 ∧ ¬ g10_0 x 1 < 0 ∧ ((u10_0 x 1).1.1.length = x.1.1.length ∧ (u10_0 x 1).2.2.2.2.1.length = x.2.2.2.2.1.length ∧ (u10_0 x 1).2.2.2.2.2.2.1.length = x.2.2.2.2.2.2.1.length ∧ (u10_0 x 1).2.2.2.2.2.2.2.2.2.1.length = x.2.2.2.2.2.2.2.2.2.1.length ∧ (u10_0 x 1).2.2.2.2.2.2.2.2.2.2.2.1.length = x.2.2.2.2.2.2.2.2.2.2.2.1.length) := by
  obtain ⟨l0, l1, l2, l3, l4⟩ := h
  unfold P10 g10_0 P39 g39_0
  obtain ⟨p0, u0, a0, b0⟩ := mk_Section x.1.1 1 (by omega) (by omega) (by omega)
  obtain ⟨p1, u1, a1, b1⟩ := mk_Group x.2.2.2.2.1 (g73_0 x.1.1 1) (by omega) (by omega) (by omega)
  obtain ⟨p2, u2, a2, b2⟩ := mk_Check x.2.2.2.2.2.2.1 (g40_0 x.2.2.2.2.1 (g73_0 x.1.1 1)) (by omega) (by omega) (by omega)
  obtain ⟨p3, u3, a3, b3⟩ := mk_Ride x.2.2.2.2.2.2.2.2.2.1 (g41_0 x.2.2.2.2.2.2.1 (g40_0 x.2.2.2.2.1 (g73_0 x.1.1 1))) (by omega) (by omega) (by omega)
  obtain ⟨p4, u4, a4, b4⟩ := mk_Line x.2.2.2.2.2.2.2.2.2.2.2.1 (g42_0 x.2.2.2.2.2.2.2.2.2.1 (g41_0 x.2.2.2.2.2.2.1 (g40_0 x.2.2.2.2.1 (g73_0 x.1.1 1)))) (by omega) (by omega) (by omega)
  exact ⟨⟨⟨p0, u0, trivial⟩, u0, p1, u1, p2, u2, p3, u3, p4, u4, trivial⟩, Int.not_lt.2 a4, u0, u1, u2, u3, u4⟩
theorem marked_problem (xs : List TyB3) (h : xs.length ≤ 1048576) : P11 xs 1 ∧ (u11_0 xs 1).length = xs.length ∧ ¬ g11_0 xs 1 < 0 := by
  have hl : (u11_0 xs 1).length = xs.length := by rw [u11_0, M11_len]
  refine ⟨⟨by omega, by omega⟩, hl, ?_⟩
  unfold g11_0
  omega
theorem held_problem (xs : List TyB3) (h : xs.length ≤ 1048576) : P12 (u11_0 xs 1) 1 ∧ g12_0 (u11_0 xs 1) 1 = g11_0 xs 1 := by
  have hl : (u11_0 xs 1).length = xs.length := by rw [u11_0, M11_len]
  refine ⟨⟨⟨by omega, by rw [hl]; omega⟩, fun i hi => ?_⟩, ?_⟩
  · rw [hl] at hi
    rw [getD_lt _ _ _ (by rw [hl]; exact hi)]
    simp [u11_0, M11]
  · unfold g12_0 g11_0
    rw [hl]
theorem bvn (a : Nat) (h : a < 9223372036854775808) : (BitVec.ofInt 64 (a : Int)).toNat = a := by
  rw [BitVec.toNat_ofInt]
  omega
theorem wrn (a : Nat) (h : a < 9223372036854775808) : IntKind.wrap IntKind.i64 (a : Int) = (a : Int) := wrap_of_inR (by rw [i64_iff]; omega)
theorem bit_bound {s : Int} (h : 0 ≤ s ∧ s ≤ 65535) : 0 ≤ bit103 s ∧ bit103 s ≤ 65535 := by
  obtain ⟨a, rfl⟩ := Int.eq_ofNat_of_zero_le h.1
  unfold bit103
  have e : (a : Int) * 2 = ((a * 2 : Nat) : Int) := by omega
  have e6 : BitVec.ofInt 64 65535 = BitVec.ofInt 64 ((65535 : Nat) : Int) := rfl
  have e7 : BitVec.ofInt 64 4129 = BitVec.ofInt 64 ((4129 : Nat) : Int) := rfl
  rw [e, wrn _ (by omega), e6, e7]
  have h1 : (a * 2) &&& 65535 < 65536 := Nat.lt_of_le_of_lt Nat.and_le_right (by decide)
  have h2 : ((a * 2) &&& 65535) ^^^ 4129 < 2 ^ 16 := Nat.xor_lt_two_pow h1 (by decide)
  split
  · rw [BitVec.toNat_and, bvn (a * 2) (by omega), bvn 65535 (by omega), wrn (a * 2 &&& 65535) (by omega), BitVec.toNat_xor, bvn (a * 2 &&& 65535) (by omega), bvn 4129 (by omega), wrn (a * 2 &&& 65535 ^^^ 4129) (by omega)]
    omega
  · rename_i hc
    have hc' : ¬ ((a * 2 : Nat) : Int) > 65535 := fun hh => hc (decide_eq_true hh)
    omega
theorem bits_bound : ∀ (k : Nat) {s : Int}, 0 ≤ s ∧ s ≤ 65535 → 0 ≤ bits103 k s ∧ bits103 k s ≤ 65535
  | 0, _, h => h
  | k + 1, _, h => bits_bound k (bit_bound h)
theorem byte_bound {s c : Int} (h : 0 ≤ s ∧ s ≤ 65535) (hc : 0 ≤ c ∧ c ≤ 255) : 0 ≤ byte103 s c ∧ byte103 s c ≤ 65535 := by
  refine bits_bound 8 ?_
  obtain ⟨a, rfl⟩ := Int.eq_ofNat_of_zero_le h.1
  obtain ⟨b, rfl⟩ := Int.eq_ofNat_of_zero_le hc.1
  have e : (b : Int) * 256 = ((b * 256 : Nat) : Int) := by omega
  have h2 : a ^^^ (b * 256) < 2 ^ 16 := Nat.xor_lt_two_pow (by omega) (by omega)
  rw [e, wrn (b * 256) (by omega), BitVec.toNat_xor, bvn a (by omega), bvn (b * 256) (by omega), wrn (a ^^^ (b * 256)) (by omega)]
  omega
theorem crc_bound (x : ByteArray) {s : Int} (h : 0 ≤ s ∧ s ≤ 65535) : 0 ≤ g103_0 x s ∧ g103_0 x s ≤ 65535 := by
  unfold g103_0
  have hb := bytesOf_range x
  revert hb
  generalize bytesOf x = l
  revert s
  induction l with
  | nil => intro s h _; exact h
  | cons c r ih =>
    intro s h hb
    rw [List.foldl_cons]
    have hc := hb c (List.mem_cons_self ..)
    exact ih (byte_bound h ⟨hc.1, hc.2⟩) fun b hb' => hb b (List.mem_cons_of_mem _ hb')
theorem crc_eq (x : ByteArray) {s : Int} (h : 0 ≤ s ∧ s ≤ 65535) : g131_0 x s = g103_0 x s := by
  unfold g131_0
  rw [if_neg (by
    have c1 : s ≥ 0 := h.1
    unfold g105_0
    simp [c1, h.2])]
  have e : byte131 = byte103 := by
    funext s c
    unfold byte131 byte103
    have : ∀ (k : Nat) (t : Int), bits131 k t = bits103 k t := by
      intro k
      induction k with
      | zero => intro t; rfl
      | succ k ih => intro t; exact ih _
    exact this 8 _
  rw [e]
  rfl
theorem in_range (n a b : Int) (h : g74_0 n a b = true) : a ≤ n ∧ n ≤ b := by
  unfold g74_0 at h
  split at h
  · rename_i h1
    exact ⟨by simpa using h1, by simpa using h⟩
  · cases h
theorem line_sizes (x : Int × Int × ByteArray × Int × Unit) (h : g83_0 x = true) : (numB x.1).size ≤ 21 ∧ (numB x.2.1).size ≤ 21 ∧ x.2.2.1.size ≤ 40 ∧ InR .i64 x.2.2.2.1 := by
  unfold g83_0 g78_0 at h
  by_cases h1 : g74_0 x.1 0 100000 = true
  case neg => rw [if_neg h1] at h; cases h
  by_cases h2 : g74_0 x.2.1 0 1439 = true
  case neg => rw [if_pos h1, if_neg h2] at h; cases h
  by_cases h3 : g102_0 x.2.2.1 = true
  case neg => rw [if_pos h1, if_pos h2, if_neg h3] at h; cases h
  rw [if_pos h1, if_pos h2, if_pos h3] at h
  have a1 := in_range _ _ _ h1
  have a2 := in_range _ _ _ h2
  have a4 := in_range _ _ _ h
  refine ⟨numB_size _ (by omega) (by omega), numB_size _ (by omega) (by omega), ?_, by rw [i64_iff]; omega⟩
  unfold g102_0 at h3
  simp only [Bool.and_eq_true, Bool.not_eq_true', decide_eq_false_iff_not] at h3
  omega
theorem seal_pre (x : Int × Int × ByteArray × Int × Unit) (h : g83_0 x = true) (c : Int) : P84 c x.1 x.2.1 x.2.2.1 ∧ P119 c x := by
  obtain ⟨a1, a2, a3, _⟩ := line_sizes x h
  have e1 : g59_0 = numB := rfl
  have e2 : g67_0 = numB := rfl
  have p1 : ∀ n, P67 n := fun n => ⟨rfl, trivial⟩
  have e3 : (ByteArray.mk #[32]).size = 1 := rfl
  unfold P84 P119 P104 P132
  rw [e1, e2]
  simp only [ByteArray.size_append, e3, p1, true_and, and_true]
  omega
theorem seal_eq (x : Int × Int × ByteArray × Int × Unit) {c : Int} (h : 0 ≤ c ∧ c ≤ 65535) : g119_0 c x = g84_0 c x.1 x.2.1 x.2.2.1 ∧ 0 ≤ g84_0 c x.1 x.2.1 x.2.2.1 ∧ g84_0 c x.1 x.2.1 x.2.2.1 ≤ 65535 := by
  unfold g119_0 g84_0
  have e : g132_0 x = g104_0 x.1 x.2.1 x.2.2.1 := rfl
  rw [e]
  exact ⟨crc_eq _ h, crc_bound _ h⟩
theorem broken_eq : ∀ (l : List TyB2) (c i : Int), 0 ≤ c ∧ c ≤ 65535 → br58 c i l = (match fb66 i l (sl96 c l) with | some k => k | none => -1)
  | [], _, _, _ => rfl
  | x :: r, c, i, h => by
    obtain ⟨e1, e2⟩ := seal_eq x h
    simp only [br58, sl96, fb66, e1]
    have ih := broken_eq r (g84_0 c x.1 x.2.1 x.2.2.1) (i + 1) e2
    obtain ⟨x1, x2, x3, x4, ⟨⟩⟩ := x
    have hd : eqD (Ty.cons (Ty.int IntKind.i64) (Ty.cons (Ty.int IntKind.i64) (Ty.cons Ty.str (Ty.cons (Ty.int IntKind.i64) Ty.unit)))) (x1, x2, x3, x4, ()) (x1, x2, x3, g84_0 c x1 x2 x3, ()) = true ↔ g84_0 c x1 x2 x3 = x4 := by
      rw [eqD_eq rfl]
      simp only [Prod.mk.injEq, true_and, and_true]
      exact eq_comm
    by_cases hc : g84_0 c x1 x2 x3 = x4
    · rw [if_neg (by simp [hc]), if_neg (by rw [hd.2 hc]; simp)]
      exact ih
    · rw [if_pos (by simpa using hc), if_pos (by rw [Bool.eq_false_iff.2 (fun hh => hc (hd.1 hh))]; rfl)]
theorem fb_range : ∀ (l m : List TyB2) (i k : Int), fb66 i l m = some k → i ≤ k ∧ k < i + l.length
  | [], _, _, _, h => by cases h
  | _ :: _, [], _, _, h => by cases h
  | x :: r, y :: s, i, k, h => by
    simp only [fb66] at h
    simp only [List.length_cons]
    split at h
    · cases h; omega
    · have := fb_range r s (i + 1) k h
      omega
theorem lines_ok (l : List TyB2) (h : g57_0 l = true) : (∀ x ∈ l, g83_0 x = true) ∧ l.length ≤ 40 := by
  unfold g57_0 at h
  simp only [Bool.and_eq_true, decide_eq_true_eq] at h
  refine ⟨fun x hx => ?_, by omega⟩
  obtain ⟨j, hj⟩ := allI_mem _ _ h.1 x hx
  unfold ok57 at hj
  simp only [Bool.and_eq_true] at hj
  exact hj.1
theorem log_part (l : List TyB2) (h : g57_0 l = true) :
    P58 l ∧ P66 l ∧ (g58_0 l < 0 ∧ g66_1 l = 3 ∨ 0 ≤ g58_0 l ∧ g58_0 l < l.length ∧ g66_1 l = 0 ∧ g66_0 l = g58_0 l) := by
  obtain ⟨h1, h2⟩ := lines_ok l h
  refine ⟨fun x hx c => (seal_pre x (h1 x hx) c).1, fun _ => ⟨by omega, fun x hx c => (seal_pre x (h1 x hx) c).2⟩, ?_⟩
  have hv : g95_0 l = true := by rw [list_Line]; exact h
  unfold g58_0 g66_0 g66_1
  rw [if_pos hv, if_pos hv, broken_eq l 65535 0 (by decide)]
  have e : g96_0 l = sl96 65535 l := rfl
  rw [e]
  cases hf : fb66 0 l (sl96 65535 l) with
  | none => exact .inl ⟨by decide, rfl⟩
  | some k =>
    have := fb_range _ _ _ _ hf
    exact .inr ⟨this.1, (by show k < (l.length : Int); omega), rfl, rfl⟩
theorem notT {b y : Bool} (h : (if (!b) = true then false else y) = true) : b = true ∧ y = true := by cases b <;> simp_all
theorem neT {n : Int} {y : Bool} (h : (if (n != 0) = true then false else y) = true) : n = 0 ∧ y = true := by
  by_cases hn : n = 0
  · subst hn; exact ⟨rfl, h⟩
  · rw [if_pos (by simpa using hn)] at h; cases h
theorem eqT {n : Int} {y : Bool} (h : (if (n == 0) = true then y else false) = true) : n = 0 ∧ y = true := by
  by_cases hn : n = 0
  · subst hn; exact ⟨rfl, h⟩
  · rw [if_neg (by simpa using hn)] at h; cases h
theorem works_ok (x : (TyA0)) (h : g18_0 x = true) : g49_0 x.1 = true ∧ g50_0 x.2.1 = true ∧ g51_0 x.2.2.1 = true ∧ g52_0 x.2.2.2.1 = true ∧ g53_0 x.2.2.2.2.1 = true ∧ g54_0 x.2.2.2.2.2.1 = true ∧ g55_0 x.2.2.2.2.2.2.1 x.2.2.2.2.2.2.2.1 x.2.2.2.2.2.2.2.2.1 = 0 ∧ g56_0 x.2.2.2.2.2.2.2.2.2.1 x.2.2.2.2.2.2.2.2.2.2.1 = 0 ∧ g57_0 x.2.2.2.2.2.2.2.2.2.2.2.1 = true := by
  unfold g18_0 at h
  obtain ⟨h1, h⟩ := notT h
  obtain ⟨h2, h⟩ := notT h
  obtain ⟨h3, h⟩ := notT h
  obtain ⟨h4, h⟩ := notT h
  obtain ⟨h5, h⟩ := notT h
  obtain ⟨h6, h⟩ := notT h
  obtain ⟨h7, h⟩ := neT h
  obtain ⟨h8, h⟩ := eqT h
  exact ⟨h1, h2, h3, h4, h5, h6, h7, h8, h⟩
theorem part_log (x : (TyA0)) (h : g18_0 x = true) : P29 x ∧ P19 x ∧ g29_0 x = g19_0 x ∧ (g19_0 x).length ≤ 1 := by
  obtain ⟨h1, h2, h3⟩ := log_part x.2.2.2.2.2.2.2.2.2.2.2.1 (works_ok x h).2.2.2.2.2.2.2.2
  have e1 : g59_0 = numB := rfl
  have e2 : g67_0 = numB := rfl
  have p1 : ∀ n, P67 n := fun n => ⟨rfl, trivial⟩
  unfold P29 P19 g29_0 g19_0
  rw [e1, e2]
  rcases h3 with ⟨h3, h4⟩ | ⟨h3, h4, h5, h6⟩
  · rw [h4]
    simp [h1, h2, h3]
  · have h3' : ¬ g58_0 x.2.2.2.2.2.2.2.2.2.2.2.1 < 0 := by omega
    rw [h5, h6]
    simp [h1, h2, h3, h3', h4, p1]
theorem rep_eq (x : (TyA0)) : g7_0 x = g5_0 x ∧ g7_1 x = g5_1 x ∧ P7 x ∧ P5 x ∧ (g5_0 x).length ≤ 1 := by
  unfold g7_0 g7_1 g5_0 g5_1 P7 P5 g28c29_0 g28c29_1 P28c29
  rw [valid_works]
  by_cases h : g18_0 x = true
  · obtain ⟨p1, p2, e, hl⟩ := part_log x h
    have hf : ¬ (!g18_0 x) = true := by rw [h]; simp
    simp only [if_neg hf, p1, p2, e, true_and, and_true]
    omega
  · have hf : (!g18_0 x) = true := by rw [Bool.eq_false_iff.2 h]; rfl
    simp only [if_pos hf, true_and, and_true, List.length_nil]
    omega
theorem law3 (x : (TyA0)) (hx : Wf (.cons (.cons (.sl (.cons (.int .i64) (.cons (.int .i64) .unit))) (.cons (.int .i64) (.cons (.int .i64) .unit))) (.cons (.int .i64) (.cons (.cons (.int .i64) (.cons (.int .i64) .unit)) (.cons (.cons (.int .i64) (.cons (.int .i64) (.cons (.int .i64) (.cons (.int .i64) .unit)))) (.cons (.sl (.cons .str (.cons (.int .i64) (.cons (.int .i64) (.cons (.int .i64) .unit))))) (.cons (.cons (.int .i64) (.cons (.int .i64) (.cons (.int .i64) .unit))) (.cons (.sl (.cons .str (.cons (.int .i64) (.cons (.int .i64) (.cons (.int .i64) (.cons (.int .i64) .unit)))))) (.cons (.int .i64) (.cons (.int .i64) (.cons (.sl (.cons (.int .i64) (.cons (.int .i64) .unit))) (.cons (.int .i64) (.cons (.sl (.cons (.int .i64) (.cons (.int .i64) (.cons .str (.cons (.int .i64) .unit))))) .unit)))))))))))) x) : P3 x ∧ g3_0 x = true := by
  obtain ⟨p1, q1⟩ := sz_works x 1048576 (by decide) (by decide) hx
  by_cases c1 : g4_0 x 1048576 < 0
  · unfold P3 g3_0
    simp only [c1, p1, decide_true, if_true, and_self]
  obtain ⟨r1, s1, t1⟩ := q1 c1
  obtain ⟨a1, e1⟩ := to_works x (by omega)
  obtain ⟨m1, m2, m3⟩ := marked_works x (by omega)
  have f1 := eq_works x
  obtain ⟨k1, k2, p2, p3, k3⟩ := rep_eq x
  obtain ⟨c2, c3, c4⟩ := marked_problem (g5_0 x) (by omega)
  obtain ⟨d1, d2⟩ := held_problem (g5_0 x) (by omega)
  have ep : ∀ l, g8_0 l l = true := fun l => decide_eq_true rfl
  unfold P3 g3_0
  clear q1 hx r1 s1 t1
  simp only [e1, c1, p1, a1, f1, k1, k2, p2, p3, m1, m2, c2, c3, c4, d1, d2, ep, decide_true, decide_false, Bool.false_eq_true, if_false, true_and, and_true, Bool.not_true, bne_self_eq_false, beq_self_eq_true, and_self]
  exact m3
end Go.Proofs.YtnclnmljkoicdaaGreatDoor
