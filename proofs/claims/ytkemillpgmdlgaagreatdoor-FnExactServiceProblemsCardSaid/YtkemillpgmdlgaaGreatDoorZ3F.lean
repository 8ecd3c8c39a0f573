/- Several texts in one: the functions that this law reaches, and their laws. -/
import Derived.Test.YtkemillpgmdlgaaGreatDoorZ3A
import Derived.Test.YtkemillpgmdlgaaGreatDoorZ3B
import Derived.Test.YtkemillpgmdlgaaGreatDoorZ3C
import Derived.Test.YtkemillpgmdlgaaGreatDoorZ3D
import Derived.Test.YtkemillpgmdlgaaGreatDoorZ3E
set_option linter.unusedVariables false
set_option linter.unusedSimpArgs false
set_option maxRecDepth 100000
namespace Go.Proofs.YtkemillpgmdlgaaGreatDoor
open Go Go.Am Go.Proofs
noncomputable section
def ext44 : Ext := []
theorem ext44Ok : ExtOk Tryz.prog ext44 := trivial
noncomputable def b44 : Code := bodyOf Tryz.f44
theorem hb44 : Tryz.f44.body = some b44 := by kernel_rfl
def sig44 : List AT := [AT.v (Ty.int .i64)]
def tys44 : List Ty := [Ty.str]
def kds44 : List RK := []
def oks44 : List AT := owns sig44
def E44_4 (v3 : ByteArray) (x0 : Int) : Env := [(0, PV.a (Atom.val (Value.int .i64 x0))), (3, PV.a (Atom.val (Value.string v3)))]
def L44_4 (v3 : ByteArray) (x0 : Int) : Heap := []
mutual
def R44 : Nat → Int → List Dyn → Prop
  | 0, _, _ => False
  | n + 1, x0, ds => (if (decide (x0 ≤ 0)) = true then (ds = [Dyn.mk Ty.str (ByteArray.mk #[109, 48])]) else (R44_4 n (ByteArray.mk #[]) (x0) ds))
def R44_4 : Nat → ByteArray → Int → List Dyn → Prop
  | 0, _, _, _ => False
  | n + 1, v3, x0, ds => (if (decide (x0 > 0)) = true then ((InR .i64 (Int.tmod x0 10)) ∧ ((InR .i64 (48 + Int.tmod x0 10)) ∧ ((InR .u8 (48 + Int.tmod x0 10)) ∧ ((ByteArray.size (bytesStr [48 + Int.tmod x0 10]) + ByteArray.size v3 ≤ 9223372036854775807) ∧ ((InR .i64 (Int.tdiv x0 10)) ∧ (R44_4 n (bytesStr [48 + Int.tmod x0 10] ++ v3) (Int.tdiv x0 10) ds)))))) else ((1 + ByteArray.size v3 ≤ 9223372036854775807) ∧ (ds = [Dyn.mk Ty.str (ByteArray.mk #[109] ++ v3)])))
end
theorem snd44 : ∀ n, (∀ (x0 : Int) ds, R44 n x0 ds → ∀ K q, AtV Tryz.prog 44 (PostR kds44 oks44 ds [] [] q K) 20 K q [] [.code b44] (entE 0 0 sig44 (x0, ())) (entL sig44 (x0, ()))) ∧ (∀ (v3 : ByteArray) (x0 : Int) ds, R44_4 n v3 x0 ds → ∀ K q, AtV Tryz.prog 44 (PostR kds44 oks44 ds [] [] q K) 20 K q [] (cutAt b44 4) (E44_4 v3 x0) (L44_4 v3 x0)) := by
  intro n
  induction n with
  | zero => exact ⟨fun _ _ h => by simp only [R44] at h, fun _ _ _ h => by simp only [R44_4] at h⟩
  | succ n ih =>
  obtain ⟨ih, ih4⟩ := ih
  refine ⟨?_, ?_⟩
  · intro x0 ds h K q
    rw [R44] at h
    by_cases b0 : (decide (x0 ≤ 0)) = true
    · rw [if_pos b0] at h
      subst h
      exact AtV.ret Tryz.func44 tabOk ext44Ok mixed false [] tys44 [true] (a1 b0 trivial) (by kernel_rfl)
    · rw [if_neg b0] at h
      replace b0 := Bool.eq_false_iff.2 b0
      exact AtV.go tabOk ext44Ok mixed false [] [] [0, 3] [] [false] (a1 b0 trivial) (ih4 _ _ _ h K q) (by kernel_rfl)
  · intro v3 x0 ds h K q
    rw [R44_4] at h
    by_cases b0 : (decide (x0 > 0)) = true
    · rw [if_pos b0] at h
      obtain ⟨s0, h⟩ := h
      obtain ⟨s1, h⟩ := h
      obtain ⟨s2, h⟩ := h
      obtain ⟨s3, h⟩ := h
      obtain ⟨s4, h⟩ := h
      exact AtV.go tabOk ext44Ok mixed false [] [] [0, 3] [] [true] (a1 b0 (a1 ((by decide) : (10 : Int) ≠ (0 : Int)) (a1 s0 (a1 s1 (a1 s2 (a1 s3 (a1 ((by decide) : (10 : Int) ≠ (0 : Int)) (a1 s4 trivial)))))))) (ih4 _ _ _ h K q) (by kernel_rfl)
    · rw [if_neg b0] at h
      replace b0 := Bool.eq_false_iff.2 b0
      obtain ⟨s0, h⟩ := h
      subst h
      exact AtV.ret Tryz.func44 tabOk ext44Ok mixed false [] tys44 [false] (a1 b0 (a1 s0 trivial)) (by kernel_rfl)
def loop44 : Nat → ByteArray → Int → ByteArray
  | 0, v, _ => v
  | n + 1, v, x => if 0 < x then loop44 n (bytesStr [48 + Int.tmod x 10] ++ v) (Int.tdiv x 10) else v
theorem run44 : ∀ (n : Nat) (v : ByteArray) (x : Int), x < 10 ^ n → InR .i64 x → v.size + n ≤ 1000 → R44_4 (n + 1) v x [⟨.str, ByteArray.mk #[109] ++ loop44 n v x⟩] := by
  intro n
  induction n with
  | zero =>
    intro v x h1 _ h2
    rw [R44_4, if_neg (by simp at h1 ⊢; omega)]
    exact ⟨by omega, rfl⟩
  | succ n ih =>
    intro v x h1 hi h2
    rw [i64_iff] at hi
    rw [R44_4]
    by_cases hx : 0 < x
    · rw [if_pos (by simpa using hx)]
      have e1 : Int.tmod x 10 = x % 10 := Int.tmod_eq_emod_of_nonneg (by omega)
      have e2 : Int.tdiv x 10 = x / 10 := Int.tdiv_eq_ediv_of_nonneg (by omega)
      have hs : (bytesStr [48 + Int.tmod x 10]).size = 1 := bytesStr_size _
      have hp : (10 : Int) ^ (n + 1) = 10 * 10 ^ n := by rw [Int.pow_succ, Int.mul_comm]
      refine ⟨by rw [i64_iff, e1]; omega, by rw [i64_iff, e1]; omega, by rw [u8_iff, e1]; omega, by rw [hs]; omega, by rw [i64_iff, e2]; omega, ?_⟩
      have := ih (bytesStr [48 + Int.tmod x 10] ++ v) (Int.tdiv x 10) (by rw [e2]; omega) (by rw [i64_iff, e2]; omega) (by rw [ByteArray.size_append, hs]; omega)
      simp only [loop44, if_pos hx]
      exact this
    · rw [if_neg (by simp; omega)]
      simp only [loop44, if_neg hx]
      exact ⟨by omega, trivial⟩
def g44_0 (x0 : Int) : ByteArray := if x0 ≤ 0 then ByteArray.mk #[109, 48] else ByteArray.mk #[109] ++ loop44 19 (ByteArray.mk #[]) x0
def P44 (x0 : Int) : Prop := True
theorem top44 (x0 : Int) (hi : InR .i64 x0) : R44 21 x0 [⟨.str, g44_0 x0⟩] := by
  rw [R44]
  unfold g44_0
  by_cases h : x0 ≤ 0
  · rw [if_pos (by simpa using h), if_pos h]
  · rw [if_neg (by simpa using h), if_neg h]
    have hi' := hi
    rw [i64_iff] at hi'
    exact run44 19 _ x0 (by omega) hi (by decide)
def S44 : Am.Spec := { sig := sig44, pre := fun ⟨x0, _⟩ => P44 x0, res := fun ⟨x0, _⟩ => [⟨.str, g44_0 x0⟩] }
theorem con44 : Contract Tryz.prog 44 S44 := contract_of Tryz.func44 hb44 (Nat.le_of_ble_eq_true (by kernel_rfl)) (fun ⟨x0, _⟩ h hwf K q =>
  (snd44 _).1 x0 _ (top44 x0 hwf.1) K q)
end
noncomputable section
def ext40 : Ext := [(44, S44)]
theorem ext40Ok : ExtOk Tryz.prog ext40 := ⟨⟨ca44, con44⟩, trivial⟩
noncomputable def b40 : Code := bodyOf Tryz.f40
theorem hb40 : Tryz.f40.body = some b40 := by kernel_rfl
def sig40 : List AT := [AT.own YA5, AT.v (Ty.int .i64)]
def tys40 : List Ty := [Ty.int .i64]
def kds40 : List RK := []
def oks40 : List AT := owns sig40
def E40_2 (v5 : Int) (x1 : Int) (x0 : List TyB1) : Env := [(0, PV.a (Atom.osl 0 Option.none)), (1, PV.a (Atom.val (Value.int .i64 x1))), (5, PV.a (Atom.val (Value.int .i64 v5)))]
def L40_2 (v5 : Int) (x1 : Int) (x0 : List TyB1) : Heap := [Option.some (Arr.mk YA5 x0 false Option.none Option.none)]
@[reducible] def q40_0 (v5 : Int) (x1 : Int) (x0 : List TyB1) := List.set x0 (Int.toNat v5) (g44_0 x1, (List.getD x0 (Int.toNat v5) (ByteArray.empty, 0, 0, 0, ())).2)
@[reducible] def q40_1 (v5 : Int) (x1 : Int) (x0 : List TyB1) := List.set (q40_0 v5 x1 x0) (Int.toNat v5) ((List.getD (q40_0 v5 x1 x0) (Int.toNat v5) (ByteArray.empty, 0, 0, 0, ())).1, x1 + 1, (List.getD (q40_0 v5 x1 x0) (Int.toNat v5) (ByteArray.empty, 0, 0, 0, ())).2.2)
@[reducible] def q40_2 (v5 : Int) (x1 : Int) (x0 : List TyB1) := List.set (q40_1 v5 x1 x0) (Int.toNat v5) ((List.getD (q40_1 v5 x1 x0) (Int.toNat v5) (ByteArray.empty, 0, 0, 0, ())).1, (List.getD (q40_1 v5 x1 x0) (Int.toNat v5) (ByteArray.empty, 0, 0, 0, ())).2.1, x1 + 1 + 1, (List.getD (q40_1 v5 x1 x0) (Int.toNat v5) (ByteArray.empty, 0, 0, 0, ())).2.2.2)
mutual
def R40 : Nat → List TyB1 → Int → List Dyn → List (Option Lst) → Prop
  | 0, _, _, _, _ => False
  | n + 1, x0, x1, ds, us => (R40_2 n (0) (x1) (x0) ds us)
def R40_2 : Nat → Int → Int → List TyB1 → List Dyn → List (Option Lst) → Prop
  | 0, _, _, _, _, _ => False
  | n + 1, v5, x1, x0, ds, us => (if (decide (v5 < (↑(List.length x0) : Int))) = true then ((0 ≤ v5) ∧ (v5 < (↑(List.length x0) : Int)) ∧ ((InR .i64 (x1 + 1)) ∧ ((0 ≤ v5) ∧ (v5 < (↑(List.length (q40_0 v5 x1 x0)) : Int)) ∧ ((InR .i64 (x1 + 1 + 1)) ∧ ((0 ≤ v5) ∧ (v5 < (↑(List.length (q40_1 v5 x1 x0)) : Int)) ∧ ((InR .i64 (x1 + 1 + 1 + 1)) ∧ ((0 ≤ v5) ∧ (v5 < (↑(List.length (q40_2 v5 x1 x0)) : Int)) ∧ ((InR .i64 (x1 + 1 + 1 + 1 + 1)) ∧ ((InR .i64 (v5 + 1)) ∧ (R40_2 n (v5 + 1) (x1 + 1 + 1 + 1 + 1) (List.set (q40_2 v5 x1 x0) (Int.toNat v5) ((List.getD (q40_2 v5 x1 x0) (Int.toNat v5) (ByteArray.empty, 0, 0, 0, ())).1, (List.getD (q40_2 v5 x1 x0) (Int.toNat v5) (ByteArray.empty, 0, 0, 0, ())).2.1, (List.getD (q40_2 v5 x1 x0) (Int.toNat v5) (ByteArray.empty, 0, 0, 0, ())).2.2.1, x1 + 1 + 1 + 1, (List.getD (q40_2 v5 x1 x0) (Int.toNat v5) (ByteArray.empty, 0, 0, 0, ())).2.2.2.2)) ds us)))))))))) else (ds = [Dyn.mk (Ty.int .i64) x1] ∧ us = [Option.some (Lst.mk YA5 x0)]))
end
theorem snd40 : ∀ n, (∀ (x0 : List TyB1) (x1 : Int) ds us, R40 n x0 x1 ds us → ∀ K q, AtV Tryz.prog 40 (PostR kds40 oks40 ds us [0] q K) 42 K q [0] [.code b40] (entE 0 0 sig40 (x0, x1, ())) (entL sig40 (x0, x1, ()))) ∧ (∀ (v5 : Int) (x1 : Int) (x0 : List TyB1) ds us, R40_2 n v5 x1 x0 ds us → ∀ K q, AtV Tryz.prog 40 (PostR kds40 oks40 ds us [0] q K) 42 K q [0] (cutAt b40 2) (E40_2 v5 x1 x0) (L40_2 v5 x1 x0)) := by
  intro n
  induction n with
  | zero => exact ⟨fun _ _ _ _ h => by simp only [R40] at h, fun _ _ _ _ _ h => by simp only [R40_2] at h⟩
  | succ n ih =>
  obtain ⟨ih, ih2⟩ := ih
  refine ⟨?_, ?_⟩
  · intro x0 x1 ds us h K q
    rw [R40] at h
    exact AtV.go tabOk ext40Ok mixed false [] [] [0, 1, 5] [0] [] trivial (ih2 _ _ _ _ _ h K q) (by kernel_rfl)
  · intro v5 x1 x0 ds us h K q
    rw [R40_2] at h
    by_cases b0 : (decide (v5 < (↑(List.length x0) : Int))) = true
    · rw [if_pos b0] at h
      obtain ⟨s0, s1, h⟩ := h
      obtain ⟨s2, h⟩ := h
      obtain ⟨s3, s4, h⟩ := h
      obtain ⟨s5, h⟩ := h
      obtain ⟨s6, s7, h⟩ := h
      obtain ⟨s8, h⟩ := h
      obtain ⟨s9, s10, h⟩ := h
      obtain ⟨s11, h⟩ := h
      obtain ⟨s12, h⟩ := h
      exact AtV.go tabOk ext40Ok mixed false [] [] [0, 1, 5] [0] [true] (a1 b0 (a1 trivial (a1 s0 (a1 s1 (a1 s2 (a1 s3 (a1 s4 (a1 s5 (a1 s6 (a1 s7 (a1 s8 (a1 s9 (a1 s10 (a1 s11 (a1 s12 trivial))))))))))))))) (ih2 _ _ _ _ _ h K q) (by kernel_rfl)
    · rw [if_neg b0] at h
      replace b0 := Bool.eq_false_iff.2 b0
      obtain ⟨h, h'⟩ := h; subst h; subst h'
      exact AtV.ret Tryz.func40 tabOk ext40Ok mixed false [] tys40 [false] (a1 b0 trivial) (by kernel_rfl)
def M40 (x1 : Int) (n : Nat) : List TyB1 := (List.range n).map fun (j : Nat) => (g44_0 (x1 + 4 * (j : Int)), (x1 + 4 * (j : Int) + 1), (x1 + 4 * (j : Int) + 1 + 1), (x1 + 4 * (j : Int) + 1 + 1 + 1), ())
theorem M40_len (x1 : Int) (n : Nat) : (M40 x1 n).length = n := by simp [M40]
theorem M40_succ (x1 : Int) (n : Nat) : M40 x1 (n + 1) = M40 x1 n ++ [(g44_0 (x1 + 4 * (n : Int)), (x1 + 4 * (n : Int) + 1), (x1 + 4 * (n : Int) + 1 + 1), (x1 + 4 * (n : Int) + 1 + 1 + 1), ())] := by
  simp [M40, List.range_succ]
theorem run40 (x0 : List TyB1) (x1 : Int) (hm : x0.length ≤ maxLen) (h0 : 0 ≤ x1) (h1 : x1 + 4 * x0.length ≤ 9223372036854775807) : ∀ (k i : Nat), i + k = x0.length →
    R40_2 (k + 1) (i : Int) (x1 + 4 * (i : Int)) (M40 x1 i ++ x0.drop i) [⟨.int .i64, x1 + 4 * (x0.length : Int)⟩] [some ⟨(.cons .str (.cons (.int .i64) (.cons (.int .i64) (.cons (.int .i64) .unit)))), M40 x1 x0.length⟩] := by
  intro k
  induction k with
  | zero =>
    intro i hi
    have hl : (M40 x1 i ++ x0.drop i).length = x0.length := by simp [M40_len]; omega
    rw [R40_2, if_neg (by rw [hl]; simp; omega), drop_end x0 i (by omega), List.append_nil]
    have : i = x0.length := by omega
    subst this
    exact ⟨rfl, rfl⟩
  | succ k ih =>
    intro i hi
    have hl : (M40 x1 i ++ x0.drop i).length = x0.length := by simp [M40_len]; omega
    have hA := M40_len x1 i
    rw [R40_2, if_pos (by rw [hl]; simp; omega)]
    rw [drop_get x0 i (ByteArray.empty, (0 : Int), (0 : Int), (0 : Int), ()) (by omega)] at hl ⊢
    simp only [Int.toNat_natCast, q40_0, q40_1, q40_2, set_mid _ _ _ _ i hA, get_mid _ _ _ _ i hA]
    have hl' : ∀ y : TyB1, ((M40 x1 i ++ y :: x0.drop (i + 1)).length : Int) = x0.length := fun y => by rw [← hl]; simp
    simp only [hl']
    refine ⟨by omega, by omega, by rw [i64_iff]; omega, by omega, by omega, by rw [i64_iff]; omega, by omega, by omega, by rw [i64_iff]; omega, by omega, by omega, by rw [i64_iff]; omega, inR_up hm (by omega), ?_⟩
    have hx : x1 + 4 * (i : Int) + 1 + 1 + 1 + 1 = x1 + 4 * ((i + 1 : Nat) : Int) := by omega
    have := ih (i + 1) (by omega)
    rw [M40_succ, List.append_assoc] at this
    rw [hx]
    simpa using this
def P40 (x0 : List TyB1) (x1 : Int) : Prop := 0 ≤ x1 ∧ x1 + 4 * x0.length ≤ 9223372036854775807
def g40_0 (x0 : List TyB1) (x1 : Int) : Int := x1 + 4 * (x0.length : Int)
def u40_0 (x0 : List TyB1) (x1 : Int) : List TyB1 := M40 x1 x0.length
theorem top40 (x0 : List TyB1) (x1 : Int) (hm : x0.length ≤ maxLen) (h : P40 x0 x1) : R40 (x0.length + 1 + 1) x0 x1 [⟨.int .i64, g40_0 x0 x1⟩] [some ⟨(.cons .str (.cons (.int .i64) (.cons (.int .i64) (.cons (.int .i64) .unit)))), u40_0 x0 x1⟩] := by
  rw [R40]
  have := run40 x0 x1 hm h.1 h.2 x0.length 0 (by omega)
  simpa [M40, g40_0, u40_0] using this
def S40 : Am.Spec := { sig := sig40, pre := fun ⟨x0, x1, _⟩ => P40 x0 x1, upd := fun ⟨x0, x1, _⟩ => [some ⟨(.cons .str (.cons (.int .i64) (.cons (.int .i64) (.cons (.int .i64) .unit)))), u40_0 x0 x1⟩], res := fun ⟨x0, x1, _⟩ => [⟨.int .i64, g40_0 x0 x1⟩] }
theorem con40 : Contract Tryz.prog 40 S40 := contract_of Tryz.func40 hb40 (Nat.le_of_ble_eq_true (by kernel_rfl)) (fun ⟨x0, x1, _⟩ h hwf K q =>
  (snd40 _).1 x0 x1 _ _ (top40 x0 x1 hwf.1.1 h) K q)
end
noncomputable section
def ext41 : Ext := [(44, S44)]
theorem ext41Ok : ExtOk Tryz.prog ext41 := ⟨⟨ca44, con44⟩, trivial⟩
noncomputable def b41 : Code := bodyOf Tryz.f41
theorem hb41 : Tryz.f41.body = some b41 := by kernel_rfl
def sig41 : List AT := [AT.own YA3, AT.v (Ty.int .i64)]
def tys41 : List Ty := [Ty.int .i64]
def kds41 : List RK := []
def oks41 : List AT := owns sig41
def E41_2 (v5 : Int) (x1 : Int) (x0 : List TyB0) : Env := [(0, PV.a (Atom.osl 0 Option.none)), (1, PV.a (Atom.val (Value.int .i64 x1))), (5, PV.a (Atom.val (Value.int .i64 v5)))]
def L41_2 (v5 : Int) (x1 : Int) (x0 : List TyB0) : Heap := [Option.some (Arr.mk YA3 x0 false Option.none Option.none)]
@[reducible] def q41_0 (v5 : Int) (x1 : Int) (x0 : List TyB0) := List.set x0 (Int.toNat v5) (g44_0 x1, (List.getD x0 (Int.toNat v5) (ByteArray.empty, 0, 0, 0, 0, ())).2)
@[reducible] def q41_1 (v5 : Int) (x1 : Int) (x0 : List TyB0) := List.set (q41_0 v5 x1 x0) (Int.toNat v5) ((List.getD (q41_0 v5 x1 x0) (Int.toNat v5) (ByteArray.empty, 0, 0, 0, 0, ())).1, x1 + 1, (List.getD (q41_0 v5 x1 x0) (Int.toNat v5) (ByteArray.empty, 0, 0, 0, 0, ())).2.2)
@[reducible] def q41_2 (v5 : Int) (x1 : Int) (x0 : List TyB0) := List.set (q41_1 v5 x1 x0) (Int.toNat v5) ((List.getD (q41_1 v5 x1 x0) (Int.toNat v5) (ByteArray.empty, 0, 0, 0, 0, ())).1, (List.getD (q41_1 v5 x1 x0) (Int.toNat v5) (ByteArray.empty, 0, 0, 0, 0, ())).2.1, x1 + 1 + 1, (List.getD (q41_1 v5 x1 x0) (Int.toNat v5) (ByteArray.empty, 0, 0, 0, 0, ())).2.2.2)
@[reducible] def q41_3 (v5 : Int) (x1 : Int) (x0 : List TyB0) := List.set (q41_2 v5 x1 x0) (Int.toNat v5) ((List.getD (q41_2 v5 x1 x0) (Int.toNat v5) (ByteArray.empty, 0, 0, 0, 0, ())).1, (List.getD (q41_2 v5 x1 x0) (Int.toNat v5) (ByteArray.empty, 0, 0, 0, 0, ())).2.1, (List.getD (q41_2 v5 x1 x0) (Int.toNat v5) (ByteArray.empty, 0, 0, 0, 0, ())).2.2.1, x1 + 1 + 1 + 1, (List.getD (q41_2 v5 x1 x0) (Int.toNat v5) (ByteArray.empty, 0, 0, 0, 0, ())).2.2.2.2)
mutual
def R41 : Nat → List TyB0 → Int → List Dyn → List (Option Lst) → Prop
  | 0, _, _, _, _ => False
  | n + 1, x0, x1, ds, us => (R41_2 n (0) (x1) (x0) ds us)
def R41_2 : Nat → Int → Int → List TyB0 → List Dyn → List (Option Lst) → Prop
  | 0, _, _, _, _, _ => False
  | n + 1, v5, x1, x0, ds, us => (if (decide (v5 < (↑(List.length x0) : Int))) = true then ((0 ≤ v5) ∧ (v5 < (↑(List.length x0) : Int)) ∧ ((InR .i64 (x1 + 1)) ∧ ((0 ≤ v5) ∧ (v5 < (↑(List.length (q41_0 v5 x1 x0)) : Int)) ∧ ((InR .i64 (x1 + 1 + 1)) ∧ ((0 ≤ v5) ∧ (v5 < (↑(List.length (q41_1 v5 x1 x0)) : Int)) ∧ ((InR .i64 (x1 + 1 + 1 + 1)) ∧ ((0 ≤ v5) ∧ (v5 < (↑(List.length (q41_2 v5 x1 x0)) : Int)) ∧ ((InR .i64 (x1 + 1 + 1 + 1 + 1)) ∧ ((0 ≤ v5) ∧ (v5 < (↑(List.length (q41_3 v5 x1 x0)) : Int)) ∧ ((InR .i64 (x1 + 1 + 1 + 1 + 1 + 1)) ∧ ((InR .i64 (v5 + 1)) ∧ (R41_2 n (v5 + 1) (x1 + 1 + 1 + 1 + 1 + 1) (List.set (q41_3 v5 x1 x0) (Int.toNat v5) ((List.getD (q41_3 v5 x1 x0) (Int.toNat v5) (ByteArray.empty, 0, 0, 0, 0, ())).1, (List.getD (q41_3 v5 x1 x0) (Int.toNat v5) (ByteArray.empty, 0, 0, 0, 0, ())).2.1, (List.getD (q41_3 v5 x1 x0) (Int.toNat v5) (ByteArray.empty, 0, 0, 0, 0, ())).2.2.1, (List.getD (q41_3 v5 x1 x0) (Int.toNat v5) (ByteArray.empty, 0, 0, 0, 0, ())).2.2.2.1, x1 + 1 + 1 + 1 + 1, (List.getD (q41_3 v5 x1 x0) (Int.toNat v5) (ByteArray.empty, 0, 0, 0, 0, ())).2.2.2.2.2)) ds us)))))))))))) else (ds = [Dyn.mk (Ty.int .i64) x1] ∧ us = [Option.some (Lst.mk YA3 x0)]))
end
theorem snd41 : ∀ n, (∀ (x0 : List TyB0) (x1 : Int) ds us, R41 n x0 x1 ds us → ∀ K q, AtV Tryz.prog 41 (PostR kds41 oks41 ds us [0] q K) 49 K q [0] [.code b41] (entE 0 0 sig41 (x0, x1, ())) (entL sig41 (x0, x1, ()))) ∧ (∀ (v5 : Int) (x1 : Int) (x0 : List TyB0) ds us, R41_2 n v5 x1 x0 ds us → ∀ K q, AtV Tryz.prog 41 (PostR kds41 oks41 ds us [0] q K) 49 K q [0] (cutAt b41 2) (E41_2 v5 x1 x0) (L41_2 v5 x1 x0)) := by
  intro n
  induction n with
  | zero => exact ⟨fun _ _ _ _ h => by simp only [R41] at h, fun _ _ _ _ _ h => by simp only [R41_2] at h⟩
  | succ n ih =>
  obtain ⟨ih, ih2⟩ := ih
  refine ⟨?_, ?_⟩
  · intro x0 x1 ds us h K q
    rw [R41] at h
    exact AtV.go tabOk ext41Ok mixed false [] [] [0, 1, 5] [0] [] trivial (ih2 _ _ _ _ _ h K q) (by kernel_rfl)
  · intro v5 x1 x0 ds us h K q
    rw [R41_2] at h
    by_cases b0 : (decide (v5 < (↑(List.length x0) : Int))) = true
    · rw [if_pos b0] at h
      obtain ⟨s0, s1, h⟩ := h
      obtain ⟨s2, h⟩ := h
      obtain ⟨s3, s4, h⟩ := h
      obtain ⟨s5, h⟩ := h
      obtain ⟨s6, s7, h⟩ := h
      obtain ⟨s8, h⟩ := h
      obtain ⟨s9, s10, h⟩ := h
      obtain ⟨s11, h⟩ := h
      obtain ⟨s12, s13, h⟩ := h
      obtain ⟨s14, h⟩ := h
      obtain ⟨s15, h⟩ := h
      exact AtV.go tabOk ext41Ok mixed false [] [] [0, 1, 5] [0] [true] (a1 b0 (a1 trivial (a1 s0 (a1 s1 (a1 s2 (a1 s3 (a1 s4 (a1 s5 (a1 s6 (a1 s7 (a1 s8 (a1 s9 (a1 s10 (a1 s11 (a1 s12 (a1 s13 (a1 s14 (a1 s15 trivial)))))))))))))))))) (ih2 _ _ _ _ _ h K q) (by kernel_rfl)
    · rw [if_neg b0] at h
      replace b0 := Bool.eq_false_iff.2 b0
      obtain ⟨h, h'⟩ := h; subst h; subst h'
      exact AtV.ret Tryz.func41 tabOk ext41Ok mixed false [] tys41 [false] (a1 b0 trivial) (by kernel_rfl)
def M41 (x1 : Int) (n : Nat) : List TyB0 := (List.range n).map fun (j : Nat) => (g44_0 (x1 + 5 * (j : Int)), (x1 + 5 * (j : Int) + 1), (x1 + 5 * (j : Int) + 1 + 1), (x1 + 5 * (j : Int) + 1 + 1 + 1), (x1 + 5 * (j : Int) + 1 + 1 + 1 + 1), ())
theorem M41_len (x1 : Int) (n : Nat) : (M41 x1 n).length = n := by simp [M41]
theorem M41_succ (x1 : Int) (n : Nat) : M41 x1 (n + 1) = M41 x1 n ++ [(g44_0 (x1 + 5 * (n : Int)), (x1 + 5 * (n : Int) + 1), (x1 + 5 * (n : Int) + 1 + 1), (x1 + 5 * (n : Int) + 1 + 1 + 1), (x1 + 5 * (n : Int) + 1 + 1 + 1 + 1), ())] := by
  simp [M41, List.range_succ]
theorem run41 (x0 : List TyB0) (x1 : Int) (hm : x0.length ≤ maxLen) (h0 : 0 ≤ x1) (h1 : x1 + 5 * x0.length ≤ 9223372036854775807) : ∀ (k i : Nat), i + k = x0.length →
    R41_2 (k + 1) (i : Int) (x1 + 5 * (i : Int)) (M41 x1 i ++ x0.drop i) [⟨.int .i64, x1 + 5 * (x0.length : Int)⟩] [some ⟨(.cons .str (.cons (.int .i64) (.cons (.int .i64) (.cons (.int .i64) (.cons (.int .i64) .unit))))), M41 x1 x0.length⟩] := by
  intro k
  induction k with
  | zero =>
    intro i hi
    have hl : (M41 x1 i ++ x0.drop i).length = x0.length := by simp [M41_len]; omega
    rw [R41_2, if_neg (by rw [hl]; simp; omega), drop_end x0 i (by omega), List.append_nil]
    have : i = x0.length := by omega
    subst this
    exact ⟨rfl, rfl⟩
  | succ k ih =>
    intro i hi
    have hl : (M41 x1 i ++ x0.drop i).length = x0.length := by simp [M41_len]; omega
    have hA := M41_len x1 i
    rw [R41_2, if_pos (by rw [hl]; simp; omega)]
    rw [drop_get x0 i (ByteArray.empty, (0 : Int), (0 : Int), (0 : Int), (0 : Int), ()) (by omega)] at hl ⊢
    simp only [Int.toNat_natCast, q41_0, q41_1, q41_2, q41_3, set_mid _ _ _ _ i hA, get_mid _ _ _ _ i hA]
    have hl' : ∀ y : TyB0, ((M41 x1 i ++ y :: x0.drop (i + 1)).length : Int) = x0.length := fun y => by rw [← hl]; simp
    simp only [hl']
    refine ⟨by omega, by omega, by rw [i64_iff]; omega, by omega, by omega, by rw [i64_iff]; omega, by omega, by omega, by rw [i64_iff]; omega, by omega, by omega, by rw [i64_iff]; omega, by omega, by omega, by rw [i64_iff]; omega, inR_up hm (by omega), ?_⟩
    have hx : x1 + 5 * (i : Int) + 1 + 1 + 1 + 1 + 1 = x1 + 5 * ((i + 1 : Nat) : Int) := by omega
    have := ih (i + 1) (by omega)
    rw [M41_succ, List.append_assoc] at this
    rw [hx]
    simpa using this
def P41 (x0 : List TyB0) (x1 : Int) : Prop := 0 ≤ x1 ∧ x1 + 5 * x0.length ≤ 9223372036854775807
def g41_0 (x0 : List TyB0) (x1 : Int) : Int := x1 + 5 * (x0.length : Int)
def u41_0 (x0 : List TyB0) (x1 : Int) : List TyB0 := M41 x1 x0.length
theorem top41 (x0 : List TyB0) (x1 : Int) (hm : x0.length ≤ maxLen) (h : P41 x0 x1) : R41 (x0.length + 1 + 1) x0 x1 [⟨.int .i64, g41_0 x0 x1⟩] [some ⟨(.cons .str (.cons (.int .i64) (.cons (.int .i64) (.cons (.int .i64) (.cons (.int .i64) .unit))))), u41_0 x0 x1⟩] := by
  rw [R41]
  have := run41 x0 x1 hm h.1 h.2 x0.length 0 (by omega)
  simpa [M41, g41_0, u41_0] using this
def S41 : Am.Spec := { sig := sig41, pre := fun ⟨x0, x1, _⟩ => P41 x0 x1, upd := fun ⟨x0, x1, _⟩ => [some ⟨(.cons .str (.cons (.int .i64) (.cons (.int .i64) (.cons (.int .i64) (.cons (.int .i64) .unit))))), u41_0 x0 x1⟩], res := fun ⟨x0, x1, _⟩ => [⟨.int .i64, g41_0 x0 x1⟩] }
theorem con41 : Contract Tryz.prog 41 S41 := contract_of Tryz.func41 hb41 (Nat.le_of_ble_eq_true (by kernel_rfl)) (fun ⟨x0, x1, _⟩ h hwf K q =>
  (snd41 _).1 x0 x1 _ _ (top41 x0 x1 hwf.1.1 h) K q)
end
noncomputable section
def ext42 : Ext := []
theorem ext42Ok : ExtOk Tryz.prog ext42 := trivial
noncomputable def b42 : Code := bodyOf Tryz.f42
theorem hb42 : Tryz.f42.body = some b42 := by kernel_rfl
def sig42 : List AT := [AT.own YA9, AT.v (Ty.int .i64)]
def tys42 : List Ty := [Ty.int .i64]
def kds42 : List RK := []
def oks42 : List AT := owns sig42
def E42_2 (v5 : Int) (x1 : Int) (x0 : List TyB4) : Env := [(0, PV.a (Atom.osl 0 Option.none)), (1, PV.a (Atom.val (Value.int .i64 x1))), (5, PV.a (Atom.val (Value.int .i64 v5)))]
def L42_2 (v5 : Int) (x1 : Int) (x0 : List TyB4) : Heap := [Option.some (Arr.mk YA9 x0 false Option.none Option.none)]
mutual
def R42 : Nat → List TyB4 → Int → List Dyn → List (Option Lst) → Prop
  | 0, _, _, _, _ => False
  | n + 1, x0, x1, ds, us => (R42_2 n (0) (x1) (x0) ds us)
def R42_2 : Nat → Int → Int → List TyB4 → List Dyn → List (Option Lst) → Prop
  | 0, _, _, _, _, _ => False
  | n + 1, v5, x1, x0, ds, us => (if (decide (v5 < (↑(List.length x0) : Int))) = true then ((0 ≤ v5) ∧ (v5 < (↑(List.length x0) : Int)) ∧ ((InR .i64 (x1 + 1)) ∧ ((0 ≤ v5) ∧ (v5 < (↑(List.length (List.set x0 (Int.toNat v5) (x1, (List.getD x0 (Int.toNat v5) (0, 0, ())).2))) : Int)) ∧ ((InR .i64 (x1 + 1 + 1)) ∧ ((InR .i64 (v5 + 1)) ∧ (R42_2 n (v5 + 1) (x1 + 1 + 1) (List.set (List.set x0 (Int.toNat v5) (x1, (List.getD x0 (Int.toNat v5) (0, 0, ())).2)) (Int.toNat v5) ((List.getD (List.set x0 (Int.toNat v5) (x1, (List.getD x0 (Int.toNat v5) (0, 0, ())).2)) (Int.toNat v5) (0, 0, ())).1, x1 + 1, (List.getD (List.set x0 (Int.toNat v5) (x1, (List.getD x0 (Int.toNat v5) (0, 0, ())).2)) (Int.toNat v5) (0, 0, ())).2.2)) ds us)))))) else (ds = [Dyn.mk (Ty.int .i64) x1] ∧ us = [Option.some (Lst.mk YA9 x0)]))
end
theorem snd42 : ∀ n, (∀ (x0 : List TyB4) (x1 : Int) ds us, R42 n x0 x1 ds us → ∀ K q, AtV Tryz.prog 42 (PostR kds42 oks42 ds us [0] q K) 27 K q [0] [.code b42] (entE 0 0 sig42 (x0, x1, ())) (entL sig42 (x0, x1, ()))) ∧ (∀ (v5 : Int) (x1 : Int) (x0 : List TyB4) ds us, R42_2 n v5 x1 x0 ds us → ∀ K q, AtV Tryz.prog 42 (PostR kds42 oks42 ds us [0] q K) 27 K q [0] (cutAt b42 2) (E42_2 v5 x1 x0) (L42_2 v5 x1 x0)) := by
  intro n
  induction n with
  | zero => exact ⟨fun _ _ _ _ h => by simp only [R42] at h, fun _ _ _ _ _ h => by simp only [R42_2] at h⟩
  | succ n ih =>
  obtain ⟨ih, ih2⟩ := ih
  refine ⟨?_, ?_⟩
  · intro x0 x1 ds us h K q
    rw [R42] at h
    exact AtV.go tabOk ext42Ok mixed false [] [] [0, 1, 5] [0] [] trivial (ih2 _ _ _ _ _ h K q) (by kernel_rfl)
  · intro v5 x1 x0 ds us h K q
    rw [R42_2] at h
    by_cases b0 : (decide (v5 < (↑(List.length x0) : Int))) = true
    · rw [if_pos b0] at h
      obtain ⟨s0, s1, h⟩ := h
      obtain ⟨s2, h⟩ := h
      obtain ⟨s3, s4, h⟩ := h
      obtain ⟨s5, h⟩ := h
      obtain ⟨s6, h⟩ := h
      exact AtV.go tabOk ext42Ok mixed false [] [] [0, 1, 5] [0] [true] (a1 b0 (a1 s0 (a1 s1 (a1 s2 (a1 s3 (a1 s4 (a1 s5 (a1 s6 trivial)))))))) (ih2 _ _ _ _ _ h K q) (by kernel_rfl)
    · rw [if_neg b0] at h
      replace b0 := Bool.eq_false_iff.2 b0
      obtain ⟨h, h'⟩ := h; subst h; subst h'
      exact AtV.ret Tryz.func42 tabOk ext42Ok mixed false [] tys42 [false] (a1 b0 trivial) (by kernel_rfl)
def M42 (x1 : Int) (n : Nat) : List TyB4 := (List.range n).map fun (j : Nat) => ((x1 + 2 * (j : Int)), (x1 + 2 * (j : Int) + 1), ())
theorem M42_len (x1 : Int) (n : Nat) : (M42 x1 n).length = n := by simp [M42]
theorem M42_succ (x1 : Int) (n : Nat) : M42 x1 (n + 1) = M42 x1 n ++ [((x1 + 2 * (n : Int)), (x1 + 2 * (n : Int) + 1), ())] := by
  simp [M42, List.range_succ]
theorem run42 (x0 : List TyB4) (x1 : Int) (hm : x0.length ≤ maxLen) (h0 : 0 ≤ x1) (h1 : x1 + 2 * x0.length ≤ 9223372036854775807) : ∀ (k i : Nat), i + k = x0.length →
    R42_2 (k + 1) (i : Int) (x1 + 2 * (i : Int)) (M42 x1 i ++ x0.drop i) [⟨.int .i64, x1 + 2 * (x0.length : Int)⟩] [some ⟨(.cons (.int .i64) (.cons (.int .i64) .unit)), M42 x1 x0.length⟩] := by
  intro k
  induction k with
  | zero =>
    intro i hi
    have hl : (M42 x1 i ++ x0.drop i).length = x0.length := by simp [M42_len]; omega
    rw [R42_2, if_neg (by rw [hl]; simp; omega), drop_end x0 i (by omega), List.append_nil]
    have : i = x0.length := by omega
    subst this
    exact ⟨rfl, rfl⟩
  | succ k ih =>
    intro i hi
    have hl : (M42 x1 i ++ x0.drop i).length = x0.length := by simp [M42_len]; omega
    have hA := M42_len x1 i
    rw [R42_2, if_pos (by rw [hl]; simp; omega)]
    rw [drop_get x0 i ((0 : Int), (0 : Int), ()) (by omega)] at hl ⊢
    simp only [Int.toNat_natCast, set_mid _ _ _ _ i hA, get_mid _ _ _ _ i hA]
    have hl' : ∀ y : TyB4, ((M42 x1 i ++ y :: x0.drop (i + 1)).length : Int) = x0.length := fun y => by rw [← hl]; simp
    simp only [hl']
    refine ⟨by omega, by omega, by rw [i64_iff]; omega, by omega, by omega, by rw [i64_iff]; omega, inR_up hm (by omega), ?_⟩
    have hx : x1 + 2 * (i : Int) + 1 + 1 = x1 + 2 * ((i + 1 : Nat) : Int) := by omega
    have := ih (i + 1) (by omega)
    rw [M42_succ, List.append_assoc] at this
    rw [hx]
    simpa using this
def P42 (x0 : List TyB4) (x1 : Int) : Prop := 0 ≤ x1 ∧ x1 + 2 * x0.length ≤ 9223372036854775807
def g42_0 (x0 : List TyB4) (x1 : Int) : Int := x1 + 2 * (x0.length : Int)
def u42_0 (x0 : List TyB4) (x1 : Int) : List TyB4 := M42 x1 x0.length
theorem top42 (x0 : List TyB4) (x1 : Int) (hm : x0.length ≤ maxLen) (h : P42 x0 x1) : R42 (x0.length + 1 + 1) x0 x1 [⟨.int .i64, g42_0 x0 x1⟩] [some ⟨(.cons (.int .i64) (.cons (.int .i64) .unit)), u42_0 x0 x1⟩] := by
  rw [R42]
  have := run42 x0 x1 hm h.1 h.2 x0.length 0 (by omega)
  simpa [M42, g42_0, u42_0] using this
def S42 : Am.Spec := { sig := sig42, pre := fun ⟨x0, x1, _⟩ => P42 x0 x1, upd := fun ⟨x0, x1, _⟩ => [some ⟨(.cons (.int .i64) (.cons (.int .i64) .unit)), u42_0 x0 x1⟩], res := fun ⟨x0, x1, _⟩ => [⟨.int .i64, g42_0 x0 x1⟩] }
theorem con42 : Contract Tryz.prog 42 S42 := contract_of Tryz.func42 hb42 (Nat.le_of_ble_eq_true (by kernel_rfl)) (fun ⟨x0, x1, _⟩ h hwf K q =>
  (snd42 _).1 x0 x1 _ _ (top42 x0 x1 hwf.1.1 h) K q)
end
noncomputable section
def ext43 : Ext := [(44, S44)]
theorem ext43Ok : ExtOk Tryz.prog ext43 := ⟨⟨ca44, con44⟩, trivial⟩
noncomputable def b43 : Code := bodyOf Tryz.f43
theorem hb43 : Tryz.f43.body = some b43 := by kernel_rfl
def sig43 : List AT := [AT.own YA6, AT.v (Ty.int .i64)]
def tys43 : List Ty := [Ty.int .i64]
def kds43 : List RK := []
def oks43 : List AT := owns sig43
def E43_2 (v5 : Int) (x1 : Int) (x0 : List TyB2) : Env := [(0, PV.a (Atom.osl 0 Option.none)), (1, PV.a (Atom.val (Value.int .i64 x1))), (5, PV.a (Atom.val (Value.int .i64 v5)))]
def L43_2 (v5 : Int) (x1 : Int) (x0 : List TyB2) : Heap := [Option.some (Arr.mk YA6 x0 false Option.none Option.none)]
@[reducible] def q43_0 (v5 : Int) (x1 : Int) (x0 : List TyB2) := List.set x0 (Int.toNat v5) (x1, (List.getD x0 (Int.toNat v5) (0, 0, ByteArray.empty, 0, ())).2)
@[reducible] def q43_1 (v5 : Int) (x1 : Int) (x0 : List TyB2) := List.set (q43_0 v5 x1 x0) (Int.toNat v5) ((List.getD (q43_0 v5 x1 x0) (Int.toNat v5) (0, 0, ByteArray.empty, 0, ())).1, x1 + 1, (List.getD (q43_0 v5 x1 x0) (Int.toNat v5) (0, 0, ByteArray.empty, 0, ())).2.2)
@[reducible] def q43_2 (v5 : Int) (x1 : Int) (x0 : List TyB2) := List.set (q43_1 v5 x1 x0) (Int.toNat v5) ((List.getD (q43_1 v5 x1 x0) (Int.toNat v5) (0, 0, ByteArray.empty, 0, ())).1, (List.getD (q43_1 v5 x1 x0) (Int.toNat v5) (0, 0, ByteArray.empty, 0, ())).2.1, g44_0 (x1 + 1 + 1), (List.getD (q43_1 v5 x1 x0) (Int.toNat v5) (0, 0, ByteArray.empty, 0, ())).2.2.2)
mutual
def R43 : Nat → List TyB2 → Int → List Dyn → List (Option Lst) → Prop
  | 0, _, _, _, _ => False
  | n + 1, x0, x1, ds, us => (R43_2 n (0) (x1) (x0) ds us)
def R43_2 : Nat → Int → Int → List TyB2 → List Dyn → List (Option Lst) → Prop
  | 0, _, _, _, _, _ => False
  | n + 1, v5, x1, x0, ds, us => (if (decide (v5 < (↑(List.length x0) : Int))) = true then ((0 ≤ v5) ∧ (v5 < (↑(List.length x0) : Int)) ∧ ((InR .i64 (x1 + 1)) ∧ ((0 ≤ v5) ∧ (v5 < (↑(List.length (q43_0 v5 x1 x0)) : Int)) ∧ ((InR .i64 (x1 + 1 + 1)) ∧ ((0 ≤ v5) ∧ (v5 < (↑(List.length (q43_1 v5 x1 x0)) : Int)) ∧ ((InR .i64 (x1 + 1 + 1 + 1)) ∧ ((0 ≤ v5) ∧ (v5 < (↑(List.length (q43_2 v5 x1 x0)) : Int)) ∧ ((InR .i64 (x1 + 1 + 1 + 1 + 1)) ∧ ((InR .i64 (v5 + 1)) ∧ (R43_2 n (v5 + 1) (x1 + 1 + 1 + 1 + 1) (List.set (q43_2 v5 x1 x0) (Int.toNat v5) ((List.getD (q43_2 v5 x1 x0) (Int.toNat v5) (0, 0, ByteArray.empty, 0, ())).1, (List.getD (q43_2 v5 x1 x0) (Int.toNat v5) (0, 0, ByteArray.empty, 0, ())).2.1, (List.getD (q43_2 v5 x1 x0) (Int.toNat v5) (0, 0, ByteArray.empty, 0, ())).2.2.1, x1 + 1 + 1 + 1, (List.getD (q43_2 v5 x1 x0) (Int.toNat v5) (0, 0, ByteArray.empty, 0, ())).2.2.2.2)) ds us)))))))))) else (ds = [Dyn.mk (Ty.int .i64) x1] ∧ us = [Option.some (Lst.mk YA6 x0)]))
end
theorem snd43 : ∀ n, (∀ (x0 : List TyB2) (x1 : Int) ds us, R43 n x0 x1 ds us → ∀ K q, AtV Tryz.prog 43 (PostR kds43 oks43 ds us [0] q K) 42 K q [0] [.code b43] (entE 0 0 sig43 (x0, x1, ())) (entL sig43 (x0, x1, ()))) ∧ (∀ (v5 : Int) (x1 : Int) (x0 : List TyB2) ds us, R43_2 n v5 x1 x0 ds us → ∀ K q, AtV Tryz.prog 43 (PostR kds43 oks43 ds us [0] q K) 42 K q [0] (cutAt b43 2) (E43_2 v5 x1 x0) (L43_2 v5 x1 x0)) := by
  intro n
  induction n with
  | zero => exact ⟨fun _ _ _ _ h => by simp only [R43] at h, fun _ _ _ _ _ h => by simp only [R43_2] at h⟩
  | succ n ih =>
  obtain ⟨ih, ih2⟩ := ih
  refine ⟨?_, ?_⟩
  · intro x0 x1 ds us h K q
    rw [R43] at h
    exact AtV.go tabOk ext43Ok mixed false [] [] [0, 1, 5] [0] [] trivial (ih2 _ _ _ _ _ h K q) (by kernel_rfl)
  · intro v5 x1 x0 ds us h K q
    rw [R43_2] at h
    by_cases b0 : (decide (v5 < (↑(List.length x0) : Int))) = true
    · rw [if_pos b0] at h
      obtain ⟨s0, s1, h⟩ := h
      obtain ⟨s2, h⟩ := h
      obtain ⟨s3, s4, h⟩ := h
      obtain ⟨s5, h⟩ := h
      obtain ⟨s6, s7, h⟩ := h
      obtain ⟨s8, h⟩ := h
      obtain ⟨s9, s10, h⟩ := h
      obtain ⟨s11, h⟩ := h
      obtain ⟨s12, h⟩ := h
      exact AtV.go tabOk ext43Ok mixed false [] [] [0, 1, 5] [0] [true] (a1 b0 (a1 s0 (a1 s1 (a1 s2 (a1 s3 (a1 s4 (a1 s5 (a1 trivial (a1 s6 (a1 s7 (a1 s8 (a1 s9 (a1 s10 (a1 s11 (a1 s12 trivial))))))))))))))) (ih2 _ _ _ _ _ h K q) (by kernel_rfl)
    · rw [if_neg b0] at h
      replace b0 := Bool.eq_false_iff.2 b0
      obtain ⟨h, h'⟩ := h; subst h; subst h'
      exact AtV.ret Tryz.func43 tabOk ext43Ok mixed false [] tys43 [false] (a1 b0 trivial) (by kernel_rfl)
def M43 (x1 : Int) (n : Nat) : List TyB2 := (List.range n).map fun (j : Nat) => ((x1 + 4 * (j : Int)), (x1 + 4 * (j : Int) + 1), g44_0 (x1 + 4 * (j : Int) + 1 + 1), (x1 + 4 * (j : Int) + 1 + 1 + 1), ())
theorem M43_len (x1 : Int) (n : Nat) : (M43 x1 n).length = n := by simp [M43]
theorem M43_succ (x1 : Int) (n : Nat) : M43 x1 (n + 1) = M43 x1 n ++ [((x1 + 4 * (n : Int)), (x1 + 4 * (n : Int) + 1), g44_0 (x1 + 4 * (n : Int) + 1 + 1), (x1 + 4 * (n : Int) + 1 + 1 + 1), ())] := by
  simp [M43, List.range_succ]
theorem run43 (x0 : List TyB2) (x1 : Int) (hm : x0.length ≤ maxLen) (h0 : 0 ≤ x1) (h1 : x1 + 4 * x0.length ≤ 9223372036854775807) : ∀ (k i : Nat), i + k = x0.length →
    R43_2 (k + 1) (i : Int) (x1 + 4 * (i : Int)) (M43 x1 i ++ x0.drop i) [⟨.int .i64, x1 + 4 * (x0.length : Int)⟩] [some ⟨(.cons (.int .i64) (.cons (.int .i64) (.cons .str (.cons (.int .i64) .unit)))), M43 x1 x0.length⟩] := by
  intro k
  induction k with
  | zero =>
    intro i hi
    have hl : (M43 x1 i ++ x0.drop i).length = x0.length := by simp [M43_len]; omega
    rw [R43_2, if_neg (by rw [hl]; simp; omega), drop_end x0 i (by omega), List.append_nil]
    have : i = x0.length := by omega
    subst this
    exact ⟨rfl, rfl⟩
  | succ k ih =>
    intro i hi
    have hl : (M43 x1 i ++ x0.drop i).length = x0.length := by simp [M43_len]; omega
    have hA := M43_len x1 i
    rw [R43_2, if_pos (by rw [hl]; simp; omega)]
    rw [drop_get x0 i ((0 : Int), (0 : Int), ByteArray.empty, (0 : Int), ()) (by omega)] at hl ⊢
    simp only [Int.toNat_natCast, q43_0, q43_1, q43_2, set_mid _ _ _ _ i hA, get_mid _ _ _ _ i hA]
    have hl' : ∀ y : TyB2, ((M43 x1 i ++ y :: x0.drop (i + 1)).length : Int) = x0.length := fun y => by rw [← hl]; simp
    simp only [hl']
    refine ⟨by omega, by omega, by rw [i64_iff]; omega, by omega, by omega, by rw [i64_iff]; omega, by omega, by omega, by rw [i64_iff]; omega, by omega, by omega, by rw [i64_iff]; omega, inR_up hm (by omega), ?_⟩
    have hx : x1 + 4 * (i : Int) + 1 + 1 + 1 + 1 = x1 + 4 * ((i + 1 : Nat) : Int) := by omega
    have := ih (i + 1) (by omega)
    rw [M43_succ, List.append_assoc] at this
    rw [hx]
    simpa using this
def P43 (x0 : List TyB2) (x1 : Int) : Prop := 0 ≤ x1 ∧ x1 + 4 * x0.length ≤ 9223372036854775807
def g43_0 (x0 : List TyB2) (x1 : Int) : Int := x1 + 4 * (x0.length : Int)
def u43_0 (x0 : List TyB2) (x1 : Int) : List TyB2 := M43 x1 x0.length
theorem top43 (x0 : List TyB2) (x1 : Int) (hm : x0.length ≤ maxLen) (h : P43 x0 x1) : R43 (x0.length + 1 + 1) x0 x1 [⟨.int .i64, g43_0 x0 x1⟩] [some ⟨(.cons (.int .i64) (.cons (.int .i64) (.cons .str (.cons (.int .i64) .unit)))), u43_0 x0 x1⟩] := by
  rw [R43]
  have := run43 x0 x1 hm h.1 h.2 x0.length 0 (by omega)
  simpa [M43, g43_0, u43_0] using this
def S43 : Am.Spec := { sig := sig43, pre := fun ⟨x0, x1, _⟩ => P43 x0 x1, upd := fun ⟨x0, x1, _⟩ => [some ⟨(.cons (.int .i64) (.cons (.int .i64) (.cons .str (.cons (.int .i64) .unit)))), u43_0 x0 x1⟩], res := fun ⟨x0, x1, _⟩ => [⟨.int .i64, g43_0 x0 x1⟩] }
theorem con43 : Contract Tryz.prog 43 S43 := contract_of Tryz.func43 hb43 (Nat.le_of_ble_eq_true (by kernel_rfl)) (fun ⟨x0, x1, _⟩ h hwf K q =>
  (snd43 _).1 x0 x1 _ _ (top43 x0 x1 hwf.1.1 h) K q)
end
noncomputable section
def ext10 : Ext := [(39, S39), (40, S40), (41, S41), (42, S42), (43, S43)]
theorem ext10Ok : ExtOk Tryz.prog ext10 := ⟨⟨ca39, con39⟩, ⟨ca40, con40⟩, ⟨ca41, con41⟩, ⟨ca42, con42⟩, ⟨ca43, con43⟩, trivial⟩
noncomputable def b10 : Code := bodyOf Tryz.f10
theorem hb10 : Tryz.f10.body = some b10 := by kernel_rfl
def sig10 : List AT := [AT.sv YA0, AT.v (Ty.int .i64)]
def tys10 : List Ty := [Ty.int .i64]
def kds10 : List RK := []
def oks10 : List AT := owns sig10
def P10 (x0 : TyA0) (x1 : Int) : Prop := ((P39 (x0.1.1, x0.1.2.1, x0.1.2.2.1, ()) x1) ∧ (List.length (u39_0 (x0.1.1, x0.1.2.1, x0.1.2.2.1, ()) x1).1 = List.length x0.1.1) ∧ ((P40 x0.2.2.2.2.1 (g39_0 (x0.1.1, x0.1.2.1, x0.1.2.2.1, ()) x1)) ∧ (List.length (u40_0 x0.2.2.2.2.1 (g39_0 (x0.1.1, x0.1.2.1, x0.1.2.2.1, ()) x1)) = List.length x0.2.2.2.2.1) ∧ ((P41 x0.2.2.2.2.2.2.1 (g40_0 x0.2.2.2.2.1 (g39_0 (x0.1.1, x0.1.2.1, x0.1.2.2.1, ()) x1))) ∧ (List.length (u41_0 x0.2.2.2.2.2.2.1 (g40_0 x0.2.2.2.2.1 (g39_0 (x0.1.1, x0.1.2.1, x0.1.2.2.1, ()) x1))) = List.length x0.2.2.2.2.2.2.1) ∧ ((P42 x0.2.2.2.2.2.2.2.2.2.1 (g41_0 x0.2.2.2.2.2.2.1 (g40_0 x0.2.2.2.2.1 (g39_0 (x0.1.1, x0.1.2.1, x0.1.2.2.1, ()) x1)))) ∧ (List.length (u42_0 x0.2.2.2.2.2.2.2.2.2.1 (g41_0 x0.2.2.2.2.2.2.1 (g40_0 x0.2.2.2.2.1 (g39_0 (x0.1.1, x0.1.2.1, x0.1.2.2.1, ()) x1)))) = List.length x0.2.2.2.2.2.2.2.2.2.1) ∧ ((P43 x0.2.2.2.2.2.2.2.2.2.2.2.1 (g42_0 x0.2.2.2.2.2.2.2.2.2.1 (g41_0 x0.2.2.2.2.2.2.1 (g40_0 x0.2.2.2.2.1 (g39_0 (x0.1.1, x0.1.2.1, x0.1.2.2.1, ()) x1))))) ∧ (List.length (u43_0 x0.2.2.2.2.2.2.2.2.2.2.2.1 (g42_0 x0.2.2.2.2.2.2.2.2.2.1 (g41_0 x0.2.2.2.2.2.2.1 (g40_0 x0.2.2.2.2.1 (g39_0 (x0.1.1, x0.1.2.1, x0.1.2.2.1, ()) x1))))) = List.length x0.2.2.2.2.2.2.2.2.2.2.2.1) ∧ True)))))
def g10_0 (x0 : TyA0) (x1 : Int) : Int := g43_0 x0.2.2.2.2.2.2.2.2.2.2.2.1 (g42_0 x0.2.2.2.2.2.2.2.2.2.1 (g41_0 x0.2.2.2.2.2.2.1 (g40_0 x0.2.2.2.2.1 (g39_0 (x0.1.1, x0.1.2.1, x0.1.2.2.1, ()) x1))))
def u10_0 (x0 : TyA0) (x1 : Int) : TyA0 := (((u39_0 (x0.1.1, x0.1.2.1, x0.1.2.2.1, ()) x1).1, x0.1.2.1, x0.1.2.2.1, ()), x0.2.1, (x0.2.2.1.1, x0.2.2.1.2.1, ()), (x0.2.2.2.1.1, x0.2.2.2.1.2.1, x0.2.2.2.1.2.2.1, x0.2.2.2.1.2.2.2.1, ()), u40_0 x0.2.2.2.2.1 (g39_0 (x0.1.1, x0.1.2.1, x0.1.2.2.1, ()) x1), (x0.2.2.2.2.2.1.1, x0.2.2.2.2.2.1.2.1, x0.2.2.2.2.2.1.2.2.1, ()), u41_0 x0.2.2.2.2.2.2.1 (g40_0 x0.2.2.2.2.1 (g39_0 (x0.1.1, x0.1.2.1, x0.1.2.2.1, ()) x1)), x0.2.2.2.2.2.2.2.1, x0.2.2.2.2.2.2.2.2.1, u42_0 x0.2.2.2.2.2.2.2.2.2.1 (g41_0 x0.2.2.2.2.2.2.1 (g40_0 x0.2.2.2.2.1 (g39_0 (x0.1.1, x0.1.2.1, x0.1.2.2.1, ()) x1))), x0.2.2.2.2.2.2.2.2.2.2.1, u43_0 x0.2.2.2.2.2.2.2.2.2.2.2.1 (g42_0 x0.2.2.2.2.2.2.2.2.2.1 (g41_0 x0.2.2.2.2.2.2.1 (g40_0 x0.2.2.2.2.1 (g39_0 (x0.1.1, x0.1.2.1, x0.1.2.2.1, ()) x1)))), ())
theorem at10 (x0 : TyA0) (x1 : Int) (h : P10 x0 x1) (K : Ctx) (q : Nat → Value) : AtV Tryz.prog 10 (PostR kds10 oks10 [⟨Ty.int .i64, g10_0 x0 x1⟩] [some ⟨Ty.cons YA2 YA1, [u10_0 x0 x1]⟩] [0] q K) 26 K q [0] [.code b10] (entE 0 0 sig10 (x0, x1, ())) (entL sig10 (x0, x1, ())) := by
  unfold P10 at h
  unfold g10_0 u10_0
  obtain ⟨s0, s1, h⟩ := h
  obtain ⟨s2, s3, h⟩ := h
  obtain ⟨s4, s5, h⟩ := h
  obtain ⟨s6, s7, h⟩ := h
  obtain ⟨s8, s9, h⟩ := h
  exact AtV.weak (AtV.ret (us := [Option.some (Lst.mk YA0 [(((u39_0 (x0.1.1, x0.1.2.1, x0.1.2.2.1, ()) x1).1, x0.1.2.1, x0.1.2.2.1, ()), x0.2.1, (x0.2.2.1.1, x0.2.2.1.2.1, ()), (x0.2.2.2.1.1, x0.2.2.2.1.2.1, x0.2.2.2.1.2.2.1, x0.2.2.2.1.2.2.2.1, ()), u40_0 x0.2.2.2.2.1 (g39_0 (x0.1.1, x0.1.2.1, x0.1.2.2.1, ()) x1), (x0.2.2.2.2.2.1.1, x0.2.2.2.2.2.1.2.1, x0.2.2.2.2.2.1.2.2.1, ()), u41_0 x0.2.2.2.2.2.2.1 (g40_0 x0.2.2.2.2.1 (g39_0 (x0.1.1, x0.1.2.1, x0.1.2.2.1, ()) x1)), x0.2.2.2.2.2.2.2.1, x0.2.2.2.2.2.2.2.2.1, u42_0 x0.2.2.2.2.2.2.2.2.2.1 (g41_0 x0.2.2.2.2.2.2.1 (g40_0 x0.2.2.2.2.1 (g39_0 (x0.1.1, x0.1.2.1, x0.1.2.2.1, ()) x1))), x0.2.2.2.2.2.2.2.2.2.2.1, u43_0 x0.2.2.2.2.2.2.2.2.2.2.2.1 (g42_0 x0.2.2.2.2.2.2.2.2.2.1 (g41_0 x0.2.2.2.2.2.2.1 (g40_0 x0.2.2.2.2.1 (g39_0 (x0.1.1, x0.1.2.1, x0.1.2.2.1, ()) x1)))), ())])]) Tryz.func10 tabOk ext10Ok mixed false [] tys10 [] (a1 s0 (a1 s1 (a1 s2 (a1 s3 (a1 s4 (a1 s5 (a1 s6 (a1 s7 (a1 s8 (a1 s9 trivial)))))))))) (by kernel_rfl)) ⟨.inl rfl, trivial⟩
def S10 : Am.Spec := { sig := sig10, pre := fun ⟨x0, x1, _⟩ => P10 x0 x1, upd := fun ⟨x0, x1, _⟩ => [some ⟨Ty.cons YA2 YA1, [u10_0 x0 x1]⟩], res := fun ⟨x0, x1, _⟩ => [⟨Ty.int .i64, g10_0 x0 x1⟩], kds := kds10 }
theorem con10 : Contract Tryz.prog 10 S10 := contract_of Tryz.func10 hb10 (Nat.le_of_ble_eq_true (by kernel_rfl)) (fun ⟨x0, x1, _⟩ h _ K q => at10 x0 x1 h K q)
end
noncomputable section
def ext11 : Ext := [(44, S44)]
theorem ext11Ok : ExtOk Tryz.prog ext11 := ⟨⟨ca44, con44⟩, trivial⟩
noncomputable def b11 : Code := bodyOf Tryz.f11
theorem hb11 : Tryz.f11.body = some b11 := by kernel_rfl
def sig11 : List AT := [AT.own YA8, AT.v (Ty.int .i64)]
def tys11 : List Ty := [Ty.int .i64]
def kds11 : List RK := []
def oks11 : List AT := owns sig11
def E11_2 (v5 : Int) (x1 : Int) (x0 : List TyB3) : Env := [(0, PV.a (Atom.osl 0 Option.none)), (1, PV.a (Atom.val (Value.int .i64 x1))), (5, PV.a (Atom.val (Value.int .i64 v5)))]
def L11_2 (v5 : Int) (x1 : Int) (x0 : List TyB3) : Heap := [Option.some (Arr.mk YA8 x0 false Option.none Option.none)]
mutual
def R11 : Nat → List TyB3 → Int → List Dyn → List (Option Lst) → Prop
  | 0, _, _, _, _ => False
  | n + 1, x0, x1, ds, us => (R11_2 n (0) (x1) (x0) ds us)
def R11_2 : Nat → Int → Int → List TyB3 → List Dyn → List (Option Lst) → Prop
  | 0, _, _, _, _, _ => False
  | n + 1, v5, x1, x0, ds, us => (if (decide (v5 < (↑(List.length x0) : Int))) = true then ((0 ≤ v5) ∧ (v5 < (↑(List.length x0) : Int)) ∧ ((InR .i64 (x1 + 1)) ∧ ((0 ≤ v5) ∧ (v5 < (↑(List.length (List.set x0 (Int.toNat v5) (x1, (List.getD x0 (Int.toNat v5) (0, ByteArray.empty, ByteArray.empty, ())).2))) : Int)) ∧ ((InR .i64 (x1 + 1 + 1)) ∧ ((0 ≤ v5) ∧ (v5 < (↑(List.length (List.set (List.set x0 (Int.toNat v5) (x1, (List.getD x0 (Int.toNat v5) (0, ByteArray.empty, ByteArray.empty, ())).2)) (Int.toNat v5) ((List.getD (List.set x0 (Int.toNat v5) (x1, (List.getD x0 (Int.toNat v5) (0, ByteArray.empty, ByteArray.empty, ())).2)) (Int.toNat v5) (0, ByteArray.empty, ByteArray.empty, ())).1, g44_0 (x1 + 1), (List.getD (List.set x0 (Int.toNat v5) (x1, (List.getD x0 (Int.toNat v5) (0, ByteArray.empty, ByteArray.empty, ())).2)) (Int.toNat v5) (0, ByteArray.empty, ByteArray.empty, ())).2.2))) : Int)) ∧ ((InR .i64 (x1 + 1 + 1 + 1)) ∧ ((InR .i64 (v5 + 1)) ∧ (R11_2 n (v5 + 1) (x1 + 1 + 1 + 1) (List.set (List.set (List.set x0 (Int.toNat v5) (x1, (List.getD x0 (Int.toNat v5) (0, ByteArray.empty, ByteArray.empty, ())).2)) (Int.toNat v5) ((List.getD (List.set x0 (Int.toNat v5) (x1, (List.getD x0 (Int.toNat v5) (0, ByteArray.empty, ByteArray.empty, ())).2)) (Int.toNat v5) (0, ByteArray.empty, ByteArray.empty, ())).1, g44_0 (x1 + 1), (List.getD (List.set x0 (Int.toNat v5) (x1, (List.getD x0 (Int.toNat v5) (0, ByteArray.empty, ByteArray.empty, ())).2)) (Int.toNat v5) (0, ByteArray.empty, ByteArray.empty, ())).2.2)) (Int.toNat v5) ((List.getD (List.set (List.set x0 (Int.toNat v5) (x1, (List.getD x0 (Int.toNat v5) (0, ByteArray.empty, ByteArray.empty, ())).2)) (Int.toNat v5) ((List.getD (List.set x0 (Int.toNat v5) (x1, (List.getD x0 (Int.toNat v5) (0, ByteArray.empty, ByteArray.empty, ())).2)) (Int.toNat v5) (0, ByteArray.empty, ByteArray.empty, ())).1, g44_0 (x1 + 1), (List.getD (List.set x0 (Int.toNat v5) (x1, (List.getD x0 (Int.toNat v5) (0, ByteArray.empty, ByteArray.empty, ())).2)) (Int.toNat v5) (0, ByteArray.empty, ByteArray.empty, ())).2.2)) (Int.toNat v5) (0, ByteArray.empty, ByteArray.empty, ())).1, (List.getD (List.set (List.set x0 (Int.toNat v5) (x1, (List.getD x0 (Int.toNat v5) (0, ByteArray.empty, ByteArray.empty, ())).2)) (Int.toNat v5) ((List.getD (List.set x0 (Int.toNat v5) (x1, (List.getD x0 (Int.toNat v5) (0, ByteArray.empty, ByteArray.empty, ())).2)) (Int.toNat v5) (0, ByteArray.empty, ByteArray.empty, ())).1, g44_0 (x1 + 1), (List.getD (List.set x0 (Int.toNat v5) (x1, (List.getD x0 (Int.toNat v5) (0, ByteArray.empty, ByteArray.empty, ())).2)) (Int.toNat v5) (0, ByteArray.empty, ByteArray.empty, ())).2.2)) (Int.toNat v5) (0, ByteArray.empty, ByteArray.empty, ())).2.1, g44_0 (x1 + 1 + 1), (List.getD (List.set (List.set x0 (Int.toNat v5) (x1, (List.getD x0 (Int.toNat v5) (0, ByteArray.empty, ByteArray.empty, ())).2)) (Int.toNat v5) ((List.getD (List.set x0 (Int.toNat v5) (x1, (List.getD x0 (Int.toNat v5) (0, ByteArray.empty, ByteArray.empty, ())).2)) (Int.toNat v5) (0, ByteArray.empty, ByteArray.empty, ())).1, g44_0 (x1 + 1), (List.getD (List.set x0 (Int.toNat v5) (x1, (List.getD x0 (Int.toNat v5) (0, ByteArray.empty, ByteArray.empty, ())).2)) (Int.toNat v5) (0, ByteArray.empty, ByteArray.empty, ())).2.2)) (Int.toNat v5) (0, ByteArray.empty, ByteArray.empty, ())).2.2.2)) ds us)))))))) else (ds = [Dyn.mk (Ty.int .i64) x1] ∧ us = [Option.some (Lst.mk YA8 x0)]))
end
theorem snd11 : ∀ n, (∀ (x0 : List TyB3) (x1 : Int) ds us, R11 n x0 x1 ds us → ∀ K q, AtV Tryz.prog 11 (PostR kds11 oks11 ds us [0] q K) 36 K q [0] [.code b11] (entE 0 0 sig11 (x0, x1, ())) (entL sig11 (x0, x1, ()))) ∧ (∀ (v5 : Int) (x1 : Int) (x0 : List TyB3) ds us, R11_2 n v5 x1 x0 ds us → ∀ K q, AtV Tryz.prog 11 (PostR kds11 oks11 ds us [0] q K) 36 K q [0] (cutAt b11 2) (E11_2 v5 x1 x0) (L11_2 v5 x1 x0)) := by
  intro n
  induction n with
  | zero => exact ⟨fun _ _ _ _ h => by simp only [R11] at h, fun _ _ _ _ _ h => by simp only [R11_2] at h⟩
  | succ n ih =>
  obtain ⟨ih, ih2⟩ := ih
  refine ⟨?_, ?_⟩
  · intro x0 x1 ds us h K q
    rw [R11] at h
    exact AtV.go tabOk ext11Ok mixed false [] [] [0, 1, 5] [0] [] trivial (ih2 _ _ _ _ _ h K q) (by kernel_rfl)
  · intro v5 x1 x0 ds us h K q
    rw [R11_2] at h
    by_cases b0 : (decide (v5 < (↑(List.length x0) : Int))) = true
    · rw [if_pos b0] at h
      obtain ⟨s0, s1, h⟩ := h
      obtain ⟨s2, h⟩ := h
      obtain ⟨s3, s4, h⟩ := h
      obtain ⟨s5, h⟩ := h
      obtain ⟨s6, s7, h⟩ := h
      obtain ⟨s8, h⟩ := h
      obtain ⟨s9, h⟩ := h
      exact AtV.go tabOk ext11Ok mixed false [] [] [0, 1, 5] [0] [true] (a1 b0 (a1 s0 (a1 s1 (a1 s2 (a1 trivial (a1 s3 (a1 s4 (a1 s5 (a1 trivial (a1 s6 (a1 s7 (a1 s8 (a1 s9 trivial))))))))))))) (ih2 _ _ _ _ _ h K q) (by kernel_rfl)
    · rw [if_neg b0] at h
      replace b0 := Bool.eq_false_iff.2 b0
      obtain ⟨h, h'⟩ := h; subst h; subst h'
      exact AtV.ret Tryz.func11 tabOk ext11Ok mixed false [] tys11 [false] (a1 b0 trivial) (by kernel_rfl)
def M11 (x1 : Int) (n : Nat) : List TyB3 := (List.range n).map fun (j : Nat) => ((x1 + 3 * (j : Int)), g44_0 (x1 + 3 * (j : Int) + 1), g44_0 (x1 + 3 * (j : Int) + 1 + 1), ())
theorem M11_len (x1 : Int) (n : Nat) : (M11 x1 n).length = n := by simp [M11]
theorem M11_succ (x1 : Int) (n : Nat) : M11 x1 (n + 1) = M11 x1 n ++ [((x1 + 3 * (n : Int)), g44_0 (x1 + 3 * (n : Int) + 1), g44_0 (x1 + 3 * (n : Int) + 1 + 1), ())] := by
  simp [M11, List.range_succ]
theorem run11 (x0 : List TyB3) (x1 : Int) (hm : x0.length ≤ maxLen) (h0 : 0 ≤ x1) (h1 : x1 + 3 * x0.length ≤ 9223372036854775807) : ∀ (k i : Nat), i + k = x0.length →
    R11_2 (k + 1) (i : Int) (x1 + 3 * (i : Int)) (M11 x1 i ++ x0.drop i) [⟨.int .i64, x1 + 3 * (x0.length : Int)⟩] [some ⟨(.cons (.int .i64) (.cons .str (.cons .str .unit))), M11 x1 x0.length⟩] := by
  intro k
  induction k with
  | zero =>
    intro i hi
    have hl : (M11 x1 i ++ x0.drop i).length = x0.length := by simp [M11_len]; omega
    rw [R11_2, if_neg (by rw [hl]; simp; omega), drop_end x0 i (by omega), List.append_nil]
    have : i = x0.length := by omega
    subst this
    exact ⟨rfl, rfl⟩
  | succ k ih =>
    intro i hi
    have hl : (M11 x1 i ++ x0.drop i).length = x0.length := by simp [M11_len]; omega
    have hA := M11_len x1 i
    rw [R11_2, if_pos (by rw [hl]; simp; omega)]
    rw [drop_get x0 i ((0 : Int), ByteArray.empty, ByteArray.empty, ()) (by omega)] at hl ⊢
    simp only [Int.toNat_natCast, set_mid _ _ _ _ i hA, get_mid _ _ _ _ i hA]
    have hl' : ∀ y : TyB3, ((M11 x1 i ++ y :: x0.drop (i + 1)).length : Int) = x0.length := fun y => by rw [← hl]; simp
    simp only [hl']
    refine ⟨by omega, by omega, by rw [i64_iff]; omega, by omega, by omega, by rw [i64_iff]; omega, by omega, by omega, by rw [i64_iff]; omega, inR_up hm (by omega), ?_⟩
    have hx : x1 + 3 * (i : Int) + 1 + 1 + 1 = x1 + 3 * ((i + 1 : Nat) : Int) := by omega
    have := ih (i + 1) (by omega)
    rw [M11_succ, List.append_assoc] at this
    rw [hx]
    simpa using this
def P11 (x0 : List TyB3) (x1 : Int) : Prop := 0 ≤ x1 ∧ x1 + 3 * x0.length ≤ 9223372036854775807
def g11_0 (x0 : List TyB3) (x1 : Int) : Int := x1 + 3 * (x0.length : Int)
def u11_0 (x0 : List TyB3) (x1 : Int) : List TyB3 := M11 x1 x0.length
theorem top11 (x0 : List TyB3) (x1 : Int) (hm : x0.length ≤ maxLen) (h : P11 x0 x1) : R11 (x0.length + 1 + 1) x0 x1 [⟨.int .i64, g11_0 x0 x1⟩] [some ⟨(.cons (.int .i64) (.cons .str (.cons .str .unit))), u11_0 x0 x1⟩] := by
  rw [R11]
  have := run11 x0 x1 hm h.1 h.2 x0.length 0 (by omega)
  simpa [M11, g11_0, u11_0] using this
def S11 : Am.Spec := { sig := sig11, pre := fun ⟨x0, x1, _⟩ => P11 x0 x1, upd := fun ⟨x0, x1, _⟩ => [some ⟨(.cons (.int .i64) (.cons .str (.cons .str .unit))), u11_0 x0 x1⟩], res := fun ⟨x0, x1, _⟩ => [⟨.int .i64, g11_0 x0 x1⟩] }
theorem con11 : Contract Tryz.prog 11 S11 := contract_of Tryz.func11 hb11 (Nat.le_of_ble_eq_true (by kernel_rfl)) (fun ⟨x0, x1, _⟩ h hwf K q =>
  (snd11 _).1 x0 x1 _ _ (top11 x0 x1 hwf.1.1 h) K q)
end
noncomputable section
def ext12 : Ext := [(44, S44)]
theorem ext12Ok : ExtOk Tryz.prog ext12 := ⟨⟨ca44, con44⟩, trivial⟩
noncomputable def b12 : Code := bodyOf Tryz.f12
theorem hb12 : Tryz.f12.body = some b12 := by kernel_rfl
def sig12 : List AT := [AT.v (Ty.sl YA8), AT.v (Ty.int .i64)]
def tys12 : List Ty := [Ty.int .i64]
def kds12 : List RK := []
def oks12 : List AT := owns sig12
def E12_2 (v5 : Int) (x0 : List TyB3) (x1 : Int) : Env := [(0, PV.a (Atom.sl YA8 x0)), (1, PV.a (Atom.val (Value.int .i64 x1))), (5, PV.a (Atom.val (Value.int .i64 v5)))]
def L12_2 (v5 : Int) (x0 : List TyB3) (x1 : Int) : Heap := []
mutual
def R12 : Nat → List TyB3 → Int → List Dyn → Prop
  | 0, _, _, _ => False
  | n + 1, x0, x1, ds => (R12_2 n (0) (x0) (x1) ds)
def R12_2 : Nat → Int → List TyB3 → Int → List Dyn → Prop
  | 0, _, _, _, _ => False
  | n + 1, v5, x0, x1, ds => (if (decide (v5 < (↑(List.length x0) : Int))) = true then ((0 ≤ v5) ∧ (v5 < (↑(List.length x0) : Int)) ∧ (if ((List.getD x0 (Int.toNat v5) (0, ByteArray.empty, ByteArray.empty, ())).1 != x1) = true then (ds = [Dyn.mk (Ty.int .i64) (-1)]) else ((InR .i64 (x1 + 1)) ∧ ((0 ≤ v5) ∧ (v5 < (↑(List.length x0) : Int)) ∧ (if (!ByteArray.toList (List.getD x0 (Int.toNat v5) (0, ByteArray.empty, ByteArray.empty, ())).2.1 == ByteArray.toList (g44_0 (x1 + 1))) = true then (ds = [Dyn.mk (Ty.int .i64) (-1)]) else ((InR .i64 (x1 + 1 + 1)) ∧ ((0 ≤ v5) ∧ (v5 < (↑(List.length x0) : Int)) ∧ (if (!ByteArray.toList (List.getD x0 (Int.toNat v5) (0, ByteArray.empty, ByteArray.empty, ())).2.2.1 == ByteArray.toList (g44_0 (x1 + 1 + 1))) = true then (ds = [Dyn.mk (Ty.int .i64) (-1)]) else ((InR .i64 (x1 + 1 + 1 + 1)) ∧ ((InR .i64 (v5 + 1)) ∧ (R12_2 n (v5 + 1) (x0) (x1 + 1 + 1 + 1) ds))))))))))) else (ds = [Dyn.mk (Ty.int .i64) x1]))
end
theorem snd12 : ∀ n, (∀ (x0 : List TyB3) (x1 : Int) ds, R12 n x0 x1 ds → ∀ K q, AtV Tryz.prog 12 (PostR kds12 oks12 ds [] [] q K) 42 K q [] [.code b12] (entE 0 0 sig12 (x0, x1, ())) (entL sig12 (x0, x1, ()))) ∧ (∀ (v5 : Int) (x0 : List TyB3) (x1 : Int) ds, R12_2 n v5 x0 x1 ds → ∀ K q, AtV Tryz.prog 12 (PostR kds12 oks12 ds [] [] q K) 42 K q [] (cutAt b12 2) (E12_2 v5 x0 x1) (L12_2 v5 x0 x1)) := by
  intro n
  induction n with
  | zero => exact ⟨fun _ _ _ h => by simp only [R12] at h, fun _ _ _ _ h => by simp only [R12_2] at h⟩
  | succ n ih =>
  obtain ⟨ih, ih2⟩ := ih
  refine ⟨?_, ?_⟩
  · intro x0 x1 ds h K q
    rw [R12] at h
    exact AtV.go tabOk ext12Ok mixed false [] [] [0, 1, 5] [] [] trivial (ih2 _ _ _ _ h K q) (by kernel_rfl)
  · intro v5 x0 x1 ds h K q
    rw [R12_2] at h
    by_cases b0 : (decide (v5 < (↑(List.length x0) : Int))) = true
    · rw [if_pos b0] at h
      obtain ⟨s0, s1, h⟩ := h
      by_cases b1 : ((List.getD x0 (Int.toNat v5) (0, ByteArray.empty, ByteArray.empty, ())).1 != x1) = true
      · rw [if_pos b1] at h
        subst h
        exact AtV.ret Tryz.func12 tabOk ext12Ok mixed false [] tys12 [true, true] (a1 b0 (a1 s0 (a1 s1 (a1 b1 trivial)))) (by kernel_rfl)
      · rw [if_neg b1] at h
        replace b1 := Bool.eq_false_iff.2 b1
        obtain ⟨s2, h⟩ := h
        obtain ⟨s3, s4, h⟩ := h
        by_cases b2 : (!ByteArray.toList (List.getD x0 (Int.toNat v5) (0, ByteArray.empty, ByteArray.empty, ())).2.1 == ByteArray.toList (g44_0 (x1 + 1))) = true
        · rw [if_pos b2] at h
          subst h
          exact AtV.ret Tryz.func12 tabOk ext12Ok mixed false [] tys12 [true, false, true] (a1 b0 (a1 s0 (a1 s1 (a1 b1 (a1 s2 (a1 s3 (a1 s4 (a1 trivial (a1 b2 trivial))))))))) (by kernel_rfl)
        · rw [if_neg b2] at h
          replace b2 := Bool.eq_false_iff.2 b2
          obtain ⟨s5, h⟩ := h
          obtain ⟨s6, s7, h⟩ := h
          by_cases b3 : (!ByteArray.toList (List.getD x0 (Int.toNat v5) (0, ByteArray.empty, ByteArray.empty, ())).2.2.1 == ByteArray.toList (g44_0 (x1 + 1 + 1))) = true
          · rw [if_pos b3] at h
            subst h
            exact AtV.ret Tryz.func12 tabOk ext12Ok mixed false [] tys12 [true, false, false, true] (a1 b0 (a1 s0 (a1 s1 (a1 b1 (a1 s2 (a1 s3 (a1 s4 (a1 trivial (a1 b2 (a1 s5 (a1 s6 (a1 s7 (a1 trivial (a1 b3 trivial)))))))))))))) (by kernel_rfl)
          · rw [if_neg b3] at h
            replace b3 := Bool.eq_false_iff.2 b3
            obtain ⟨s8, h⟩ := h
            obtain ⟨s9, h⟩ := h
            exact AtV.go tabOk ext12Ok mixed false [] [] [0, 1, 5] [] [true, false, false, false] (a1 b0 (a1 s0 (a1 s1 (a1 b1 (a1 s2 (a1 s3 (a1 s4 (a1 trivial (a1 b2 (a1 s5 (a1 s6 (a1 s7 (a1 trivial (a1 b3 (a1 s8 (a1 s9 trivial)))))))))))))))) (ih2 _ _ _ _ h K q) (by kernel_rfl)
    · rw [if_neg b0] at h
      replace b0 := Bool.eq_false_iff.2 b0
      subst h
      exact AtV.ret Tryz.func12 tabOk ext12Ok mixed false [] tys12 [false] (a1 b0 trivial) (by kernel_rfl)
theorem run12 (x0 : List TyB3) (x1 : Int) (hm : x0.length ≤ maxLen) (h0 : 0 ≤ x1) (h1 : x1 + 3 * x0.length ≤ 9223372036854775807) (he : ∀ i : Nat, i < x0.length → x0.getD i ((0 : Int), ByteArray.empty, ByteArray.empty, ()) = ((x1 + 3 * (i : Int)), g44_0 (x1 + 3 * (i : Int) + 1), g44_0 (x1 + 3 * (i : Int) + 1 + 1), ())) : ∀ (k i : Nat), i + k = x0.length →
    R12_2 (k + 1) (i : Int) x0 (x1 + 3 * (i : Int)) [⟨.int .i64, x1 + 3 * (x0.length : Int)⟩] := by
  intro k
  induction k with
  | zero =>
    intro i hi
    rw [R12_2, if_neg (by simp; omega)]
    have : i = x0.length := by omega
    subst this
    rfl
  | succ k ih =>
    intro i hi
    rw [R12_2, if_pos (by simp; omega)]
    simp only [Int.toNat_natCast, he i (by omega)]
    have hb : ∀ y : ByteArray, (!(ByteArray.toList y == ByteArray.toList y)) = true → False := fun y h => by rw [(bytes_eq y y).2 rfl] at h; cases h
    refine ⟨by omega, by omega, ?_⟩
    rw [if_neg (by simp only [bne_self_eq_false, Bool.false_eq_true, not_false_eq_true])]
    refine ⟨by rw [i64_iff]; omega, by omega, by omega, ?_⟩
    rw [if_neg (hb _)]
    refine ⟨by rw [i64_iff]; omega, by omega, by omega, ?_⟩
    rw [if_neg (hb _)]
    refine ⟨by rw [i64_iff]; omega, inR_up hm (by omega), ?_⟩
    have hx : x1 + 3 * (i : Int) + 1 + 1 + 1 = x1 + 3 * ((i + 1 : Nat) : Int) := by omega
    rw [hx]
    exact ih (i + 1) (by omega)
def P12 (x0 : List TyB3) (x1 : Int) : Prop := (0 ≤ x1 ∧ x1 + 3 * x0.length ≤ 9223372036854775807) ∧ ∀ i : Nat, i < x0.length → x0.getD i ((0 : Int), ByteArray.empty, ByteArray.empty, ()) = ((x1 + 3 * (i : Int)), g44_0 (x1 + 3 * (i : Int) + 1), g44_0 (x1 + 3 * (i : Int) + 1 + 1), ())
def g12_0 (x0 : List TyB3) (x1 : Int) : Int := x1 + 3 * (x0.length : Int)
theorem top12 (x0 : List TyB3) (x1 : Int) (hm : x0.length ≤ maxLen) (h : P12 x0 x1) : R12 (x0.length + 1 + 1) x0 x1 [⟨.int .i64, g12_0 x0 x1⟩] := by
  rw [R12]
  have := run12 x0 x1 hm h.1.1 h.1.2 h.2 x0.length 0 (by omega)
  simpa [g12_0] using this
def S12 : Am.Spec := { sig := sig12, pre := fun ⟨x0, x1, _⟩ => P12 x0 x1, res := fun ⟨x0, x1, _⟩ => [⟨.int .i64, g12_0 x0 x1⟩] }
theorem con12 : Contract Tryz.prog 12 S12 := contract_of Tryz.func12 hb12 (Nat.le_of_ble_eq_true (by kernel_rfl)) (fun ⟨x0, x1, _⟩ h hwf K q =>
  (snd12 _).1 x0 x1 _ (top12 x0 x1 hwf.1.1 h) K q)
end
noncomputable section
def ext3 : Ext := [(4, S4), (6, S6), (5, S5), (7, S7), (8, S8), (9, S9), (10, S10), (11, S11), (12, S12)]
theorem ext3Ok : ExtOk Tryz.prog ext3 := ⟨⟨ca4, con4⟩, ⟨ca6, con6⟩, ⟨ca5, con5⟩, ⟨ca7, con7⟩, ⟨ca8, con8⟩, ⟨ca9, con9⟩, ⟨ca10, con10⟩, ⟨ca11, con11⟩, ⟨ca12, con12⟩, trivial⟩
noncomputable def b3 : Code := bodyOf Tryz.f3
theorem hb3 : Tryz.f3.body = some b3 := by kernel_rfl
def sig3 : List AT := [AT.v YA0]
def tys3 : List Ty := [Ty.bool]
def kds3 : List RK := []
def oks3 : List AT := owns sig3
def P3 (x0 : TyA0) : Prop := ((P4 x0 1048576) ∧ (if (decide (g4_0 x0 1048576 < 0)) = true then True else ((P6 x0) ∧ ((P5 (((g6_0 x0).1.1, (g6_0 x0).1.2.1, (g6_0 x0).1.2.2.1, ()), (g6_0 x0).2.1, ((g6_0 x0).2.2.1.1, (g6_0 x0).2.2.1.2.1, ()), ((g6_0 x0).2.2.2.1.1, (g6_0 x0).2.2.2.1.2.1, (g6_0 x0).2.2.2.1.2.2.1, (g6_0 x0).2.2.2.1.2.2.2.1, ()), (g6_0 x0).2.2.2.2.1, ((g6_0 x0).2.2.2.2.2.1.1, (g6_0 x0).2.2.2.2.2.1.2.1, (g6_0 x0).2.2.2.2.2.1.2.2.1, ()), (g6_0 x0).2.2.2.2.2.2.1, (g6_0 x0).2.2.2.2.2.2.2.1, (g6_0 x0).2.2.2.2.2.2.2.2.1, (g6_0 x0).2.2.2.2.2.2.2.2.2.1, (g6_0 x0).2.2.2.2.2.2.2.2.2.2.1, (g6_0 x0).2.2.2.2.2.2.2.2.2.2.2.1, ())) ∧ ((P6 x0) ∧ ((P7 (((g6_0 x0).1.1, (g6_0 x0).1.2.1, (g6_0 x0).1.2.2.1, ()), (g6_0 x0).2.1, ((g6_0 x0).2.2.1.1, (g6_0 x0).2.2.1.2.1, ()), ((g6_0 x0).2.2.2.1.1, (g6_0 x0).2.2.2.1.2.1, (g6_0 x0).2.2.2.1.2.2.1, (g6_0 x0).2.2.2.1.2.2.2.1, ()), (g6_0 x0).2.2.2.2.1, ((g6_0 x0).2.2.2.2.2.1.1, (g6_0 x0).2.2.2.2.2.1.2.1, (g6_0 x0).2.2.2.2.2.1.2.2.1, ()), (g6_0 x0).2.2.2.2.2.2.1, (g6_0 x0).2.2.2.2.2.2.2.1, (g6_0 x0).2.2.2.2.2.2.2.2.1, (g6_0 x0).2.2.2.2.2.2.2.2.2.1, (g6_0 x0).2.2.2.2.2.2.2.2.2.2.1, (g6_0 x0).2.2.2.2.2.2.2.2.2.2.2.1, ())) ∧ (if (!g8_0 (g7_0 (((g6_0 x0).1.1, (g6_0 x0).1.2.1, (g6_0 x0).1.2.2.1, ()), (g6_0 x0).2.1, ((g6_0 x0).2.2.1.1, (g6_0 x0).2.2.1.2.1, ()), ((g6_0 x0).2.2.2.1.1, (g6_0 x0).2.2.2.1.2.1, (g6_0 x0).2.2.2.1.2.2.1, (g6_0 x0).2.2.2.1.2.2.2.1, ()), (g6_0 x0).2.2.2.2.1, ((g6_0 x0).2.2.2.2.2.1.1, (g6_0 x0).2.2.2.2.2.1.2.1, (g6_0 x0).2.2.2.2.2.1.2.2.1, ()), (g6_0 x0).2.2.2.2.2.2.1, (g6_0 x0).2.2.2.2.2.2.2.1, (g6_0 x0).2.2.2.2.2.2.2.2.1, (g6_0 x0).2.2.2.2.2.2.2.2.2.1, (g6_0 x0).2.2.2.2.2.2.2.2.2.2.1, (g6_0 x0).2.2.2.2.2.2.2.2.2.2.2.1, ())) (g5_0 (((g6_0 x0).1.1, (g6_0 x0).1.2.1, (g6_0 x0).1.2.2.1, ()), (g6_0 x0).2.1, ((g6_0 x0).2.2.1.1, (g6_0 x0).2.2.1.2.1, ()), ((g6_0 x0).2.2.2.1.1, (g6_0 x0).2.2.2.1.2.1, (g6_0 x0).2.2.2.1.2.2.1, (g6_0 x0).2.2.2.1.2.2.2.1, ()), (g6_0 x0).2.2.2.2.1, ((g6_0 x0).2.2.2.2.2.1.1, (g6_0 x0).2.2.2.2.2.1.2.1, (g6_0 x0).2.2.2.2.2.1.2.2.1, ()), (g6_0 x0).2.2.2.2.2.2.1, (g6_0 x0).2.2.2.2.2.2.2.1, (g6_0 x0).2.2.2.2.2.2.2.2.1, (g6_0 x0).2.2.2.2.2.2.2.2.2.1, (g6_0 x0).2.2.2.2.2.2.2.2.2.2.1, (g6_0 x0).2.2.2.2.2.2.2.2.2.2.2.1, ()))) = true then True else (if (g7_1 (((g6_0 x0).1.1, (g6_0 x0).1.2.1, (g6_0 x0).1.2.2.1, ()), (g6_0 x0).2.1, ((g6_0 x0).2.2.1.1, (g6_0 x0).2.2.1.2.1, ()), ((g6_0 x0).2.2.2.1.1, (g6_0 x0).2.2.2.1.2.1, (g6_0 x0).2.2.2.1.2.2.1, (g6_0 x0).2.2.2.1.2.2.2.1, ()), (g6_0 x0).2.2.2.2.1, ((g6_0 x0).2.2.2.2.2.1.1, (g6_0 x0).2.2.2.2.2.1.2.1, (g6_0 x0).2.2.2.2.2.1.2.2.1, ()), (g6_0 x0).2.2.2.2.2.2.1, (g6_0 x0).2.2.2.2.2.2.2.1, (g6_0 x0).2.2.2.2.2.2.2.2.1, (g6_0 x0).2.2.2.2.2.2.2.2.2.1, (g6_0 x0).2.2.2.2.2.2.2.2.2.2.1, (g6_0 x0).2.2.2.2.2.2.2.2.2.2.2.1, ()) != g5_1 (((g6_0 x0).1.1, (g6_0 x0).1.2.1, (g6_0 x0).1.2.2.1, ()), (g6_0 x0).2.1, ((g6_0 x0).2.2.1.1, (g6_0 x0).2.2.1.2.1, ()), ((g6_0 x0).2.2.2.1.1, (g6_0 x0).2.2.2.1.2.1, (g6_0 x0).2.2.2.1.2.2.1, (g6_0 x0).2.2.2.1.2.2.2.1, ()), (g6_0 x0).2.2.2.2.1, ((g6_0 x0).2.2.2.2.2.1.1, (g6_0 x0).2.2.2.2.2.1.2.1, (g6_0 x0).2.2.2.2.2.1.2.2.1, ()), (g6_0 x0).2.2.2.2.2.2.1, (g6_0 x0).2.2.2.2.2.2.2.1, (g6_0 x0).2.2.2.2.2.2.2.2.1, (g6_0 x0).2.2.2.2.2.2.2.2.2.1, (g6_0 x0).2.2.2.2.2.2.2.2.2.2.1, (g6_0 x0).2.2.2.2.2.2.2.2.2.2.2.1, ())) = true then True else ((P6 x0) ∧ (if (!g9_0 (((g6_0 x0).1.1, (g6_0 x0).1.2.1, (g6_0 x0).1.2.2.1, ()), (g6_0 x0).2.1, ((g6_0 x0).2.2.1.1, (g6_0 x0).2.2.1.2.1, ()), ((g6_0 x0).2.2.2.1.1, (g6_0 x0).2.2.2.1.2.1, (g6_0 x0).2.2.2.1.2.2.1, (g6_0 x0).2.2.2.1.2.2.2.1, ()), (g6_0 x0).2.2.2.2.1, ((g6_0 x0).2.2.2.2.2.1.1, (g6_0 x0).2.2.2.2.2.1.2.1, (g6_0 x0).2.2.2.2.2.1.2.2.1, ()), (g6_0 x0).2.2.2.2.2.2.1, (g6_0 x0).2.2.2.2.2.2.2.1, (g6_0 x0).2.2.2.2.2.2.2.2.1, (g6_0 x0).2.2.2.2.2.2.2.2.2.1, (g6_0 x0).2.2.2.2.2.2.2.2.2.2.1, (g6_0 x0).2.2.2.2.2.2.2.2.2.2.2.1, ()) (((g6_0 x0).1.1, (g6_0 x0).1.2.1, (g6_0 x0).1.2.2.1, ()), (g6_0 x0).2.1, ((g6_0 x0).2.2.1.1, (g6_0 x0).2.2.1.2.1, ()), ((g6_0 x0).2.2.2.1.1, (g6_0 x0).2.2.2.1.2.1, (g6_0 x0).2.2.2.1.2.2.1, (g6_0 x0).2.2.2.1.2.2.2.1, ()), (g6_0 x0).2.2.2.2.1, ((g6_0 x0).2.2.2.2.2.1.1, (g6_0 x0).2.2.2.2.2.1.2.1, (g6_0 x0).2.2.2.2.2.1.2.2.1, ()), (g6_0 x0).2.2.2.2.2.2.1, (g6_0 x0).2.2.2.2.2.2.2.1, (g6_0 x0).2.2.2.2.2.2.2.2.1, (g6_0 x0).2.2.2.2.2.2.2.2.2.1, (g6_0 x0).2.2.2.2.2.2.2.2.2.2.1, (g6_0 x0).2.2.2.2.2.2.2.2.2.2.2.1, ())) = true then True else ((P10 (((g6_0 x0).1.1, (g6_0 x0).1.2.1, (g6_0 x0).1.2.2.1, ()), (g6_0 x0).2.1, ((g6_0 x0).2.2.1.1, (g6_0 x0).2.2.1.2.1, ()), ((g6_0 x0).2.2.2.1.1, (g6_0 x0).2.2.2.1.2.1, (g6_0 x0).2.2.2.1.2.2.1, (g6_0 x0).2.2.2.1.2.2.2.1, ()), (g6_0 x0).2.2.2.2.1, ((g6_0 x0).2.2.2.2.2.1.1, (g6_0 x0).2.2.2.2.2.1.2.1, (g6_0 x0).2.2.2.2.2.1.2.2.1, ()), (g6_0 x0).2.2.2.2.2.2.1, (g6_0 x0).2.2.2.2.2.2.2.1, (g6_0 x0).2.2.2.2.2.2.2.2.1, (g6_0 x0).2.2.2.2.2.2.2.2.2.1, (g6_0 x0).2.2.2.2.2.2.2.2.2.2.1, (g6_0 x0).2.2.2.2.2.2.2.2.2.2.2.1, ()) 1) ∧ (List.length (u10_0 (((g6_0 x0).1.1, (g6_0 x0).1.2.1, (g6_0 x0).1.2.2.1, ()), (g6_0 x0).2.1, ((g6_0 x0).2.2.1.1, (g6_0 x0).2.2.1.2.1, ()), ((g6_0 x0).2.2.2.1.1, (g6_0 x0).2.2.2.1.2.1, (g6_0 x0).2.2.2.1.2.2.1, (g6_0 x0).2.2.2.1.2.2.2.1, ()), (g6_0 x0).2.2.2.2.1, ((g6_0 x0).2.2.2.2.2.1.1, (g6_0 x0).2.2.2.2.2.1.2.1, (g6_0 x0).2.2.2.2.2.1.2.2.1, ()), (g6_0 x0).2.2.2.2.2.2.1, (g6_0 x0).2.2.2.2.2.2.2.1, (g6_0 x0).2.2.2.2.2.2.2.2.1, (g6_0 x0).2.2.2.2.2.2.2.2.2.1, (g6_0 x0).2.2.2.2.2.2.2.2.2.2.1, (g6_0 x0).2.2.2.2.2.2.2.2.2.2.2.1, ()) 1).1.1 = List.length (g6_0 x0).1.1) ∧ (List.length (u10_0 (((g6_0 x0).1.1, (g6_0 x0).1.2.1, (g6_0 x0).1.2.2.1, ()), (g6_0 x0).2.1, ((g6_0 x0).2.2.1.1, (g6_0 x0).2.2.1.2.1, ()), ((g6_0 x0).2.2.2.1.1, (g6_0 x0).2.2.2.1.2.1, (g6_0 x0).2.2.2.1.2.2.1, (g6_0 x0).2.2.2.1.2.2.2.1, ()), (g6_0 x0).2.2.2.2.1, ((g6_0 x0).2.2.2.2.2.1.1, (g6_0 x0).2.2.2.2.2.1.2.1, (g6_0 x0).2.2.2.2.2.1.2.2.1, ()), (g6_0 x0).2.2.2.2.2.2.1, (g6_0 x0).2.2.2.2.2.2.2.1, (g6_0 x0).2.2.2.2.2.2.2.2.1, (g6_0 x0).2.2.2.2.2.2.2.2.2.1, (g6_0 x0).2.2.2.2.2.2.2.2.2.2.1, (g6_0 x0).2.2.2.2.2.2.2.2.2.2.2.1, ()) 1).2.2.2.2.1 = List.length (g6_0 x0).2.2.2.2.1) ∧ (List.length (u10_0 (((g6_0 x0).1.1, (g6_0 x0).1.2.1, (g6_0 x0).1.2.2.1, ()), (g6_0 x0).2.1, ((g6_0 x0).2.2.1.1, (g6_0 x0).2.2.1.2.1, ()), ((g6_0 x0).2.2.2.1.1, (g6_0 x0).2.2.2.1.2.1, (g6_0 x0).2.2.2.1.2.2.1, (g6_0 x0).2.2.2.1.2.2.2.1, ()), (g6_0 x0).2.2.2.2.1, ((g6_0 x0).2.2.2.2.2.1.1, (g6_0 x0).2.2.2.2.2.1.2.1, (g6_0 x0).2.2.2.2.2.1.2.2.1, ()), (g6_0 x0).2.2.2.2.2.2.1, (g6_0 x0).2.2.2.2.2.2.2.1, (g6_0 x0).2.2.2.2.2.2.2.2.1, (g6_0 x0).2.2.2.2.2.2.2.2.2.1, (g6_0 x0).2.2.2.2.2.2.2.2.2.2.1, (g6_0 x0).2.2.2.2.2.2.2.2.2.2.2.1, ()) 1).2.2.2.2.2.2.1 = List.length (g6_0 x0).2.2.2.2.2.2.1) ∧ (List.length (u10_0 (((g6_0 x0).1.1, (g6_0 x0).1.2.1, (g6_0 x0).1.2.2.1, ()), (g6_0 x0).2.1, ((g6_0 x0).2.2.1.1, (g6_0 x0).2.2.1.2.1, ()), ((g6_0 x0).2.2.2.1.1, (g6_0 x0).2.2.2.1.2.1, (g6_0 x0).2.2.2.1.2.2.1, (g6_0 x0).2.2.2.1.2.2.2.1, ()), (g6_0 x0).2.2.2.2.1, ((g6_0 x0).2.2.2.2.2.1.1, (g6_0 x0).2.2.2.2.2.1.2.1, (g6_0 x0).2.2.2.2.2.1.2.2.1, ()), (g6_0 x0).2.2.2.2.2.2.1, (g6_0 x0).2.2.2.2.2.2.2.1, (g6_0 x0).2.2.2.2.2.2.2.2.1, (g6_0 x0).2.2.2.2.2.2.2.2.2.1, (g6_0 x0).2.2.2.2.2.2.2.2.2.2.1, (g6_0 x0).2.2.2.2.2.2.2.2.2.2.2.1, ()) 1).2.2.2.2.2.2.2.2.2.1 = List.length (g6_0 x0).2.2.2.2.2.2.2.2.2.1) ∧ (List.length (u10_0 (((g6_0 x0).1.1, (g6_0 x0).1.2.1, (g6_0 x0).1.2.2.1, ()), (g6_0 x0).2.1, ((g6_0 x0).2.2.1.1, (g6_0 x0).2.2.1.2.1, ()), ((g6_0 x0).2.2.2.1.1, (g6_0 x0).2.2.2.1.2.1, (g6_0 x0).2.2.2.1.2.2.1, (g6_0 x0).2.2.2.1.2.2.2.1, ()), (g6_0 x0).2.2.2.2.1, ((g6_0 x0).2.2.2.2.2.1.1, (g6_0 x0).2.2.2.2.2.1.2.1, (g6_0 x0).2.2.2.2.2.1.2.2.1, ()), (g6_0 x0).2.2.2.2.2.2.1, (g6_0 x0).2.2.2.2.2.2.2.1, (g6_0 x0).2.2.2.2.2.2.2.2.1, (g6_0 x0).2.2.2.2.2.2.2.2.2.1, (g6_0 x0).2.2.2.2.2.2.2.2.2.2.1, (g6_0 x0).2.2.2.2.2.2.2.2.2.2.2.1, ()) 1).2.2.2.2.2.2.2.2.2.2.2.1 = List.length (g6_0 x0).2.2.2.2.2.2.2.2.2.2.2.1) ∧ (if (decide (g10_0 (((g6_0 x0).1.1, (g6_0 x0).1.2.1, (g6_0 x0).1.2.2.1, ()), (g6_0 x0).2.1, ((g6_0 x0).2.2.1.1, (g6_0 x0).2.2.1.2.1, ()), ((g6_0 x0).2.2.2.1.1, (g6_0 x0).2.2.2.1.2.1, (g6_0 x0).2.2.2.1.2.2.1, (g6_0 x0).2.2.2.1.2.2.2.1, ()), (g6_0 x0).2.2.2.2.1, ((g6_0 x0).2.2.2.2.2.1.1, (g6_0 x0).2.2.2.2.2.1.2.1, (g6_0 x0).2.2.2.2.2.1.2.2.1, ()), (g6_0 x0).2.2.2.2.2.2.1, (g6_0 x0).2.2.2.2.2.2.2.1, (g6_0 x0).2.2.2.2.2.2.2.2.1, (g6_0 x0).2.2.2.2.2.2.2.2.2.1, (g6_0 x0).2.2.2.2.2.2.2.2.2.2.1, (g6_0 x0).2.2.2.2.2.2.2.2.2.2.2.1, ()) 1 < 0)) = true then True else ((P11 (g7_0 (((g6_0 x0).1.1, (g6_0 x0).1.2.1, (g6_0 x0).1.2.2.1, ()), (g6_0 x0).2.1, ((g6_0 x0).2.2.1.1, (g6_0 x0).2.2.1.2.1, ()), ((g6_0 x0).2.2.2.1.1, (g6_0 x0).2.2.2.1.2.1, (g6_0 x0).2.2.2.1.2.2.1, (g6_0 x0).2.2.2.1.2.2.2.1, ()), (g6_0 x0).2.2.2.2.1, ((g6_0 x0).2.2.2.2.2.1.1, (g6_0 x0).2.2.2.2.2.1.2.1, (g6_0 x0).2.2.2.2.2.1.2.2.1, ()), (g6_0 x0).2.2.2.2.2.2.1, (g6_0 x0).2.2.2.2.2.2.2.1, (g6_0 x0).2.2.2.2.2.2.2.2.1, (g6_0 x0).2.2.2.2.2.2.2.2.2.1, (g6_0 x0).2.2.2.2.2.2.2.2.2.2.1, (g6_0 x0).2.2.2.2.2.2.2.2.2.2.2.1, ())) 1) ∧ (List.length (u11_0 (g7_0 (((g6_0 x0).1.1, (g6_0 x0).1.2.1, (g6_0 x0).1.2.2.1, ()), (g6_0 x0).2.1, ((g6_0 x0).2.2.1.1, (g6_0 x0).2.2.1.2.1, ()), ((g6_0 x0).2.2.2.1.1, (g6_0 x0).2.2.2.1.2.1, (g6_0 x0).2.2.2.1.2.2.1, (g6_0 x0).2.2.2.1.2.2.2.1, ()), (g6_0 x0).2.2.2.2.1, ((g6_0 x0).2.2.2.2.2.1.1, (g6_0 x0).2.2.2.2.2.1.2.1, (g6_0 x0).2.2.2.2.2.1.2.2.1, ()), (g6_0 x0).2.2.2.2.2.2.1, (g6_0 x0).2.2.2.2.2.2.2.1, (g6_0 x0).2.2.2.2.2.2.2.2.1, (g6_0 x0).2.2.2.2.2.2.2.2.2.1, (g6_0 x0).2.2.2.2.2.2.2.2.2.2.1, (g6_0 x0).2.2.2.2.2.2.2.2.2.2.2.1, ())) 1) = List.length (g7_0 (((g6_0 x0).1.1, (g6_0 x0).1.2.1, (g6_0 x0).1.2.2.1, ()), (g6_0 x0).2.1, ((g6_0 x0).2.2.1.1, (g6_0 x0).2.2.1.2.1, ()), ((g6_0 x0).2.2.2.1.1, (g6_0 x0).2.2.2.1.2.1, (g6_0 x0).2.2.2.1.2.2.1, (g6_0 x0).2.2.2.1.2.2.2.1, ()), (g6_0 x0).2.2.2.2.1, ((g6_0 x0).2.2.2.2.2.1.1, (g6_0 x0).2.2.2.2.2.1.2.1, (g6_0 x0).2.2.2.2.2.1.2.2.1, ()), (g6_0 x0).2.2.2.2.2.2.1, (g6_0 x0).2.2.2.2.2.2.2.1, (g6_0 x0).2.2.2.2.2.2.2.2.1, (g6_0 x0).2.2.2.2.2.2.2.2.2.1, (g6_0 x0).2.2.2.2.2.2.2.2.2.2.1, (g6_0 x0).2.2.2.2.2.2.2.2.2.2.2.1, ()))) ∧ ((P12 (u11_0 (g7_0 (((g6_0 x0).1.1, (g6_0 x0).1.2.1, (g6_0 x0).1.2.2.1, ()), (g6_0 x0).2.1, ((g6_0 x0).2.2.1.1, (g6_0 x0).2.2.1.2.1, ()), ((g6_0 x0).2.2.2.1.1, (g6_0 x0).2.2.2.1.2.1, (g6_0 x0).2.2.2.1.2.2.1, (g6_0 x0).2.2.2.1.2.2.2.1, ()), (g6_0 x0).2.2.2.2.1, ((g6_0 x0).2.2.2.2.2.1.1, (g6_0 x0).2.2.2.2.2.1.2.1, (g6_0 x0).2.2.2.2.2.1.2.2.1, ()), (g6_0 x0).2.2.2.2.2.2.1, (g6_0 x0).2.2.2.2.2.2.2.1, (g6_0 x0).2.2.2.2.2.2.2.2.1, (g6_0 x0).2.2.2.2.2.2.2.2.2.1, (g6_0 x0).2.2.2.2.2.2.2.2.2.2.1, (g6_0 x0).2.2.2.2.2.2.2.2.2.2.2.1, ())) 1) 1) ∧ (if (decide (g12_0 (u11_0 (g7_0 (((g6_0 x0).1.1, (g6_0 x0).1.2.1, (g6_0 x0).1.2.2.1, ()), (g6_0 x0).2.1, ((g6_0 x0).2.2.1.1, (g6_0 x0).2.2.1.2.1, ()), ((g6_0 x0).2.2.2.1.1, (g6_0 x0).2.2.2.1.2.1, (g6_0 x0).2.2.2.1.2.2.1, (g6_0 x0).2.2.2.1.2.2.2.1, ()), (g6_0 x0).2.2.2.2.1, ((g6_0 x0).2.2.2.2.2.1.1, (g6_0 x0).2.2.2.2.2.1.2.1, (g6_0 x0).2.2.2.2.2.1.2.2.1, ()), (g6_0 x0).2.2.2.2.2.2.1, (g6_0 x0).2.2.2.2.2.2.2.1, (g6_0 x0).2.2.2.2.2.2.2.2.1, (g6_0 x0).2.2.2.2.2.2.2.2.2.1, (g6_0 x0).2.2.2.2.2.2.2.2.2.2.1, (g6_0 x0).2.2.2.2.2.2.2.2.2.2.2.1, ())) 1) 1 < 0)) = true then True else (if (g12_0 (u11_0 (g7_0 (((g6_0 x0).1.1, (g6_0 x0).1.2.1, (g6_0 x0).1.2.2.1, ()), (g6_0 x0).2.1, ((g6_0 x0).2.2.1.1, (g6_0 x0).2.2.1.2.1, ()), ((g6_0 x0).2.2.2.1.1, (g6_0 x0).2.2.2.1.2.1, (g6_0 x0).2.2.2.1.2.2.1, (g6_0 x0).2.2.2.1.2.2.2.1, ()), (g6_0 x0).2.2.2.2.1, ((g6_0 x0).2.2.2.2.2.1.1, (g6_0 x0).2.2.2.2.2.1.2.1, (g6_0 x0).2.2.2.2.2.1.2.2.1, ()), (g6_0 x0).2.2.2.2.2.2.1, (g6_0 x0).2.2.2.2.2.2.2.1, (g6_0 x0).2.2.2.2.2.2.2.2.1, (g6_0 x0).2.2.2.2.2.2.2.2.2.1, (g6_0 x0).2.2.2.2.2.2.2.2.2.2.1, (g6_0 x0).2.2.2.2.2.2.2.2.2.2.2.1, ())) 1) 1 != g11_0 (g7_0 (((g6_0 x0).1.1, (g6_0 x0).1.2.1, (g6_0 x0).1.2.2.1, ()), (g6_0 x0).2.1, ((g6_0 x0).2.2.1.1, (g6_0 x0).2.2.1.2.1, ()), ((g6_0 x0).2.2.2.1.1, (g6_0 x0).2.2.2.1.2.1, (g6_0 x0).2.2.2.1.2.2.1, (g6_0 x0).2.2.2.1.2.2.2.1, ()), (g6_0 x0).2.2.2.2.1, ((g6_0 x0).2.2.2.2.2.1.1, (g6_0 x0).2.2.2.2.2.1.2.1, (g6_0 x0).2.2.2.2.2.1.2.2.1, ()), (g6_0 x0).2.2.2.2.2.2.1, (g6_0 x0).2.2.2.2.2.2.2.1, (g6_0 x0).2.2.2.2.2.2.2.2.1, (g6_0 x0).2.2.2.2.2.2.2.2.2.1, (g6_0 x0).2.2.2.2.2.2.2.2.2.2.1, (g6_0 x0).2.2.2.2.2.2.2.2.2.2.2.1, ())) 1) = true then True else ((P6 x0) ∧ ((P7 (((g6_0 x0).1.1, (g6_0 x0).1.2.1, (g6_0 x0).1.2.2.1, ()), (g6_0 x0).2.1, ((g6_0 x0).2.2.1.1, (g6_0 x0).2.2.1.2.1, ()), ((g6_0 x0).2.2.2.1.1, (g6_0 x0).2.2.2.1.2.1, (g6_0 x0).2.2.2.1.2.2.1, (g6_0 x0).2.2.2.1.2.2.2.1, ()), (g6_0 x0).2.2.2.2.1, ((g6_0 x0).2.2.2.2.2.1.1, (g6_0 x0).2.2.2.2.2.1.2.1, (g6_0 x0).2.2.2.2.2.1.2.2.1, ()), (g6_0 x0).2.2.2.2.2.2.1, (g6_0 x0).2.2.2.2.2.2.2.1, (g6_0 x0).2.2.2.2.2.2.2.2.1, (g6_0 x0).2.2.2.2.2.2.2.2.2.1, (g6_0 x0).2.2.2.2.2.2.2.2.2.2.1, (g6_0 x0).2.2.2.2.2.2.2.2.2.2.2.1, ())) ∧ ((P12 (u11_0 (g7_0 (((g6_0 x0).1.1, (g6_0 x0).1.2.1, (g6_0 x0).1.2.2.1, ()), (g6_0 x0).2.1, ((g6_0 x0).2.2.1.1, (g6_0 x0).2.2.1.2.1, ()), ((g6_0 x0).2.2.2.1.1, (g6_0 x0).2.2.2.1.2.1, (g6_0 x0).2.2.2.1.2.2.1, (g6_0 x0).2.2.2.1.2.2.2.1, ()), (g6_0 x0).2.2.2.2.1, ((g6_0 x0).2.2.2.2.2.1.1, (g6_0 x0).2.2.2.2.2.1.2.1, (g6_0 x0).2.2.2.2.2.1.2.2.1, ()), (g6_0 x0).2.2.2.2.2.2.1, (g6_0 x0).2.2.2.2.2.2.2.1, (g6_0 x0).2.2.2.2.2.2.2.2.1, (g6_0 x0).2.2.2.2.2.2.2.2.2.1, (g6_0 x0).2.2.2.2.2.2.2.2.2.2.1, (g6_0 x0).2.2.2.2.2.2.2.2.2.2.2.1, ())) 1) 1) ∧ True)))))))))))))))))))
def g3_0 (x0 : TyA0) : Bool := (if (decide (g4_0 x0 1048576 < 0)) = true then true else (if (!g8_0 (g7_0 (((g6_0 x0).1.1, (g6_0 x0).1.2.1, (g6_0 x0).1.2.2.1, ()), (g6_0 x0).2.1, ((g6_0 x0).2.2.1.1, (g6_0 x0).2.2.1.2.1, ()), ((g6_0 x0).2.2.2.1.1, (g6_0 x0).2.2.2.1.2.1, (g6_0 x0).2.2.2.1.2.2.1, (g6_0 x0).2.2.2.1.2.2.2.1, ()), (g6_0 x0).2.2.2.2.1, ((g6_0 x0).2.2.2.2.2.1.1, (g6_0 x0).2.2.2.2.2.1.2.1, (g6_0 x0).2.2.2.2.2.1.2.2.1, ()), (g6_0 x0).2.2.2.2.2.2.1, (g6_0 x0).2.2.2.2.2.2.2.1, (g6_0 x0).2.2.2.2.2.2.2.2.1, (g6_0 x0).2.2.2.2.2.2.2.2.2.1, (g6_0 x0).2.2.2.2.2.2.2.2.2.2.1, (g6_0 x0).2.2.2.2.2.2.2.2.2.2.2.1, ())) (g5_0 (((g6_0 x0).1.1, (g6_0 x0).1.2.1, (g6_0 x0).1.2.2.1, ()), (g6_0 x0).2.1, ((g6_0 x0).2.2.1.1, (g6_0 x0).2.2.1.2.1, ()), ((g6_0 x0).2.2.2.1.1, (g6_0 x0).2.2.2.1.2.1, (g6_0 x0).2.2.2.1.2.2.1, (g6_0 x0).2.2.2.1.2.2.2.1, ()), (g6_0 x0).2.2.2.2.1, ((g6_0 x0).2.2.2.2.2.1.1, (g6_0 x0).2.2.2.2.2.1.2.1, (g6_0 x0).2.2.2.2.2.1.2.2.1, ()), (g6_0 x0).2.2.2.2.2.2.1, (g6_0 x0).2.2.2.2.2.2.2.1, (g6_0 x0).2.2.2.2.2.2.2.2.1, (g6_0 x0).2.2.2.2.2.2.2.2.2.1, (g6_0 x0).2.2.2.2.2.2.2.2.2.2.1, (g6_0 x0).2.2.2.2.2.2.2.2.2.2.2.1, ()))) = true then false else (if (g7_1 (((g6_0 x0).1.1, (g6_0 x0).1.2.1, (g6_0 x0).1.2.2.1, ()), (g6_0 x0).2.1, ((g6_0 x0).2.2.1.1, (g6_0 x0).2.2.1.2.1, ()), ((g6_0 x0).2.2.2.1.1, (g6_0 x0).2.2.2.1.2.1, (g6_0 x0).2.2.2.1.2.2.1, (g6_0 x0).2.2.2.1.2.2.2.1, ()), (g6_0 x0).2.2.2.2.1, ((g6_0 x0).2.2.2.2.2.1.1, (g6_0 x0).2.2.2.2.2.1.2.1, (g6_0 x0).2.2.2.2.2.1.2.2.1, ()), (g6_0 x0).2.2.2.2.2.2.1, (g6_0 x0).2.2.2.2.2.2.2.1, (g6_0 x0).2.2.2.2.2.2.2.2.1, (g6_0 x0).2.2.2.2.2.2.2.2.2.1, (g6_0 x0).2.2.2.2.2.2.2.2.2.2.1, (g6_0 x0).2.2.2.2.2.2.2.2.2.2.2.1, ()) != g5_1 (((g6_0 x0).1.1, (g6_0 x0).1.2.1, (g6_0 x0).1.2.2.1, ()), (g6_0 x0).2.1, ((g6_0 x0).2.2.1.1, (g6_0 x0).2.2.1.2.1, ()), ((g6_0 x0).2.2.2.1.1, (g6_0 x0).2.2.2.1.2.1, (g6_0 x0).2.2.2.1.2.2.1, (g6_0 x0).2.2.2.1.2.2.2.1, ()), (g6_0 x0).2.2.2.2.1, ((g6_0 x0).2.2.2.2.2.1.1, (g6_0 x0).2.2.2.2.2.1.2.1, (g6_0 x0).2.2.2.2.2.1.2.2.1, ()), (g6_0 x0).2.2.2.2.2.2.1, (g6_0 x0).2.2.2.2.2.2.2.1, (g6_0 x0).2.2.2.2.2.2.2.2.1, (g6_0 x0).2.2.2.2.2.2.2.2.2.1, (g6_0 x0).2.2.2.2.2.2.2.2.2.2.1, (g6_0 x0).2.2.2.2.2.2.2.2.2.2.2.1, ())) = true then false else (if (!g9_0 (((g6_0 x0).1.1, (g6_0 x0).1.2.1, (g6_0 x0).1.2.2.1, ()), (g6_0 x0).2.1, ((g6_0 x0).2.2.1.1, (g6_0 x0).2.2.1.2.1, ()), ((g6_0 x0).2.2.2.1.1, (g6_0 x0).2.2.2.1.2.1, (g6_0 x0).2.2.2.1.2.2.1, (g6_0 x0).2.2.2.1.2.2.2.1, ()), (g6_0 x0).2.2.2.2.1, ((g6_0 x0).2.2.2.2.2.1.1, (g6_0 x0).2.2.2.2.2.1.2.1, (g6_0 x0).2.2.2.2.2.1.2.2.1, ()), (g6_0 x0).2.2.2.2.2.2.1, (g6_0 x0).2.2.2.2.2.2.2.1, (g6_0 x0).2.2.2.2.2.2.2.2.1, (g6_0 x0).2.2.2.2.2.2.2.2.2.1, (g6_0 x0).2.2.2.2.2.2.2.2.2.2.1, (g6_0 x0).2.2.2.2.2.2.2.2.2.2.2.1, ()) (((g6_0 x0).1.1, (g6_0 x0).1.2.1, (g6_0 x0).1.2.2.1, ()), (g6_0 x0).2.1, ((g6_0 x0).2.2.1.1, (g6_0 x0).2.2.1.2.1, ()), ((g6_0 x0).2.2.2.1.1, (g6_0 x0).2.2.2.1.2.1, (g6_0 x0).2.2.2.1.2.2.1, (g6_0 x0).2.2.2.1.2.2.2.1, ()), (g6_0 x0).2.2.2.2.1, ((g6_0 x0).2.2.2.2.2.1.1, (g6_0 x0).2.2.2.2.2.1.2.1, (g6_0 x0).2.2.2.2.2.1.2.2.1, ()), (g6_0 x0).2.2.2.2.2.2.1, (g6_0 x0).2.2.2.2.2.2.2.1, (g6_0 x0).2.2.2.2.2.2.2.2.1, (g6_0 x0).2.2.2.2.2.2.2.2.2.1, (g6_0 x0).2.2.2.2.2.2.2.2.2.2.1, (g6_0 x0).2.2.2.2.2.2.2.2.2.2.2.1, ())) = true then false else (if (decide (g10_0 (((g6_0 x0).1.1, (g6_0 x0).1.2.1, (g6_0 x0).1.2.2.1, ()), (g6_0 x0).2.1, ((g6_0 x0).2.2.1.1, (g6_0 x0).2.2.1.2.1, ()), ((g6_0 x0).2.2.2.1.1, (g6_0 x0).2.2.2.1.2.1, (g6_0 x0).2.2.2.1.2.2.1, (g6_0 x0).2.2.2.1.2.2.2.1, ()), (g6_0 x0).2.2.2.2.1, ((g6_0 x0).2.2.2.2.2.1.1, (g6_0 x0).2.2.2.2.2.1.2.1, (g6_0 x0).2.2.2.2.2.1.2.2.1, ()), (g6_0 x0).2.2.2.2.2.2.1, (g6_0 x0).2.2.2.2.2.2.2.1, (g6_0 x0).2.2.2.2.2.2.2.2.1, (g6_0 x0).2.2.2.2.2.2.2.2.2.1, (g6_0 x0).2.2.2.2.2.2.2.2.2.2.1, (g6_0 x0).2.2.2.2.2.2.2.2.2.2.2.1, ()) 1 < 0)) = true then false else (if (decide (g12_0 (u11_0 (g7_0 (((g6_0 x0).1.1, (g6_0 x0).1.2.1, (g6_0 x0).1.2.2.1, ()), (g6_0 x0).2.1, ((g6_0 x0).2.2.1.1, (g6_0 x0).2.2.1.2.1, ()), ((g6_0 x0).2.2.2.1.1, (g6_0 x0).2.2.2.1.2.1, (g6_0 x0).2.2.2.1.2.2.1, (g6_0 x0).2.2.2.1.2.2.2.1, ()), (g6_0 x0).2.2.2.2.1, ((g6_0 x0).2.2.2.2.2.1.1, (g6_0 x0).2.2.2.2.2.1.2.1, (g6_0 x0).2.2.2.2.2.1.2.2.1, ()), (g6_0 x0).2.2.2.2.2.2.1, (g6_0 x0).2.2.2.2.2.2.2.1, (g6_0 x0).2.2.2.2.2.2.2.2.1, (g6_0 x0).2.2.2.2.2.2.2.2.2.1, (g6_0 x0).2.2.2.2.2.2.2.2.2.2.1, (g6_0 x0).2.2.2.2.2.2.2.2.2.2.2.1, ())) 1) 1 < 0)) = true then false else (if (g12_0 (u11_0 (g7_0 (((g6_0 x0).1.1, (g6_0 x0).1.2.1, (g6_0 x0).1.2.2.1, ()), (g6_0 x0).2.1, ((g6_0 x0).2.2.1.1, (g6_0 x0).2.2.1.2.1, ()), ((g6_0 x0).2.2.2.1.1, (g6_0 x0).2.2.2.1.2.1, (g6_0 x0).2.2.2.1.2.2.1, (g6_0 x0).2.2.2.1.2.2.2.1, ()), (g6_0 x0).2.2.2.2.1, ((g6_0 x0).2.2.2.2.2.1.1, (g6_0 x0).2.2.2.2.2.1.2.1, (g6_0 x0).2.2.2.2.2.1.2.2.1, ()), (g6_0 x0).2.2.2.2.2.2.1, (g6_0 x0).2.2.2.2.2.2.2.1, (g6_0 x0).2.2.2.2.2.2.2.2.1, (g6_0 x0).2.2.2.2.2.2.2.2.2.1, (g6_0 x0).2.2.2.2.2.2.2.2.2.2.1, (g6_0 x0).2.2.2.2.2.2.2.2.2.2.2.1, ())) 1) 1 != g11_0 (g7_0 (((g6_0 x0).1.1, (g6_0 x0).1.2.1, (g6_0 x0).1.2.2.1, ()), (g6_0 x0).2.1, ((g6_0 x0).2.2.1.1, (g6_0 x0).2.2.1.2.1, ()), ((g6_0 x0).2.2.2.1.1, (g6_0 x0).2.2.2.1.2.1, (g6_0 x0).2.2.2.1.2.2.1, (g6_0 x0).2.2.2.1.2.2.2.1, ()), (g6_0 x0).2.2.2.2.1, ((g6_0 x0).2.2.2.2.2.1.1, (g6_0 x0).2.2.2.2.2.1.2.1, (g6_0 x0).2.2.2.2.2.1.2.2.1, ()), (g6_0 x0).2.2.2.2.2.2.1, (g6_0 x0).2.2.2.2.2.2.2.1, (g6_0 x0).2.2.2.2.2.2.2.2.1, (g6_0 x0).2.2.2.2.2.2.2.2.2.1, (g6_0 x0).2.2.2.2.2.2.2.2.2.2.1, (g6_0 x0).2.2.2.2.2.2.2.2.2.2.2.1, ())) 1) = true then false else true)))))))
theorem at3 (x0 : TyA0) (h : P3 x0) (K : Ctx) (q : Nat → Value) : AtV Tryz.prog 3 (PostR kds3 oks3 [⟨Ty.bool, g3_0 x0⟩] [] [] q K) 96 K q [] [.code b3] (entE 0 0 sig3 (x0, ())) (entL sig3 (x0, ())) := by
  unfold P3 at h
  unfold g3_0
  obtain ⟨s0, h⟩ := h
  by_cases b0 : (decide (g4_0 x0 1048576 < 0)) = true
  · try simp only [if_pos b0] at h ⊢
    exact AtV.ret Tryz.func3 tabOk ext3Ok mixed false [] tys3 [true] (a1 s0 (a1 b0 trivial)) (by kernel_rfl)
  · try simp only [if_neg b0] at h ⊢
    replace b0 := Bool.eq_false_iff.2 b0
    obtain ⟨s1, h⟩ := h
    obtain ⟨s2, h⟩ := h
    obtain ⟨s3, h⟩ := h
    obtain ⟨s4, h⟩ := h
    by_cases b1 : (!g8_0 (g7_0 (((g6_0 x0).1.1, (g6_0 x0).1.2.1, (g6_0 x0).1.2.2.1, ()), (g6_0 x0).2.1, ((g6_0 x0).2.2.1.1, (g6_0 x0).2.2.1.2.1, ()), ((g6_0 x0).2.2.2.1.1, (g6_0 x0).2.2.2.1.2.1, (g6_0 x0).2.2.2.1.2.2.1, (g6_0 x0).2.2.2.1.2.2.2.1, ()), (g6_0 x0).2.2.2.2.1, ((g6_0 x0).2.2.2.2.2.1.1, (g6_0 x0).2.2.2.2.2.1.2.1, (g6_0 x0).2.2.2.2.2.1.2.2.1, ()), (g6_0 x0).2.2.2.2.2.2.1, (g6_0 x0).2.2.2.2.2.2.2.1, (g6_0 x0).2.2.2.2.2.2.2.2.1, (g6_0 x0).2.2.2.2.2.2.2.2.2.1, (g6_0 x0).2.2.2.2.2.2.2.2.2.2.1, (g6_0 x0).2.2.2.2.2.2.2.2.2.2.2.1, ())) (g5_0 (((g6_0 x0).1.1, (g6_0 x0).1.2.1, (g6_0 x0).1.2.2.1, ()), (g6_0 x0).2.1, ((g6_0 x0).2.2.1.1, (g6_0 x0).2.2.1.2.1, ()), ((g6_0 x0).2.2.2.1.1, (g6_0 x0).2.2.2.1.2.1, (g6_0 x0).2.2.2.1.2.2.1, (g6_0 x0).2.2.2.1.2.2.2.1, ()), (g6_0 x0).2.2.2.2.1, ((g6_0 x0).2.2.2.2.2.1.1, (g6_0 x0).2.2.2.2.2.1.2.1, (g6_0 x0).2.2.2.2.2.1.2.2.1, ()), (g6_0 x0).2.2.2.2.2.2.1, (g6_0 x0).2.2.2.2.2.2.2.1, (g6_0 x0).2.2.2.2.2.2.2.2.1, (g6_0 x0).2.2.2.2.2.2.2.2.2.1, (g6_0 x0).2.2.2.2.2.2.2.2.2.2.1, (g6_0 x0).2.2.2.2.2.2.2.2.2.2.2.1, ()))) = true
    · try simp only [if_pos b1] at h ⊢
      exact AtV.ret Tryz.func3 tabOk ext3Ok mixed false [] tys3 [false, true, true] (a1 s0 (a1 b0 (a1 s1 (a1 s2 (a1 s3 (a1 s4 (a1 trivial (a1 b1 (a1 (rfl : true = true) trivial))))))))) (by kernel_rfl)
    · try simp only [if_neg b1] at h ⊢
      replace b1 := Bool.eq_false_iff.2 b1
      by_cases b2 : (g7_1 (((g6_0 x0).1.1, (g6_0 x0).1.2.1, (g6_0 x0).1.2.2.1, ()), (g6_0 x0).2.1, ((g6_0 x0).2.2.1.1, (g6_0 x0).2.2.1.2.1, ()), ((g6_0 x0).2.2.2.1.1, (g6_0 x0).2.2.2.1.2.1, (g6_0 x0).2.2.2.1.2.2.1, (g6_0 x0).2.2.2.1.2.2.2.1, ()), (g6_0 x0).2.2.2.2.1, ((g6_0 x0).2.2.2.2.2.1.1, (g6_0 x0).2.2.2.2.2.1.2.1, (g6_0 x0).2.2.2.2.2.1.2.2.1, ()), (g6_0 x0).2.2.2.2.2.2.1, (g6_0 x0).2.2.2.2.2.2.2.1, (g6_0 x0).2.2.2.2.2.2.2.2.1, (g6_0 x0).2.2.2.2.2.2.2.2.2.1, (g6_0 x0).2.2.2.2.2.2.2.2.2.2.1, (g6_0 x0).2.2.2.2.2.2.2.2.2.2.2.1, ()) != g5_1 (((g6_0 x0).1.1, (g6_0 x0).1.2.1, (g6_0 x0).1.2.2.1, ()), (g6_0 x0).2.1, ((g6_0 x0).2.2.1.1, (g6_0 x0).2.2.1.2.1, ()), ((g6_0 x0).2.2.2.1.1, (g6_0 x0).2.2.2.1.2.1, (g6_0 x0).2.2.2.1.2.2.1, (g6_0 x0).2.2.2.1.2.2.2.1, ()), (g6_0 x0).2.2.2.2.1, ((g6_0 x0).2.2.2.2.2.1.1, (g6_0 x0).2.2.2.2.2.1.2.1, (g6_0 x0).2.2.2.2.2.1.2.2.1, ()), (g6_0 x0).2.2.2.2.2.2.1, (g6_0 x0).2.2.2.2.2.2.2.1, (g6_0 x0).2.2.2.2.2.2.2.2.1, (g6_0 x0).2.2.2.2.2.2.2.2.2.1, (g6_0 x0).2.2.2.2.2.2.2.2.2.2.1, (g6_0 x0).2.2.2.2.2.2.2.2.2.2.2.1, ())) = true
      · try simp only [if_pos b2] at h ⊢
        exact AtV.ret Tryz.func3 tabOk ext3Ok mixed false [] tys3 [false, false, true] (a1 s0 (a1 b0 (a1 s1 (a1 s2 (a1 s3 (a1 s4 (a1 trivial (a1 b1 (a1 b2 trivial))))))))) (by kernel_rfl)
      · try simp only [if_neg b2] at h ⊢
        replace b2 := Bool.eq_false_iff.2 b2
        obtain ⟨s5, h⟩ := h
        by_cases b3 : (!g9_0 (((g6_0 x0).1.1, (g6_0 x0).1.2.1, (g6_0 x0).1.2.2.1, ()), (g6_0 x0).2.1, ((g6_0 x0).2.2.1.1, (g6_0 x0).2.2.1.2.1, ()), ((g6_0 x0).2.2.2.1.1, (g6_0 x0).2.2.2.1.2.1, (g6_0 x0).2.2.2.1.2.2.1, (g6_0 x0).2.2.2.1.2.2.2.1, ()), (g6_0 x0).2.2.2.2.1, ((g6_0 x0).2.2.2.2.2.1.1, (g6_0 x0).2.2.2.2.2.1.2.1, (g6_0 x0).2.2.2.2.2.1.2.2.1, ()), (g6_0 x0).2.2.2.2.2.2.1, (g6_0 x0).2.2.2.2.2.2.2.1, (g6_0 x0).2.2.2.2.2.2.2.2.1, (g6_0 x0).2.2.2.2.2.2.2.2.2.1, (g6_0 x0).2.2.2.2.2.2.2.2.2.2.1, (g6_0 x0).2.2.2.2.2.2.2.2.2.2.2.1, ()) (((g6_0 x0).1.1, (g6_0 x0).1.2.1, (g6_0 x0).1.2.2.1, ()), (g6_0 x0).2.1, ((g6_0 x0).2.2.1.1, (g6_0 x0).2.2.1.2.1, ()), ((g6_0 x0).2.2.2.1.1, (g6_0 x0).2.2.2.1.2.1, (g6_0 x0).2.2.2.1.2.2.1, (g6_0 x0).2.2.2.1.2.2.2.1, ()), (g6_0 x0).2.2.2.2.1, ((g6_0 x0).2.2.2.2.2.1.1, (g6_0 x0).2.2.2.2.2.1.2.1, (g6_0 x0).2.2.2.2.2.1.2.2.1, ()), (g6_0 x0).2.2.2.2.2.2.1, (g6_0 x0).2.2.2.2.2.2.2.1, (g6_0 x0).2.2.2.2.2.2.2.2.1, (g6_0 x0).2.2.2.2.2.2.2.2.2.1, (g6_0 x0).2.2.2.2.2.2.2.2.2.2.1, (g6_0 x0).2.2.2.2.2.2.2.2.2.2.2.1, ())) = true
        · try simp only [if_pos b3] at h ⊢
          exact AtV.ret Tryz.func3 tabOk ext3Ok mixed false [] tys3 [false, false, false, true] (a1 s0 (a1 b0 (a1 s1 (a1 s2 (a1 s3 (a1 s4 (a1 trivial (a1 b1 (a1 b2 (a1 s5 (a1 trivial (a1 b3 trivial)))))))))))) (by kernel_rfl)
        · try simp only [if_neg b3] at h ⊢
          replace b3 := Bool.eq_false_iff.2 b3
          obtain ⟨s6, s7, s8, s9, s10, s11, h⟩ := h
          by_cases b4 : (decide (g10_0 (((g6_0 x0).1.1, (g6_0 x0).1.2.1, (g6_0 x0).1.2.2.1, ()), (g6_0 x0).2.1, ((g6_0 x0).2.2.1.1, (g6_0 x0).2.2.1.2.1, ()), ((g6_0 x0).2.2.2.1.1, (g6_0 x0).2.2.2.1.2.1, (g6_0 x0).2.2.2.1.2.2.1, (g6_0 x0).2.2.2.1.2.2.2.1, ()), (g6_0 x0).2.2.2.2.1, ((g6_0 x0).2.2.2.2.2.1.1, (g6_0 x0).2.2.2.2.2.1.2.1, (g6_0 x0).2.2.2.2.2.1.2.2.1, ()), (g6_0 x0).2.2.2.2.2.2.1, (g6_0 x0).2.2.2.2.2.2.2.1, (g6_0 x0).2.2.2.2.2.2.2.2.1, (g6_0 x0).2.2.2.2.2.2.2.2.2.1, (g6_0 x0).2.2.2.2.2.2.2.2.2.2.1, (g6_0 x0).2.2.2.2.2.2.2.2.2.2.2.1, ()) 1 < 0)) = true
          · try simp only [if_pos b4] at h ⊢
            exact AtV.ret Tryz.func3 tabOk ext3Ok mixed false [] tys3 [false, false, false, false, true, true, true] (a1 s0 (a1 b0 (a1 s1 (a1 s2 (a1 s3 (a1 s4 (a1 trivial (a1 b1 (a1 b2 (a1 s5 (a1 trivial (a1 b3 (a1 s6 (a1 s7 (a1 s8 (a1 s9 (a1 s10 (a1 s11 (a1 b4 (a1 (rfl : true = true) (a1 (rfl : true = true) trivial))))))))))))))))))))) (by kernel_rfl)
          · try simp only [if_neg b4] at h ⊢
            replace b4 := Bool.eq_false_iff.2 b4
            obtain ⟨s12, s13, h⟩ := h
            obtain ⟨s14, h⟩ := h
            by_cases b5 : (decide (g12_0 (u11_0 (g7_0 (((g6_0 x0).1.1, (g6_0 x0).1.2.1, (g6_0 x0).1.2.2.1, ()), (g6_0 x0).2.1, ((g6_0 x0).2.2.1.1, (g6_0 x0).2.2.1.2.1, ()), ((g6_0 x0).2.2.2.1.1, (g6_0 x0).2.2.2.1.2.1, (g6_0 x0).2.2.2.1.2.2.1, (g6_0 x0).2.2.2.1.2.2.2.1, ()), (g6_0 x0).2.2.2.2.1, ((g6_0 x0).2.2.2.2.2.1.1, (g6_0 x0).2.2.2.2.2.1.2.1, (g6_0 x0).2.2.2.2.2.1.2.2.1, ()), (g6_0 x0).2.2.2.2.2.2.1, (g6_0 x0).2.2.2.2.2.2.2.1, (g6_0 x0).2.2.2.2.2.2.2.2.1, (g6_0 x0).2.2.2.2.2.2.2.2.2.1, (g6_0 x0).2.2.2.2.2.2.2.2.2.2.1, (g6_0 x0).2.2.2.2.2.2.2.2.2.2.2.1, ())) 1) 1 < 0)) = true
            · try simp only [if_pos b5] at h ⊢
              exact AtV.ret Tryz.func3 tabOk ext3Ok mixed false [] tys3 [false, false, false, false, false, false, false, true] (a1 s0 (a1 b0 (a1 s1 (a1 s2 (a1 s3 (a1 s4 (a1 trivial (a1 b1 (a1 b2 (a1 s5 (a1 trivial (a1 b3 (a1 s6 (a1 s7 (a1 s8 (a1 s9 (a1 s10 (a1 s11 (a1 b4 (a1 trivial (a1 b1 (a1 b2 (a1 s12 (a1 s13 (a1 s14 (a1 b5 trivial)))))))))))))))))))))))))) (by kernel_rfl)
            · try simp only [if_neg b5] at h ⊢
              replace b5 := Bool.eq_false_iff.2 b5
              by_cases b6 : (g12_0 (u11_0 (g7_0 (((g6_0 x0).1.1, (g6_0 x0).1.2.1, (g6_0 x0).1.2.2.1, ()), (g6_0 x0).2.1, ((g6_0 x0).2.2.1.1, (g6_0 x0).2.2.1.2.1, ()), ((g6_0 x0).2.2.2.1.1, (g6_0 x0).2.2.2.1.2.1, (g6_0 x0).2.2.2.1.2.2.1, (g6_0 x0).2.2.2.1.2.2.2.1, ()), (g6_0 x0).2.2.2.2.1, ((g6_0 x0).2.2.2.2.2.1.1, (g6_0 x0).2.2.2.2.2.1.2.1, (g6_0 x0).2.2.2.2.2.1.2.2.1, ()), (g6_0 x0).2.2.2.2.2.2.1, (g6_0 x0).2.2.2.2.2.2.2.1, (g6_0 x0).2.2.2.2.2.2.2.2.1, (g6_0 x0).2.2.2.2.2.2.2.2.2.1, (g6_0 x0).2.2.2.2.2.2.2.2.2.2.1, (g6_0 x0).2.2.2.2.2.2.2.2.2.2.2.1, ())) 1) 1 != g11_0 (g7_0 (((g6_0 x0).1.1, (g6_0 x0).1.2.1, (g6_0 x0).1.2.2.1, ()), (g6_0 x0).2.1, ((g6_0 x0).2.2.1.1, (g6_0 x0).2.2.1.2.1, ()), ((g6_0 x0).2.2.2.1.1, (g6_0 x0).2.2.2.1.2.1, (g6_0 x0).2.2.2.1.2.2.1, (g6_0 x0).2.2.2.1.2.2.2.1, ()), (g6_0 x0).2.2.2.2.1, ((g6_0 x0).2.2.2.2.2.1.1, (g6_0 x0).2.2.2.2.2.1.2.1, (g6_0 x0).2.2.2.2.2.1.2.2.1, ()), (g6_0 x0).2.2.2.2.2.2.1, (g6_0 x0).2.2.2.2.2.2.2.1, (g6_0 x0).2.2.2.2.2.2.2.2.1, (g6_0 x0).2.2.2.2.2.2.2.2.2.1, (g6_0 x0).2.2.2.2.2.2.2.2.2.2.1, (g6_0 x0).2.2.2.2.2.2.2.2.2.2.2.1, ())) 1) = true
              · try simp only [if_pos b6] at h ⊢
                exact AtV.ret Tryz.func3 tabOk ext3Ok mixed false [] tys3 [false, false, false, false, false, false, false, false, true] (a1 s0 (a1 b0 (a1 s1 (a1 s2 (a1 s3 (a1 s4 (a1 trivial (a1 b1 (a1 b2 (a1 s5 (a1 trivial (a1 b3 (a1 s6 (a1 s7 (a1 s8 (a1 s9 (a1 s10 (a1 s11 (a1 b4 (a1 trivial (a1 b1 (a1 b2 (a1 s12 (a1 s13 (a1 s14 (a1 b5 (a1 b6 trivial))))))))))))))))))))))))))) (by kernel_rfl)
              · try simp only [if_neg b6] at h ⊢
                replace b6 := Bool.eq_false_iff.2 b6
                obtain ⟨s15, h⟩ := h
                obtain ⟨s16, h⟩ := h
                obtain ⟨s17, h⟩ := h
                exact AtV.ret Tryz.func3 tabOk ext3Ok mixed false [] tys3 [false, false, false, false, false, false, false, false, false, false, false, false, false] (a1 s0 (a1 b0 (a1 s1 (a1 s2 (a1 s3 (a1 s4 (a1 trivial (a1 b1 (a1 b2 (a1 s5 (a1 trivial (a1 b3 (a1 s6 (a1 s7 (a1 s8 (a1 s9 (a1 s10 (a1 s11 (a1 b4 (a1 trivial (a1 b1 (a1 b2 (a1 s12 (a1 s13 (a1 s14 (a1 b5 (a1 b6 (a1 s15 (a1 s16 (a1 trivial (a1 b1 (a1 b2 (a1 s17 (a1 b5 (a1 b6 trivial))))))))))))))))))))))))))))))))))) (by kernel_rfl)
def S3 : Am.Spec := { sig := sig3, pre := fun ⟨x0, _⟩ => P3 x0, res := fun ⟨x0, _⟩ => [⟨Ty.bool, g3_0 x0⟩], kds := kds3 }
theorem con3 : Contract Tryz.prog 3 S3 := contract_of Tryz.func3 hb3 (Nat.le_of_ble_eq_true (by kernel_rfl)) (fun ⟨x0, _⟩ h _ K q => at3 x0 h K q)
end
theorem szs_Section (xs : List TyB4) (l : Int) (h0 : 0 ≤ l) (hi : l ≤ 1048576) (hw : Wf (.sl (.cons (.int .i64) (.cons (.int .i64) .unit))) xs) : P45 xs l ∧ (¬ g45_0 xs l < 0 → g45_0 xs l ≤ l - xs.length) := by
  have hi' : InR .i64 l := by rw [i64_iff]; omega
  have hm : xs.length ≤ 9223372036854775807 := hw.1
  refine ⟨⟨by rw [i64_iff]; omega, trivial⟩, fun hg => (g45_le xs l h0 hi' hw hg).2⟩
theorem szs_Group (xs : List TyB1) (l : Int) (h0 : 0 ≤ l) (hi : l ≤ 1048576) (hw : Wf (.sl (.cons .str (.cons (.int .i64) (.cons (.int .i64) (.cons (.int .i64) .unit))))) xs) : P14 xs l ∧ (¬ g14_0 xs l < 0 → g14_0 xs l ≤ l - xs.length) := by
  have hi' : InR .i64 l := by rw [i64_iff]; omega
  exact ⟨h0, fun hg => g14_le xs l h0 hi' hw hg⟩
theorem szs_Check (xs : List TyB0) (l : Int) (h0 : 0 ≤ l) (hi : l ≤ 1048576) (hw : Wf (.sl (.cons .str (.cons (.int .i64) (.cons (.int .i64) (.cons (.int .i64) (.cons (.int .i64) .unit)))))) xs) : P15 xs l ∧ (¬ g15_0 xs l < 0 → g15_0 xs l ≤ l - xs.length) := by
  have hi' : InR .i64 l := by rw [i64_iff]; omega
  exact ⟨h0, fun hg => g15_le xs l h0 hi' hw hg⟩
theorem szs_Ride (xs : List TyB4) (l : Int) (h0 : 0 ≤ l) (hi : l ≤ 1048576) (hw : Wf (.sl (.cons (.int .i64) (.cons (.int .i64) .unit))) xs) : P16 xs l ∧ (¬ g16_0 xs l < 0 → g16_0 xs l ≤ l - xs.length) := by
  have hi' : InR .i64 l := by rw [i64_iff]; omega
  have hm : xs.length ≤ 9223372036854775807 := hw.1
  refine ⟨⟨by rw [i64_iff]; omega, trivial⟩, fun hg => (g16_le xs l h0 hi' hw hg).2⟩
theorem szs_Line (xs : List TyB2) (l : Int) (h0 : 0 ≤ l) (hi : l ≤ 1048576) (hw : Wf (.sl (.cons (.int .i64) (.cons (.int .i64) (.cons .str (.cons (.int .i64) .unit))))) xs) : P17 xs l ∧ (¬ g17_0 xs l < 0 → g17_0 xs l ≤ l - xs.length) := by
  have hi' : InR .i64 l := by rw [i64_iff]; omega
  exact ⟨h0, fun hg => g17_le xs l h0 hi' hw hg⟩
theorem szs_Track (x : List TyB4 × Int × Int × Unit) (l : Int) (h0 : 0 ≤ l) (hi : l ≤ 1048576) (hw : Wf (.sl (.cons (.int .i64) (.cons (.int .i64) .unit))) x.1) : P13 x l ∧ (¬ g13_0 x l < 0 → g13_0 x l ≤ l - x.1.length) := by
  obtain ⟨p, q⟩ := szs_Section x.1 l h0 hi hw
  unfold P13 g13_0
  by_cases c : g45_0 x.1 l < 0
  · simp only [c, p, decide_true, if_true, and_true, true_and]
    try exact ⟨trivial, fun h => absurd (show (-1 : Int) < 0 by decide) h⟩
    try exact fun h => absurd (show (-1 : Int) < 0 by decide) h
  · simp only [c, p, decide_false, Bool.false_eq_true, if_false, and_true, true_and]
    try exact ⟨trivial, fun h => q h⟩
    try exact fun h => q h
    try exact fun _ => q c
theorem sz_works (x : (TyA0)) (l : Int) (h0 : 0 ≤ l) (hi : l ≤ 1048576) (hw : Wf (.cons (.cons (.sl (.cons (.int .i64) (.cons (.int .i64) .unit))) (.cons (.int .i64) (.cons (.int .i64) .unit))) (.cons (.int .i64) (.cons (.cons (.int .i64) (.cons (.int .i64) .unit)) (.cons (.cons (.int .i64) (.cons (.int .i64) (.cons (.int .i64) (.cons (.int .i64) .unit)))) (.cons (.sl (.cons .str (.cons (.int .i64) (.cons (.int .i64) (.cons (.int .i64) .unit))))) (.cons (.cons (.int .i64) (.cons (.int .i64) (.cons (.int .i64) .unit))) (.cons (.sl (.cons .str (.cons (.int .i64) (.cons (.int .i64) (.cons (.int .i64) (.cons (.int .i64) .unit)))))) (.cons (.int .i64) (.cons (.int .i64) (.cons (.sl (.cons (.int .i64) (.cons (.int .i64) .unit))) (.cons (.int .i64) (.cons (.sl (.cons (.int .i64) (.cons (.int .i64) (.cons .str (.cons (.int .i64) .unit))))) .unit)))))))))))) x) : P4 x l ∧ (¬ g4_0 x l < 0 → 0 ≤ g4_0 x l ∧ g4_0 x l ≤ l ∧ (x.1.1.length : Int) ≤ l ∧ (x.2.2.2.2.1.length : Int) ≤ l ∧ (x.2.2.2.2.2.2.1.length : Int) ≤ l ∧ (x.2.2.2.2.2.2.2.2.2.1.length : Int) ≤ l ∧ (x.2.2.2.2.2.2.2.2.2.2.2.1.length : Int) ≤ l) := by
  unfold P4 g4_0
  obtain ⟨p0, q0⟩ := szs_Track x.1 l (by omega) (by omega) hw.1.1
  by_cases c0 : (g13_0 x.1 l) < 0
  · simp only [c0, p0, decide_true, decide_false, Bool.false_eq_true, if_true, if_false, and_true, true_and]
    try exact ⟨trivial, fun h => absurd (show (-1 : Int) < 0 by decide) h⟩
    try exact fun h => absurd (show (-1 : Int) < 0 by decide) h
  have r0 := q0 c0
  obtain ⟨p1, q1⟩ := szs_Group x.2.2.2.2.1 (g13_0 x.1 l) (by omega) (by omega) hw.2.2.2.2.1
  by_cases c1 : (g14_0 x.2.2.2.2.1 (g13_0 x.1 l)) < 0
  · simp only [c0, p0, c1, p1, decide_true, decide_false, Bool.false_eq_true, if_true, if_false, and_true, true_and]
    try exact ⟨trivial, fun h => absurd (show (-1 : Int) < 0 by decide) h⟩
    try exact fun h => absurd (show (-1 : Int) < 0 by decide) h
  have r1 := q1 c1
  obtain ⟨p2, q2⟩ := szs_Check x.2.2.2.2.2.2.1 (g14_0 x.2.2.2.2.1 (g13_0 x.1 l)) (by omega) (by omega) hw.2.2.2.2.2.2.1
  by_cases c2 : (g15_0 x.2.2.2.2.2.2.1 (g14_0 x.2.2.2.2.1 (g13_0 x.1 l))) < 0
  · simp only [c0, p0, c1, p1, c2, p2, decide_true, decide_false, Bool.false_eq_true, if_true, if_false, and_true, true_and]
    try exact ⟨trivial, fun h => absurd (show (-1 : Int) < 0 by decide) h⟩
    try exact fun h => absurd (show (-1 : Int) < 0 by decide) h
  have r2 := q2 c2
  obtain ⟨p3, q3⟩ := szs_Ride x.2.2.2.2.2.2.2.2.2.1 (g15_0 x.2.2.2.2.2.2.1 (g14_0 x.2.2.2.2.1 (g13_0 x.1 l))) (by omega) (by omega) hw.2.2.2.2.2.2.2.2.2.1
  by_cases c3 : (g16_0 x.2.2.2.2.2.2.2.2.2.1 (g15_0 x.2.2.2.2.2.2.1 (g14_0 x.2.2.2.2.1 (g13_0 x.1 l)))) < 0
  · simp only [c0, p0, c1, p1, c2, p2, c3, p3, decide_true, decide_false, Bool.false_eq_true, if_true, if_false, and_true, true_and]
    try exact ⟨trivial, fun h => absurd (show (-1 : Int) < 0 by decide) h⟩
    try exact fun h => absurd (show (-1 : Int) < 0 by decide) h
  have r3 := q3 c3
  obtain ⟨p4, q4⟩ := szs_Line x.2.2.2.2.2.2.2.2.2.2.2.1 (g16_0 x.2.2.2.2.2.2.2.2.2.1 (g15_0 x.2.2.2.2.2.2.1 (g14_0 x.2.2.2.2.1 (g13_0 x.1 l)))) (by omega) (by omega) hw.2.2.2.2.2.2.2.2.2.2.2.1
  by_cases c4 : (g17_0 x.2.2.2.2.2.2.2.2.2.2.2.1 (g16_0 x.2.2.2.2.2.2.2.2.2.1 (g15_0 x.2.2.2.2.2.2.1 (g14_0 x.2.2.2.2.1 (g13_0 x.1 l))))) < 0
  · simp only [c0, p0, c1, p1, c2, p2, c3, p3, c4, p4, decide_true, decide_false, Bool.false_eq_true, if_true, if_false, and_true, true_and]
    try exact ⟨trivial, fun h => absurd (show (-1 : Int) < 0 by decide) h⟩
    try exact fun h => absurd (show (-1 : Int) < 0 by decide) h
  have r4 := q4 c4
  simp only [c0, p0, c1, p1, c2, p2, c3, p3, c4, p4, decide_false, Bool.false_eq_true, if_false, and_true, true_and]
  intro _
  omega
theorem to_works (x : (TyA0)) (h : (x.1.1.length : Int) ≤ 1048576 ∧ (x.2.2.2.2.1.length : Int) ≤ 1048576 ∧ (x.2.2.2.2.2.2.1.length : Int) ≤ 1048576 ∧ (x.2.2.2.2.2.2.2.2.2.1.length : Int) ≤ 1048576 ∧ (x.2.2.2.2.2.2.2.2.2.2.2.1.length : Int) ≤ 1048576) : P6 x ∧ g6_0 x = x := by
  obtain ⟨l0, l1, l2, l3, l4⟩ := h
  refine ⟨?_, rfl⟩
  unfold P6 P20 P62 P23 P25 P26 P27
  refine ⟨⟨by omega, trivial⟩, by omega, by omega, by omega, by omega, trivial⟩
theorem eq_works (x : (TyA0)) : g9_0 x x = true := by
  simp [g9_0, g31_0, g32_0, g33_0, g35_0, g73_0, g34_0, g36_0, g37_0, g38_0]
theorem name_eq (s : ByteArray) : g128_0 s = g106_0 s := by
  have hs : ∀ c, g124_0 c = (decide (97 ≤ c) && decide (c ≤ 122)) := fun c => by
    unfold g124_0
    by_cases h1 : (97 : Int) ≤ c <;> simp [h1]
  have hd : ∀ c, g125_0 c = (decide (48 ≤ c) && decide (c ≤ 57)) := fun c => by
    unfold g125_0
    by_cases h1 : (48 : Int) ≤ c <;> simp [h1]
  unfold g128_0 g106_0
  have hl := bytesOf_length s
  by_cases h1 : 1 ≤ s.size
  · cases hb : bytesOf s with
    | nil => rw [hb] at hl; simp at hl; omega
    | cons c r =>
      have hr : allI ok128 1 r = r.all fun b => g124_0 b || g125_0 b := by
        rw [← allI_plain (fun b => g124_0 b || g125_0 b) r 1]
        refine allI_congr r 1 fun j x hj => ?_
        have : (j == 0) = false := by simp; omega
        simp only [ok128, this, hs, hd, Bool.not_false, Bool.true_and]
      have h0 : ok128 0 c = g124_0 c := by simp [ok128, hs]
      simp only [allI, hr, h0, List.all_cons, List.getD_cons_zero]
      cases g124_0 c <;> simp
  · simp [h1]
theorem bl_asym {x y : List UInt8} (h : Op.bytesLess x y = true) : Op.bytesLess y x = false := by
  cases h2 : Op.bytesLess y x with
  | false => rfl
  | true =>
    have := bl_trans x y x h h2
    rw [bl_irrefl] at this
    cases this
theorem le_not (a b : ByteArray) : (!(Op.bytesLess (ByteArray.toList a) (ByteArray.toList b) || ByteArray.toList a == ByteArray.toList b)) = Op.bytesLess (ByteArray.toList b) (ByteArray.toList a) := by
  generalize ByteArray.toList a = x
  generalize ByteArray.toList b = y
  cases h1 : Op.bytesLess x y with
  | true => rw [bl_asym h1]; rfl
  | false =>
    cases h2 : (x == y) with
    | true =>
      have : x = y := by simpa using h2
      subst this
      rw [bl_irrefl]; rfl
    | false =>
      cases h3 : Op.bytesLess y x with
      | true => rfl
      | false =>
        have := bl_tri x y h1 h3
        subst this
        simp at h2
theorem allI_mem {α : Type} {p : Nat → α → Bool} : ∀ (l : List α) (i : Nat), allI p i l = true → ∀ x ∈ l, ∃ j, p j x = true
  | [], _, _, x, hx => by cases hx
  | y :: r, i, h, x, hx => by
    simp only [allI, Bool.and_eq_true] at h
    rcases List.mem_cons.1 hx with rfl | hx
    · exact ⟨i, h.1⟩
    · exact allI_mem r (i + 1) h.2 x hx
theorem one_Group (x : TyB1) : g113_0 x = g81_0 x := by
  unfold g113_0 g81_0
  rw [name_eq]
  rfl
theorem list_Group (xs : List TyB1) : g95_0 xs = g53_0 xs := by
  unfold g95_0 g53_0
  congr 1
  refine allI_congr xs 0 fun j y _ => ?_
  unfold ok95 ok53
  rw [one_Group, le_not]
theorem one_Check (x : TyB0) : g129_0 x = g107_0 x := by
  unfold g129_0 g107_0
  rw [name_eq]
  rfl
theorem list_Check (xs : List TyB0) : g115_0 xs = g82_0 xs := by
  unfold g115_0 g82_0
  congr 1
  refine allI_congr xs 0 fun j y _ => ?_
  unfold ok115 ok82
  rw [one_Check, le_not]
theorem word_eq (w : ByteArray) : g141_0 w = g127_0 w := by
  have hb : ∀ b : Int, (!g150_0 b) = ok127 b := fun b => by
    unfold g150_0 ok127 g125_0
    by_cases h1 : b < 97 <;> by_cases h2 : b > 122 <;> by_cases h3 : b < 48 <;> by_cases h4 : b > 57 <;>
      first
        | omega
        | (have e1 : (97 ≤ b) ↔ ¬ b < 97 := by omega
           have e2 : (b ≤ 122) ↔ ¬ b > 122 := by omega
           have e3 : (b ≥ 48) ↔ ¬ b < 48 := by omega
           have e4 : (b ≤ 57) ↔ ¬ b > 57 := by omega
           simp [e1, e2, e3, e4, h1, h2, h3, h4])
  have ha : (!g149c150_0 (bytesOf w)) = (bytesOf w).all ok127 := by
    unfold g149c150_0
    rw [any156c150]
    induction bytesOf w with
    | nil => rfl
    | cons b r ih => rw [List.any_cons, List.all_cons, Bool.not_or, ih, hb]
  unfold g141_0 g127_0
  rw [ha]
  by_cases h : w = ByteArray.mk #[]
  · subst h
    have h1 : (ByteArray.toList (ByteArray.mk #[]) == ByteArray.toList (ByteArray.mk #[])) = true := beq_self_eq_true _
    have h2 : decide (((ByteArray.mk #[]).size : Int) > 0) = false := by decide
    rw [h1, h2, Bool.and_false]
    rfl
  · have h1 : (ByteArray.toList w == ByteArray.toList (ByteArray.mk #[])) = false := by
      rw [Bool.eq_false_iff]; exact fun hh => h ((bytes_eq _ _).1 hh)
    have h2 : decide ((w.size : Int) > 0) = true := by
      refine decide_eq_true ?_
      rcases Nat.lt_or_ge 0 w.size with h3 | h3
      · omega
      · exact absurd (bytesOf_inj (s := w) (t := ByteArray.mk #[]) (List.eq_nil_of_length_eq_zero (by rw [bytesOf_length]; omega))) h
    rw [h1, h2, Bool.and_true]
    rfl
theorem text_eq (s : ByteArray) : g132_0 s = g109_0 s := by
  have e : g139_0 s (ByteArray.mk #[32]) = g126_0 s 32 := splitB_one 32 s
  have hw : ∀ w, (!g140_0 w) = g127_0 w := fun w => by
    unfold g140_0
    rw [Bool.not_not, word_eq]
  have ha : ∀ l : List ByteArray, (!g138c140_0 l) = l.all g127_0 := fun l => by
    unfold g138c140_0
    rw [any147c140]
    induction l with
    | nil => rfl
    | cons b r ih => rw [List.any_cons, List.all_cons, Bool.not_or, ih, hw]
  unfold g132_0 g109_0
  rw [e, ha]
  by_cases h0 : s.size = 0
  · have hn : s.data.toList = [] := List.eq_nil_of_length_eq_zero h0
    have es : g126_0 s 32 = [⟨⟨[]⟩⟩] := by
      show bss (splitC (32 : UInt8) s.data.toList) = _
      rw [hn]; rfl
    rw [es]
    have ew : g127_0 ⟨⟨[]⟩⟩ = false := rfl
    simp [h0, ew]
  · by_cases h1 : (s.size : Int) ≤ 40
    · have h2 : ¬ (s.size : Int) > 40 := by omega
      have h3 : (((s.size : Nat) : Int) == 0) = false := by rw [beq_eq_false_iff_ne]; omega
      rw [decide_eq_true h1, decide_eq_false h2, h3]
      rfl
    · have h2 : (s.size : Int) > 40 := by omega
      rw [decide_eq_false h1, decide_eq_true h2]
      simp
theorem one_Line (x : Int × Int × ByteArray × Int × Unit) : g121_0 x = g88_0 x := by
  unfold g121_0 g88_0
  rw [text_eq]
  rfl
theorem list_Line (xs : List TyB2) : g100_0 xs = g57_0 xs := by
  unfold g100_0 g57_0
  congr 1
  refine allI_congr xs 0 fun j y _ => ?_
  unfold ok100 ok57
  rw [one_Line]
  rfl
theorem track_eq (x : List TyB4 × Int × Int × Unit) : g91_0 x = g49_0 x := rfl
theorem brake_eq (x : Int × Int × Unit) : g93_0 x = g51_0 x := rfl
theorem profile_eq (x : Int × Int × Int × Int × Unit) : g94_0 x = g52_0 x := rfl
theorem room_eq (x : Int × Int × Int × Unit) : g96_0 x = g54_0 x := rfl
theorem list_Ride (x : List TyB4) : g98_0 x = g86_0 x := rfl
theorem insp_eq (xs : List TyB0) (d r : Int) : g97_0 xs d r 0 = g55_0 xs d r := by
  have h0 : g116_0 0 = true := rfl
  have ha : g118c119_0 xs d r = !xs.all (q55 d r) := by
    unfold g118c119_0
    rw [any130c119]
    induction xs with
    | nil => rfl
    | cons x l ih =>
      have hx : g119_0 x d r = !q55 d r x := by
        unfold g119_0 q55 g85_0
        by_cases h1 : x.2.2.2.1 > d
        · have h1' : ¬ x.2.2.2.1 ≤ d := by omega
          simp [h1, h1']
        · have h1' : x.2.2.2.1 ≤ d := by omega
          by_cases h2 : x.2.2.2.2.1 > r
          · have h2' : ¬ x.2.2.2.2.1 ≤ r := by omega
            simp [h1, h1', h2, h2']
          · have h2' : x.2.2.2.2.1 ≤ r := by omega
            simp [h1, h1', h2, h2']
      rw [List.any_cons, List.all_cons, Bool.not_and, ih, hx]
  unfold g97_0 g55_0
  rw [ha, list_Check, h0]
  have e1 : g117_0 d = g83_0 d := rfl
  have e2 : g116_0 r = g84_0 r := rfl
  rw [e1, e2]
  cases g82_0 xs <;> cases g83_0 d <;> cases g84_0 r <;> cases xs.all (q55 d r) <;> rfl
theorem ask_ride (xs : List TyB4) (t : Int) : (g56_0 xs t == 0) = (g86_0 xs && g99_0 t) := by
  unfold g56_0
  have e : g99_0 t = g87_0 t := rfl
  rw [e]
  cases g86_0 xs <;> cases g87_0 t <;> rfl
theorem valid_works (x : (TyA0)) : g67_0 x = g18_0 x := by
  unfold g67_0 g18_0
  rw [track_eq, brake_eq, profile_eq, list_Group, room_eq, insp_eq, list_Ride, list_Line, ask_ride]
  have e : g92_0 x.2.1 = g50_0 x.2.1 := rfl
  rw [e]
  generalize g55_0 x.2.2.2.2.2.2.1 x.2.2.2.2.2.2.2.1 x.2.2.2.2.2.2.2.2.1 = n
  cases g49_0 x.1 <;> cases g50_0 x.2.1 <;> cases g51_0 x.2.2.1 <;> simp
  cases g52_0 x.2.2.2.1 <;> cases g53_0 x.2.2.2.2.1 <;> cases g54_0 x.2.2.2.2.2.1 <;> simp
  by_cases hn : n = 0
  · simp only [hn, if_true]
    simp [Bool.and_assoc]
  · simp [hn]
theorem mk_Section (xs : List TyB4) (k : Int) (h0 : 0 ≤ k) (h1 : k ≤ 100000000) (hl : xs.length ≤ 1048576) : P78 xs k ∧ (u78_0 xs k).length = xs.length ∧ 0 ≤ g78_0 xs k ∧ g78_0 xs k ≤ k + 6000000 := by
  refine ⟨⟨by omega, by omega⟩, by rw [u78_0, M78_len], ?_⟩
  unfold g78_0
  omega
theorem mk_Group (xs : List TyB1) (k : Int) (h0 : 0 ≤ k) (h1 : k ≤ 100000000) (hl : xs.length ≤ 1048576) : P40 xs k ∧ (u40_0 xs k).length = xs.length ∧ 0 ≤ g40_0 xs k ∧ g40_0 xs k ≤ k + 6000000 := by
  refine ⟨⟨by omega, by omega⟩, by rw [u40_0, M40_len], ?_⟩
  unfold g40_0
  omega
theorem mk_Check (xs : List TyB0) (k : Int) (h0 : 0 ≤ k) (h1 : k ≤ 100000000) (hl : xs.length ≤ 1048576) : P41 xs k ∧ (u41_0 xs k).length = xs.length ∧ 0 ≤ g41_0 xs k ∧ g41_0 xs k ≤ k + 6000000 := by
  refine ⟨⟨by omega, by omega⟩, by rw [u41_0, M41_len], ?_⟩
  unfold g41_0
  omega
theorem mk_Ride (xs : List TyB4) (k : Int) (h0 : 0 ≤ k) (h1 : k ≤ 100000000) (hl : xs.length ≤ 1048576) : P42 xs k ∧ (u42_0 xs k).length = xs.length ∧ 0 ≤ g42_0 xs k ∧ g42_0 xs k ≤ k + 6000000 := by
  refine ⟨⟨by omega, by omega⟩, by rw [u42_0, M42_len], ?_⟩
  unfold g42_0
  omega
theorem mk_Line (xs : List TyB2) (k : Int) (h0 : 0 ≤ k) (h1 : k ≤ 100000000) (hl : xs.length ≤ 1048576) : P43 xs k ∧ (u43_0 xs k).length = xs.length ∧ 0 ≤ g43_0 xs k ∧ g43_0 xs k ≤ k + 6000000 := by
  refine ⟨⟨by omega, by omega⟩, by rw [u43_0, M43_len], ?_⟩
  unfold g43_0
  omega
theorem marked_works (x : (TyA0)) (h : (x.1.1.length : Int) ≤ 1048576 ∧ (x.2.2.2.2.1.length : Int) ≤ 1048576 ∧ (x.2.2.2.2.2.2.1.length : Int) ≤ 1048576 ∧ (x.2.2.2.2.2.2.2.2.2.1.length : Int) ≤ 1048576 ∧ (x.2.2.2.2.2.2.2.2.2.2.2.1.length : Int) ≤ 1048576) : P10 x 1 ∧ ¬ g10_0 x 1 < 0 ∧ ((u10_0 x 1).1.1.length = x.1.1.length ∧ (u10_0 x 1).2.2.2.2.1.length = x.2.2.2.2.1.length ∧ (u10_0 x 1).2.2.2.2.2.2.1.length = x.2.2.2.2.2.2.1.length ∧ (u10_0 x 1).2.2.2.2.2.2.2.2.2.1.length = x.2.2.2.2.2.2.2.2.2.1.length ∧ (u10_0 x 1).2.2.2.2.2.2.2.2.2.2.2.1.length = x.2.2.2.2.2.2.2.2.2.2.2.1.length) := by
  obtain ⟨l0, l1, l2, l3, l4⟩ := h
  unfold P10 g10_0 P39 g39_0
  obtain ⟨p0, u0, a0, b0⟩ := mk_Section x.1.1 1 (by omega) (by omega) (by omega)
  obtain ⟨p1, u1, a1, b1⟩ := mk_Group x.2.2.2.2.1 (g78_0 x.1.1 1) (by omega) (by omega) (by omega)
  obtain ⟨p2, u2, a2, b2⟩ := mk_Check x.2.2.2.2.2.2.1 (g40_0 x.2.2.2.2.1 (g78_0 x.1.1 1)) (by omega) (by omega) (by omega)
  obtain ⟨p3, u3, a3, b3⟩ := mk_Ride x.2.2.2.2.2.2.2.2.2.1 (g41_0 x.2.2.2.2.2.2.1 (g40_0 x.2.2.2.2.1 (g78_0 x.1.1 1))) (by omega) (by omega) (by omega)
  obtain ⟨p4, u4, a4, b4⟩ := mk_Line x.2.2.2.2.2.2.2.2.2.2.2.1 (g42_0 x.2.2.2.2.2.2.2.2.2.1 (g41_0 x.2.2.2.2.2.2.1 (g40_0 x.2.2.2.2.1 (g78_0 x.1.1 1)))) (by omega) (by omega) (by omega)
  exact ⟨⟨⟨p0, u0, trivial⟩, u0, p1, u1, p2, u2, p3, u3, p4, u4, trivial⟩, Int.not_lt.2 a4, u0, u1, u2, u3, u4⟩
theorem marked_problem (xs : List TyB3) (h : xs.length ≤ 1048576) : P11 xs 1 ∧ (u11_0 xs 1).length = xs.length ∧ ¬ g11_0 xs 1 < 0 := by
  have hl : (u11_0 xs 1).length = xs.length := by rw [u11_0, M11_len]
  refine ⟨⟨by omega, by omega⟩, hl, ?_⟩
  unfold g11_0
  omega
theorem held_problem (xs : List TyB3) (h : xs.length ≤ 1048576) : P12 (u11_0 xs 1) 1 ∧ g12_0 (u11_0 xs 1) 1 = g11_0 xs 1 := by
  have hl : (u11_0 xs 1).length = xs.length := by rw [u11_0, M11_len]
  refine ⟨⟨⟨by omega, by rw [hl]; omega⟩, fun i hi => ?_⟩, ?_⟩
  · rw [hl] at hi
    rw [getD_lt _ _ _ (by rw [hl]; exact hi)]
    simp [u11_0, M11]
  · unfold g12_0 g11_0
    rw [hl]
theorem notT {b y : Bool} (h : (if (!b) = true then false else y) = true) : b = true ∧ y = true := by cases b <;> simp_all
theorem neT {n : Int} {y : Bool} (h : (if (n != 0) = true then false else y) = true) : n = 0 ∧ y = true := by
  by_cases hn : n = 0
  · subst hn; exact ⟨rfl, h⟩
  · rw [if_pos (by simpa using hn)] at h; cases h
theorem eqT {n : Int} {y : Bool} (h : (if (n == 0) = true then y else false) = true) : n = 0 ∧ y = true := by
  by_cases hn : n = 0
  · subst hn; exact ⟨rfl, h⟩
  · rw [if_neg (by simpa using hn)] at h; cases h
theorem works_ok (x : (TyA0)) (h : g18_0 x = true) : g49_0 x.1 = true ∧ g50_0 x.2.1 = true ∧ g51_0 x.2.2.1 = true ∧ g52_0 x.2.2.2.1 = true ∧ g53_0 x.2.2.2.2.1 = true ∧ g54_0 x.2.2.2.2.2.1 = true ∧ g55_0 x.2.2.2.2.2.2.1 x.2.2.2.2.2.2.2.1 x.2.2.2.2.2.2.2.2.1 = 0 ∧ g56_0 x.2.2.2.2.2.2.2.2.2.1 x.2.2.2.2.2.2.2.2.2.2.1 = 0 ∧ g57_0 x.2.2.2.2.2.2.2.2.2.2.2.1 = true := by
  unfold g18_0 at h
  obtain ⟨h1, h⟩ := notT h
  obtain ⟨h2, h⟩ := notT h
  obtain ⟨h3, h⟩ := notT h
  obtain ⟨h4, h⟩ := notT h
  obtain ⟨h5, h⟩ := notT h
  obtain ⟨h6, h⟩ := notT h
  obtain ⟨h7, h⟩ := neT h
  obtain ⟨h8, h⟩ := eqT h
  exact ⟨h1, h2, h3, h4, h5, h6, h7, h8, h⟩
theorem in_range' (n a b : Int) (h : g79_0 n a b = true) : a ≤ n ∧ n ≤ b := by
  unfold g79_0 at h
  split at h
  · rename_i h1
    exact ⟨by simpa using h1, by simpa using h⟩
  · cases h
theorem thenT {b y : Bool} (h : (if b = true then y else false) = true) : b = true ∧ y = true := by cases b <;> simp_all
theorem group_range (x : ByteArray × Int × Int × Int × Unit) (h : g81_0 x = true) : 1 ≤ x.2.1 ∧ x.2.1 ≤ 200 ∧ 0 ≤ x.2.2.1 ∧ x.2.2.1 ≤ 40 ∧ 0 ≤ x.2.2.2.1 ∧ x.2.2.2.1 ≤ 100000 := by
  unfold g81_0 at h
  obtain ⟨_, h⟩ := thenT h
  obtain ⟨h1, h⟩ := thenT h
  obtain ⟨h2, h3⟩ := thenT h
  have a1 := in_range' _ _ _ h1
  have a2 := in_range' _ _ _ h2
  have a3 := in_range' _ _ _ h3
  omega
theorem ride_range (x : Int × Int × Unit) (h : g108_0 x = true) : 0 ≤ x.1 ∧ x.1 ≤ 1440 ∧ 0 ≤ x.2.1 ∧ x.2.1 ≤ 1440 := by
  unfold g108_0 g87_0 at h
  obtain ⟨h1, h⟩ := thenT h
  obtain ⟨h2, h⟩ := thenT h
  have a1 := in_range' _ _ _ h1
  have a2 := in_range' _ _ _ h2
  omega
theorem check_range (x : TyB0) (h : g107_0 x = true) : 1 ≤ x.2.1 ∧ x.2.1 ≤ 100000 ∧ 1 ≤ x.2.2.1 ∧ x.2.2.1 ≤ 1000000 ∧ 0 ≤ x.2.2.2.1 ∧ x.2.2.2.1 ≤ 100000 ∧ 0 ≤ x.2.2.2.2.1 ∧ x.2.2.2.2.1 ≤ 1000000 := by
  unfold g107_0 g83_0 g84_0 at h
  obtain ⟨_, h⟩ := thenT h
  obtain ⟨h1, h⟩ := thenT h
  obtain ⟨h2, h⟩ := thenT h
  obtain ⟨h3, h4⟩ := thenT h
  have a1 := in_range' _ _ _ h1
  have a2 := in_range' _ _ _ h2
  have a3 := in_range' _ _ _ h3
  have a4 := in_range' _ _ _ h4
  omega
theorem groups_ok (l : List TyB1) (h : g53_0 l = true) : (∀ x ∈ l, g81_0 x = true) ∧ l.length ≤ 12 := by
  unfold g53_0 at h
  simp only [Bool.and_eq_true, decide_eq_true_eq] at h
  refine ⟨fun x hx => ?_, by omega⟩
  obtain ⟨j, hj⟩ := allI_mem _ _ h.1 x hx
  unfold ok53 at hj
  simp only [Bool.and_eq_true] at hj
  exact hj.1
theorem checks_ok (l : List TyB0) (h : g82_0 l = true) : (∀ x ∈ l, g107_0 x = true) ∧ l.length ≤ 16 := by
  unfold g82_0 at h
  simp only [Bool.and_eq_true, decide_eq_true_eq] at h
  refine ⟨fun x hx => ?_, by omega⟩
  obtain ⟨j, hj⟩ := allI_mem _ _ h.1 x hx
  unfold ok82 at hj
  simp only [Bool.and_eq_true] at hj
  exact hj.1
theorem rides_ok (l : List TyB4) (h : g86_0 l = true) : (∀ x ∈ l, g108_0 x = true) ∧ l.length ≤ 24 := by
  unfold g86_0 at h
  simp only [Bool.and_eq_true, decide_eq_true_eq] at h
  refine ⟨fun x hx => ?_, by omega⟩
  obtain ⟨j, hj⟩ := allI_mem _ _ h.1 x hx
  unfold ok86 one86 at hj
  simp only [Bool.and_eq_true] at hj
  exact hj.1
theorem ask_check {l : List TyB0} {d r : Int} (h : g55_0 l d r = 0) : g82_0 l = true ∧ 0 ≤ d ∧ d ≤ 100000 ∧ 0 ≤ r ∧ r ≤ 1000000 := by
  unfold g55_0 at h
  by_cases h1 : g82_0 l = true
  case neg => rw [if_neg h1] at h; cases h
  by_cases h2 : g83_0 d = true
  case neg => rw [if_pos h1, if_neg h2] at h; cases h
  by_cases h3 : g84_0 r = true
  case neg => rw [if_pos h1, if_pos h2, if_neg h3] at h; cases h
  have a1 := in_range' _ _ _ (show g79_0 d 0 100000 = true from h2)
  have a2 := in_range' _ _ _ (show g79_0 r 0 1000000 = true from h3)
  exact ⟨h1, a1.1, a1.2, a2.1, a2.2⟩
theorem ask_rides {l : List TyB4} {t : Int} (h : g56_0 l t = 0) : g86_0 l = true ∧ g87_0 t = true ∧ 0 ≤ t ∧ t ≤ 1440 := by
  unfold g56_0 at h
  by_cases h1 : g86_0 l = true
  case neg => rw [if_pos (by rw [Bool.eq_false_iff.2 h1]; rfl)] at h; cases h
  by_cases h2 : g87_0 t = true
  case neg => rw [if_neg (by rw [h1]; simp), if_pos (by rw [Bool.eq_false_iff.2 h2]; rfl)] at h; cases h
  have a1 := in_range' _ _ _ (show g79_0 t 0 1440 = true from h2)
  exact ⟨h1, h2, a1.1, a1.2⟩
theorem slack_eq (t : Int) : ∀ l : List TyB4, sk72 t l = sk19 t l
  | [] => rfl
  | [_] => rfl
  | x :: y :: r => by
    have ih := slack_eq t (y :: r)
    have e : g104_0 x = x.1 + x.2.1 := rfl
    simp only [sk72, sk19, ih, e]
    congr 1
    omega
theorem over_eq (l : List TyB0) (d r : Int) : ∀ i j, bl (fC29 d r) i l = bl fC19 j (g61_0 l d r) := by
  induction l with
  | nil => intro i j; rfl
  | cons x s ih =>
    intro i j
    have e : g71_0 x d r = g89_0 x d r := rfl
    by_cases h : g89_0 x d r = true
    · have e1 : g61_0 (x :: s) d r = x.1 :: g61_0 s d r := by
        unfold g61_0; rw [List.filter_cons, if_pos h]; rfl
      rw [e1]
      simp only [bl, ih (i + 1) (j + 1)]
      unfold fC29
      rw [e, if_pos h]
      rfl
    · have e1 : g61_0 (x :: s) d r = g61_0 s d r := by
        unfold g61_0; rw [List.filter_cons, if_neg h]
      rw [e1]
      simp only [bl, ih (i + 1) j]
      unfold fC29
      rw [e, if_neg h]
      rfl
theorem over_len (l : List TyB0) (d r : Int) : (g61_0 l d r).length ≤ l.length := by
  unfold g61_0
  rw [List.length_map]
  exact List.length_filter_le _ _
theorem part_service (x : (TyA0)) (h : g18_0 x = true) : P29 x ∧ P19 x ∧ g29_0 x = g19_0 x ∧ (g19_0 x).length ≤ 60 := by
  obtain ⟨_, _, _, _, h1, _, h2, h3, _⟩ := works_ok x h
  obtain ⟨g1, g2⟩ := groups_ok _ h1
  obtain ⟨h2, d1, d2, d3, d4⟩ := ask_check h2
  obtain ⟨c1, c2⟩ := checks_ok _ h2
  obtain ⟨h3, t0, t1, t2⟩ := ask_rides h3
  obtain ⟨r1, r2⟩ := rides_ok _ h3
  have es : g72_0 x.2.2.2.2.2.2.2.2.2.1 x.2.2.2.2.2.2.2.2.2.2.1 = sk19 x.2.2.2.2.2.2.2.2.2.2.1 x.2.2.2.2.2.2.2.2.2.1 := by
    unfold g72_0 g103_0
    have e1 : g99_0 x.2.2.2.2.2.2.2.2.2.2.1 = true := t0
    have e2 : g98_0 x.2.2.2.2.2.2.2.2.2.1 = true := h3
    rw [e1, e2, if_neg (by decide), slack_eq]
  have hl := sk19_len x.2.2.2.2.2.2.2.2.2.2.1 x.2.2.2.2.2.2.2.2.2.1
  have ho := over_len x.2.2.2.2.2.2.1 x.2.2.2.2.2.2.2.1 x.2.2.2.2.2.2.2.2.1
  have q1 : ∀ y ∈ x.2.2.2.2.1, P69 y := fun y hy => by
    have := group_range y (g1 y hy)
    unfold P69
    simp only [i64_iff, and_true]
    omega
  have q2 : ∀ y ∈ x.2.2.2.2.2.2.1, P71 y x.2.2.2.2.2.2.2.1 x.2.2.2.2.2.2.2.2.1 := fun y hy => by
    have := check_range y (c1 y hy)
    unfold P71 P102
    simp only [i64_iff, and_true]
    omega
  have q3 : P72 x.2.2.2.2.2.2.2.2.2.1 x.2.2.2.2.2.2.2.2.2.2.1 := .inr ⟨by omega, by omega, by omega, fun y hy => by
    have := ride_range y (r1 y hy)
    have e : g104_0 y = y.1 + y.2.1 := rfl
    unfold ok72 P104
    rw [e]
    simp only [i64_iff, and_true]
    omega⟩
  have q4 : ∀ y ∈ x.2.2.2.2.1, P60 y ∧ InR .i64 (g60_0 y) ∧ InR .i64 y.2.1 ∧ InR .i64 y.2.2.1 := fun y hy => by
    have := group_range y (g1 y hy)
    unfold P60 g60_0
    simp only [i64_iff, and_true]
    omega
  have l1 : ∀ i y, (fG19 x.2.2.2.2.2.1 i y).length ≤ 1 := fun i y => by unfold fG19; split <;> simp
  have l2 : ∀ i y, (fC19 i y).length ≤ 1 := fun i y => by simp [fC19]
  have l3 : ∀ i y, (fS19 i y).length ≤ 1 := fun i y => by unfold fS19; split <;> simp
  have b1 := bl_len _ l1 x.2.2.2.2.1 0
  have b2 := bl_len _ l2 (g61_0 x.2.2.2.2.2.2.1 x.2.2.2.2.2.2.2.1 x.2.2.2.2.2.2.2.2.1) 0
  have b3 := bl_len _ l3 (sk19 x.2.2.2.2.2.2.2.2.2.2.1 x.2.2.2.2.2.2.2.2.2.1) 0
  refine ⟨⟨by omega, by omega, by rw [es]; omega, q1, q2, q3⟩, ⟨by omega, by omega, by omega, q4, ⟨by omega, q2⟩, by omega, by omega, fun y hy => by have := ride_range y (r1 y hy); omega⟩, ?_, ?_⟩
  · unfold g29_0 g19_0
    rw [es, over_eq _ _ _ 0 0]
    congr 2
    refine bl_congr _ _ fun j y _ => ?_
    unfold fG29 fG19 fit58 g68_0 g60_0
    have e1 : 75 * y.2.1 + 15 * y.2.2.1 + y.2.2.2.1 = y.2.1 * 75 + y.2.2.1 * 15 + y.2.2.2.1 := by omega
    rw [e1]
    rfl
  · unfold g19_0
    simp only [List.length_append]
    omega
theorem rep_eq (x : (TyA0)) : g7_0 x = g5_0 x ∧ g7_1 x = g5_1 x ∧ P7 x ∧ P5 x ∧ (g5_0 x).length ≤ 60 := by
  unfold g7_0 g7_1 g5_0 g5_1 P7 P5 g28c29_0 g28c29_1 P28c29
  rw [valid_works]
  by_cases h : g18_0 x = true
  · obtain ⟨p1, p2, e, hl⟩ := part_service x h
    have hf : ¬ (!g18_0 x) = true := by rw [h]; simp
    simp only [if_neg hf, p1, p2, e, true_and, and_true]
    omega
  · have hf : (!g18_0 x) = true := by rw [Bool.eq_false_iff.2 h]; rfl
    simp only [if_pos hf, true_and, and_true, List.length_nil]
    omega
theorem law3 (x : (TyA0)) (hx : Wf (.cons (.cons (.sl (.cons (.int .i64) (.cons (.int .i64) .unit))) (.cons (.int .i64) (.cons (.int .i64) .unit))) (.cons (.int .i64) (.cons (.cons (.int .i64) (.cons (.int .i64) .unit)) (.cons (.cons (.int .i64) (.cons (.int .i64) (.cons (.int .i64) (.cons (.int .i64) .unit)))) (.cons (.sl (.cons .str (.cons (.int .i64) (.cons (.int .i64) (.cons (.int .i64) .unit))))) (.cons (.cons (.int .i64) (.cons (.int .i64) (.cons (.int .i64) .unit))) (.cons (.sl (.cons .str (.cons (.int .i64) (.cons (.int .i64) (.cons (.int .i64) (.cons (.int .i64) .unit)))))) (.cons (.int .i64) (.cons (.int .i64) (.cons (.sl (.cons (.int .i64) (.cons (.int .i64) .unit))) (.cons (.int .i64) (.cons (.sl (.cons (.int .i64) (.cons (.int .i64) (.cons .str (.cons (.int .i64) .unit))))) .unit)))))))))))) x) : P3 x ∧ g3_0 x = true := by
  obtain ⟨p1, q1⟩ := sz_works x 1048576 (by decide) (by decide) hx
  by_cases c1 : g4_0 x 1048576 < 0
  · unfold P3 g3_0
    simp only [c1, p1, decide_true, if_true, and_self]
  obtain ⟨r1, s1, t1⟩ := q1 c1
  obtain ⟨a1, e1⟩ := to_works x (by omega)
  obtain ⟨m1, m2, m3⟩ := marked_works x (by omega)
  have f1 := eq_works x
  obtain ⟨k1, k2, p2, p3, k3⟩ := rep_eq x
  obtain ⟨c2, c3, c4⟩ := marked_problem (g5_0 x) (by omega)
  obtain ⟨d1, d2⟩ := held_problem (g5_0 x) (by omega)
  have ep : ∀ l, g8_0 l l = true := fun l => decide_eq_true rfl
  unfold P3 g3_0
  clear q1 hx r1 s1 t1
  simp only [e1, c1, p1, a1, f1, k1, k2, p2, p3, m1, m2, c2, c3, c4, d1, d2, ep, decide_true, decide_false, Bool.false_eq_true, if_false, true_and, and_true, Bool.not_true, bne_self_eq_false, beq_self_eq_true, and_self]
  exact m3
end Go.Proofs.YtkemillpgmdlgaaGreatDoor
