/- Several texts in one: the functions that this law reaches, and their laws. -/
import Derived.Test.YtiddfgaccfnofaaGreatDoorZ3A
import Derived.Test.YtiddfgaccfnofaaGreatDoorZ3B
import Derived.Test.YtiddfgaccfnofaaGreatDoorZ3C
import Derived.Test.YtiddfgaccfnofaaGreatDoorZ3D
import Derived.Test.YtiddfgaccfnofaaGreatDoorZ3E
set_option linter.unusedVariables false
set_option linter.unusedSimpArgs false
set_option maxRecDepth 100000
namespace Go.Proofs.YtiddfgaccfnofaaGreatDoor
open Go Go.Am Go.Proofs
noncomputable section
def ext9 : Ext := [(45, S45), (46, S46), (47, S47), (48, S48), (49, S49), (50, S50), (51, S51), (52, S52), (53, S53), (54, S54), (55, S55), (56, S56)]
theorem ext9Ok : ExtOk Tryz.prog ext9 := ⟨⟨ca45, con45⟩, ⟨ca46, con46⟩, ⟨ca47, con47⟩, ⟨ca48, con48⟩, ⟨ca49, con49⟩, ⟨ca50, con50⟩, ⟨ca51, con51⟩, ⟨ca52, con52⟩, ⟨ca53, con53⟩, ⟨ca54, con54⟩, ⟨ca55, con55⟩, ⟨ca56, con56⟩, trivial⟩
noncomputable def b9 : Code := bodyOf Tryz.f9
theorem hb9 : Tryz.f9.body = some b9 := by kernel_rfl
def sig9 : List AT := [AT.v YA0, AT.v YA0]
def tys9 : List Ty := [Ty.bool]
def kds9 : List RK := []
def oks9 : List AT := owns sig9
def P9 (x0 : TyA0) (x1 : TyA0) : Prop := True
def g9_0 (x0 : TyA0) (x1 : TyA0) : Bool := (if (!g45_0 x0.1 x1.1) = true then false else (if (!g46_0 x0.2.1 x1.2.1) = true then false else (if (!g47_0 x0.2.2.1 x1.2.2.1) = true then false else (if (!g48_0 x0.2.2.2.1 x1.2.2.2.1) = true then false else (if (!g49_0 x0.2.2.2.2.1 x1.2.2.2.2.1) = true then false else (if (!g50_0 x0.2.2.2.2.2.1 x1.2.2.2.2.2.1) = true then false else (if (!g51_0 x0.2.2.2.2.2.2.1 x1.2.2.2.2.2.2.1) = true then false else (if (!g52_0 x0.2.2.2.2.2.2.2.1 x1.2.2.2.2.2.2.2.1) = true then false else (if (!g53_0 x0.2.2.2.2.2.2.2.2.1 x1.2.2.2.2.2.2.2.2.1) = true then false else (if (!g54_0 x0.2.2.2.2.2.2.2.2.2.1 x1.2.2.2.2.2.2.2.2.2.1) = true then false else (if (!g55_0 x0.2.2.2.2.2.2.2.2.2.2.1 x1.2.2.2.2.2.2.2.2.2.2.1) = true then false else (if (!g56_0 x0.2.2.2.2.2.2.2.2.2.2.2.1 x1.2.2.2.2.2.2.2.2.2.2.2.1) = true then false else true))))))))))))
theorem at9 (x0 : TyA0) (x1 : TyA0) (h : P9 x0 x1) (K : Ctx) (q : Nat → Value) : AtV Tryz.prog 9 (PostR kds9 oks9 [⟨Ty.bool, g9_0 x0 x1⟩] [] [] q K) 77 K q [] [.code b9] (entE 0 0 sig9 (x0, x1, ())) (entL sig9 (x0, x1, ())) := by
  unfold P9 at h
  unfold g9_0
  by_cases b0 : (!g45_0 x0.1 x1.1) = true
  · try simp only [if_pos b0] at h ⊢
    exact AtV.ret Tryz.func9 tabOk ext9Ok mixed false [] tys9 [true] (a1 trivial (a1 b0 trivial)) (by kernel_rfl)
  · try simp only [if_neg b0] at h ⊢
    replace b0 := Bool.eq_false_iff.2 b0
    by_cases b1 : (!g46_0 x0.2.1 x1.2.1) = true
    · try simp only [if_pos b1] at h ⊢
      exact AtV.ret Tryz.func9 tabOk ext9Ok mixed false [] tys9 [false, true] (a1 trivial (a1 b0 (a1 trivial (a1 b1 trivial)))) (by kernel_rfl)
    · try simp only [if_neg b1] at h ⊢
      replace b1 := Bool.eq_false_iff.2 b1
      by_cases b2 : (!g47_0 x0.2.2.1 x1.2.2.1) = true
      · try simp only [if_pos b2] at h ⊢
        exact AtV.ret Tryz.func9 tabOk ext9Ok mixed false [] tys9 [false, false, true] (a1 trivial (a1 b0 (a1 trivial (a1 b1 (a1 trivial (a1 b2 trivial)))))) (by kernel_rfl)
      · try simp only [if_neg b2] at h ⊢
        replace b2 := Bool.eq_false_iff.2 b2
        by_cases b3 : (!g48_0 x0.2.2.2.1 x1.2.2.2.1) = true
        · try simp only [if_pos b3] at h ⊢
          exact AtV.ret Tryz.func9 tabOk ext9Ok mixed false [] tys9 [false, false, false, true] (a1 trivial (a1 b0 (a1 trivial (a1 b1 (a1 trivial (a1 b2 (a1 trivial (a1 b3 trivial)))))))) (by kernel_rfl)
        · try simp only [if_neg b3] at h ⊢
          replace b3 := Bool.eq_false_iff.2 b3
          by_cases b4 : (!g49_0 x0.2.2.2.2.1 x1.2.2.2.2.1) = true
          · try simp only [if_pos b4] at h ⊢
            exact AtV.ret Tryz.func9 tabOk ext9Ok mixed false [] tys9 [false, false, false, false, true] (a1 trivial (a1 b0 (a1 trivial (a1 b1 (a1 trivial (a1 b2 (a1 trivial (a1 b3 (a1 trivial (a1 b4 trivial)))))))))) (by kernel_rfl)
          · try simp only [if_neg b4] at h ⊢
            replace b4 := Bool.eq_false_iff.2 b4
            by_cases b5 : (!g50_0 x0.2.2.2.2.2.1 x1.2.2.2.2.2.1) = true
            · try simp only [if_pos b5] at h ⊢
              exact AtV.ret Tryz.func9 tabOk ext9Ok mixed false [] tys9 [false, false, false, false, false, true] (a1 trivial (a1 b0 (a1 trivial (a1 b1 (a1 trivial (a1 b2 (a1 trivial (a1 b3 (a1 trivial (a1 b4 (a1 trivial (a1 b5 trivial)))))))))))) (by kernel_rfl)
            · try simp only [if_neg b5] at h ⊢
              replace b5 := Bool.eq_false_iff.2 b5
              by_cases b6 : (!g51_0 x0.2.2.2.2.2.2.1 x1.2.2.2.2.2.2.1) = true
              · try simp only [if_pos b6] at h ⊢
                exact AtV.ret Tryz.func9 tabOk ext9Ok mixed false [] tys9 [false, false, false, false, false, false, true] (a1 trivial (a1 b0 (a1 trivial (a1 b1 (a1 trivial (a1 b2 (a1 trivial (a1 b3 (a1 trivial (a1 b4 (a1 trivial (a1 b5 (a1 trivial (a1 b6 trivial)))))))))))))) (by kernel_rfl)
              · try simp only [if_neg b6] at h ⊢
                replace b6 := Bool.eq_false_iff.2 b6
                by_cases b7 : (!g52_0 x0.2.2.2.2.2.2.2.1 x1.2.2.2.2.2.2.2.1) = true
                · try simp only [if_pos b7] at h ⊢
                  exact AtV.ret Tryz.func9 tabOk ext9Ok mixed false [] tys9 [false, false, false, false, false, false, false, true] (a1 trivial (a1 b0 (a1 trivial (a1 b1 (a1 trivial (a1 b2 (a1 trivial (a1 b3 (a1 trivial (a1 b4 (a1 trivial (a1 b5 (a1 trivial (a1 b6 (a1 trivial (a1 b7 trivial)))))))))))))))) (by kernel_rfl)
                · try simp only [if_neg b7] at h ⊢
                  replace b7 := Bool.eq_false_iff.2 b7
                  by_cases b8 : (!g53_0 x0.2.2.2.2.2.2.2.2.1 x1.2.2.2.2.2.2.2.2.1) = true
                  · try simp only [if_pos b8] at h ⊢
                    exact AtV.ret Tryz.func9 tabOk ext9Ok mixed false [] tys9 [false, false, false, false, false, false, false, false, true] (a1 trivial (a1 b0 (a1 trivial (a1 b1 (a1 trivial (a1 b2 (a1 trivial (a1 b3 (a1 trivial (a1 b4 (a1 trivial (a1 b5 (a1 trivial (a1 b6 (a1 trivial (a1 b7 (a1 trivial (a1 b8 trivial)))))))))))))))))) (by kernel_rfl)
                  · try simp only [if_neg b8] at h ⊢
                    replace b8 := Bool.eq_false_iff.2 b8
                    by_cases b9 : (!g54_0 x0.2.2.2.2.2.2.2.2.2.1 x1.2.2.2.2.2.2.2.2.2.1) = true
                    · try simp only [if_pos b9] at h ⊢
                      exact AtV.ret Tryz.func9 tabOk ext9Ok mixed false [] tys9 [false, false, false, false, false, false, false, false, false, true] (a1 trivial (a1 b0 (a1 trivial (a1 b1 (a1 trivial (a1 b2 (a1 trivial (a1 b3 (a1 trivial (a1 b4 (a1 trivial (a1 b5 (a1 trivial (a1 b6 (a1 trivial (a1 b7 (a1 trivial (a1 b8 (a1 trivial (a1 b9 trivial)))))))))))))))))))) (by kernel_rfl)
                    · try simp only [if_neg b9] at h ⊢
                      replace b9 := Bool.eq_false_iff.2 b9
                      by_cases b10 : (!g55_0 x0.2.2.2.2.2.2.2.2.2.2.1 x1.2.2.2.2.2.2.2.2.2.2.1) = true
                      · try simp only [if_pos b10] at h ⊢
                        exact AtV.ret Tryz.func9 tabOk ext9Ok mixed false [] tys9 [false, false, false, false, false, false, false, false, false, false, true] (a1 trivial (a1 b0 (a1 trivial (a1 b1 (a1 trivial (a1 b2 (a1 trivial (a1 b3 (a1 trivial (a1 b4 (a1 trivial (a1 b5 (a1 trivial (a1 b6 (a1 trivial (a1 b7 (a1 trivial (a1 b8 (a1 trivial (a1 b9 (a1 trivial (a1 b10 trivial)))))))))))))))))))))) (by kernel_rfl)
                      · try simp only [if_neg b10] at h ⊢
                        replace b10 := Bool.eq_false_iff.2 b10
                        by_cases b11 : (!g56_0 x0.2.2.2.2.2.2.2.2.2.2.2.1 x1.2.2.2.2.2.2.2.2.2.2.2.1) = true
                        · try simp only [if_pos b11] at h ⊢
                          exact AtV.ret Tryz.func9 tabOk ext9Ok mixed false [] tys9 [false, false, false, false, false, false, false, false, false, false, false, true] (a1 trivial (a1 b0 (a1 trivial (a1 b1 (a1 trivial (a1 b2 (a1 trivial (a1 b3 (a1 trivial (a1 b4 (a1 trivial (a1 b5 (a1 trivial (a1 b6 (a1 trivial (a1 b7 (a1 trivial (a1 b8 (a1 trivial (a1 b9 (a1 trivial (a1 b10 (a1 trivial (a1 b11 trivial)))))))))))))))))))))))) (by kernel_rfl)
                        · try simp only [if_neg b11] at h ⊢
                          replace b11 := Bool.eq_false_iff.2 b11
                          exact AtV.ret Tryz.func9 tabOk ext9Ok mixed false [] tys9 [false, false, false, false, false, false, false, false, false, false, false, false] (a1 trivial (a1 b0 (a1 trivial (a1 b1 (a1 trivial (a1 b2 (a1 trivial (a1 b3 (a1 trivial (a1 b4 (a1 trivial (a1 b5 (a1 trivial (a1 b6 (a1 trivial (a1 b7 (a1 trivial (a1 b8 (a1 trivial (a1 b9 (a1 trivial (a1 b10 (a1 trivial (a1 b11 trivial)))))))))))))))))))))))) (by kernel_rfl)
def S9 : Am.Spec := { sig := sig9, pre := fun ⟨x0, x1, _⟩ => P9 x0 x1, res := fun ⟨x0, x1, _⟩ => [⟨Ty.bool, g9_0 x0 x1⟩], kds := kds9 }
theorem con9 : Contract Tryz.prog 9 S9 := contract_of Tryz.func9 hb9 (Nat.le_of_ble_eq_true (by kernel_rfl)) (fun ⟨x0, x1, _⟩ h _ K q => at9 x0 x1 h K q)
end
noncomputable section
def ext65 : Ext := []
theorem ext65Ok : ExtOk Tryz.prog ext65 := trivial
noncomputable def b65 : Code := bodyOf Tryz.f65
theorem hb65 : Tryz.f65.body = some b65 := by kernel_rfl
def sig65 : List AT := [AT.v (Ty.int .i64)]
def tys65 : List Ty := [Ty.str]
def kds65 : List RK := []
def oks65 : List AT := owns sig65
def E65_4 (v3 : ByteArray) (x0 : Int) : Env := [(0, PV.a (Atom.val (Value.int .i64 x0))), (3, PV.a (Atom.val (Value.string v3)))]
def L65_4 (v3 : ByteArray) (x0 : Int) : Heap := []
mutual
def R65 : Nat → Int → List Dyn → Prop
  | 0, _, _ => False
  | n + 1, x0, ds => (if (decide (x0 ≤ 0)) = true then (ds = [Dyn.mk Ty.str (ByteArray.mk #[109, 48])]) else (R65_4 n (ByteArray.mk #[]) (x0) ds))
def R65_4 : Nat → ByteArray → Int → List Dyn → Prop
  | 0, _, _, _ => False
  | n + 1, v3, x0, ds => (if (decide (x0 > 0)) = true then ((InR .i64 (Int.tmod x0 10)) ∧ ((InR .i64 (48 + Int.tmod x0 10)) ∧ ((InR .u8 (48 + Int.tmod x0 10)) ∧ ((ByteArray.size (bytesStr [48 + Int.tmod x0 10]) + ByteArray.size v3 ≤ 9223372036854775807) ∧ ((InR .i64 (Int.tdiv x0 10)) ∧ (R65_4 n (bytesStr [48 + Int.tmod x0 10] ++ v3) (Int.tdiv x0 10) ds)))))) else ((1 + ByteArray.size v3 ≤ 9223372036854775807) ∧ (ds = [Dyn.mk Ty.str (ByteArray.mk #[109] ++ v3)])))
end
theorem snd65 : ∀ n, (∀ (x0 : Int) ds, R65 n x0 ds → ∀ K q, AtV Tryz.prog 65 (PostR kds65 oks65 ds [] [] q K) 20 K q [] [.code b65] (entE 0 0 sig65 (x0, ())) (entL sig65 (x0, ()))) ∧ (∀ (v3 : ByteArray) (x0 : Int) ds, R65_4 n v3 x0 ds → ∀ K q, AtV Tryz.prog 65 (PostR kds65 oks65 ds [] [] q K) 20 K q [] (cutAt b65 4) (E65_4 v3 x0) (L65_4 v3 x0)) := by
  intro n
  induction n with
  | zero => exact ⟨fun _ _ h => by simp only [R65] at h, fun _ _ _ h => by simp only [R65_4] at h⟩
  | succ n ih =>
  obtain ⟨ih, ih4⟩ := ih
  refine ⟨?_, ?_⟩
  · intro x0 ds h K q
    rw [R65] at h
    by_cases b0 : (decide (x0 ≤ 0)) = true
    · rw [if_pos b0] at h
      subst h
      exact AtV.ret Tryz.func65 tabOk ext65Ok mixed false [] tys65 [true] (a1 b0 trivial) (by kernel_rfl)
    · rw [if_neg b0] at h
      replace b0 := Bool.eq_false_iff.2 b0
      exact AtV.go tabOk ext65Ok mixed false [] [] [0, 3] [] [false] (a1 b0 trivial) (ih4 _ _ _ h K q) (by kernel_rfl)
  · intro v3 x0 ds h K q
    rw [R65_4] at h
    by_cases b0 : (decide (x0 > 0)) = true
    · rw [if_pos b0] at h
      obtain ⟨s0, h⟩ := h
      obtain ⟨s1, h⟩ := h
      obtain ⟨s2, h⟩ := h
      obtain ⟨s3, h⟩ := h
      obtain ⟨s4, h⟩ := h
      exact AtV.go tabOk ext65Ok mixed false [] [] [0, 3] [] [true] (a1 b0 (a1 ((by decide) : (10 : Int) ≠ (0 : Int)) (a1 s0 (a1 s1 (a1 s2 (a1 s3 (a1 ((by decide) : (10 : Int) ≠ (0 : Int)) (a1 s4 trivial)))))))) (ih4 _ _ _ h K q) (by kernel_rfl)
    · rw [if_neg b0] at h
      replace b0 := Bool.eq_false_iff.2 b0
      obtain ⟨s0, h⟩ := h
      subst h
      exact AtV.ret Tryz.func65 tabOk ext65Ok mixed false [] tys65 [false] (a1 b0 (a1 s0 trivial)) (by kernel_rfl)
def loop65 : Nat → ByteArray → Int → ByteArray
  | 0, v, _ => v
  | n + 1, v, x => if 0 < x then loop65 n (bytesStr [48 + Int.tmod x 10] ++ v) (Int.tdiv x 10) else v
theorem run65 : ∀ (n : Nat) (v : ByteArray) (x : Int), x < 10 ^ n → InR .i64 x → v.size + n ≤ 1000 → R65_4 (n + 1) v x [⟨.str, ByteArray.mk #[109] ++ loop65 n v x⟩] := by
  intro n
  induction n with
  | zero =>
    intro v x h1 _ h2
    rw [R65_4, if_neg (by simp at h1 ⊢; omega)]
    exact ⟨by omega, rfl⟩
  | succ n ih =>
    intro v x h1 hi h2
    rw [i64_iff] at hi
    rw [R65_4]
    by_cases hx : 0 < x
    · rw [if_pos (by simpa using hx)]
      have e1 : Int.tmod x 10 = x % 10 := Int.tmod_eq_emod_of_nonneg (by omega)
      have e2 : Int.tdiv x 10 = x / 10 := Int.tdiv_eq_ediv_of_nonneg (by omega)
      have hs : (bytesStr [48 + Int.tmod x 10]).size = 1 := bytesStr_size _
      have hp : (10 : Int) ^ (n + 1) = 10 * 10 ^ n := by rw [Int.pow_succ, Int.mul_comm]
      refine ⟨by rw [i64_iff, e1]; omega, by rw [i64_iff, e1]; omega, by rw [u8_iff, e1]; omega, by rw [hs]; omega, by rw [i64_iff, e2]; omega, ?_⟩
      have := ih (bytesStr [48 + Int.tmod x 10] ++ v) (Int.tdiv x 10) (by rw [e2]; omega) (by rw [i64_iff, e2]; omega) (by rw [ByteArray.size_append, hs]; omega)
      simp only [loop65, if_pos hx]
      exact this
    · rw [if_neg (by simp; omega)]
      simp only [loop65, if_neg hx]
      exact ⟨by omega, trivial⟩
def g65_0 (x0 : Int) : ByteArray := if x0 ≤ 0 then ByteArray.mk #[109, 48] else ByteArray.mk #[109] ++ loop65 19 (ByteArray.mk #[]) x0
def P65 (x0 : Int) : Prop := True
theorem top65 (x0 : Int) (hi : InR .i64 x0) : R65 21 x0 [⟨.str, g65_0 x0⟩] := by
  rw [R65]
  unfold g65_0
  by_cases h : x0 ≤ 0
  · rw [if_pos (by simpa using h), if_pos h]
  · rw [if_neg (by simpa using h), if_neg h]
    have hi' := hi
    rw [i64_iff] at hi'
    exact run65 19 _ x0 (by omega) hi (by decide)
def S65 : Am.Spec := { sig := sig65, pre := fun ⟨x0, _⟩ => P65 x0, res := fun ⟨x0, _⟩ => [⟨.str, g65_0 x0⟩] }
theorem con65 : Contract Tryz.prog 65 S65 := contract_of Tryz.func65 hb65 (Nat.le_of_ble_eq_true (by kernel_rfl)) (fun ⟨x0, _⟩ h hwf K q =>
  (snd65 _).1 x0 _ (top65 x0 hwf.1) K q)
end
noncomputable section
def ext57 : Ext := [(65, S65)]
theorem ext57Ok : ExtOk Tryz.prog ext57 := ⟨⟨ca65, con65⟩, trivial⟩
noncomputable def b57 : Code := bodyOf Tryz.f57
theorem hb57 : Tryz.f57.body = some b57 := by kernel_rfl
def sig57 : List AT := [AT.own YA3, AT.v (Ty.int .i64)]
def tys57 : List Ty := [Ty.int .i64]
def kds57 : List RK := []
def oks57 : List AT := owns sig57
def E57_2 (v5 : Int) (x1 : Int) (x0 : List TyB0) : Env := [(0, PV.a (Atom.osl 0 Option.none)), (1, PV.a (Atom.val (Value.int .i64 x1))), (5, PV.a (Atom.val (Value.int .i64 v5)))]
def L57_2 (v5 : Int) (x1 : Int) (x0 : List TyB0) : Heap := [Option.some (Arr.mk YA3 x0 false Option.none Option.none)]
mutual
def R57 : Nat → List TyB0 → Int → List Dyn → List (Option Lst) → Prop
  | 0, _, _, _, _ => False
  | n + 1, x0, x1, ds, us => (R57_2 n (0) (x1) (x0) ds us)
def R57_2 : Nat → Int → Int → List TyB0 → List Dyn → List (Option Lst) → Prop
  | 0, _, _, _, _, _ => False
  | n + 1, v5, x1, x0, ds, us => (if (decide (v5 < (↑(List.length x0) : Int))) = true then ((0 ≤ v5) ∧ (v5 < (↑(List.length x0) : Int)) ∧ ((InR .i64 (x1 + 1)) ∧ ((0 ≤ v5) ∧ (v5 < (↑(List.length (List.set x0 (Int.toNat v5) (g65_0 x1, (List.getD x0 (Int.toNat v5) (ByteArray.empty, 0, 0, 0, ())).2))) : Int)) ∧ ((InR .i64 (x1 + 1 + 1)) ∧ ((0 ≤ v5) ∧ (v5 < (↑(List.length (List.set (List.set x0 (Int.toNat v5) (g65_0 x1, (List.getD x0 (Int.toNat v5) (ByteArray.empty, 0, 0, 0, ())).2)) (Int.toNat v5) ((List.getD (List.set x0 (Int.toNat v5) (g65_0 x1, (List.getD x0 (Int.toNat v5) (ByteArray.empty, 0, 0, 0, ())).2)) (Int.toNat v5) (ByteArray.empty, 0, 0, 0, ())).1, x1 + 1, (List.getD (List.set x0 (Int.toNat v5) (g65_0 x1, (List.getD x0 (Int.toNat v5) (ByteArray.empty, 0, 0, 0, ())).2)) (Int.toNat v5) (ByteArray.empty, 0, 0, 0, ())).2.2))) : Int)) ∧ ((InR .i64 (x1 + 1 + 1 + 1)) ∧ ((0 ≤ v5) ∧ (v5 < (↑(List.length (List.set (List.set (List.set x0 (Int.toNat v5) (g65_0 x1, (List.getD x0 (Int.toNat v5) (ByteArray.empty, 0, 0, 0, ())).2)) (Int.toNat v5) ((List.getD (List.set x0 (Int.toNat v5) (g65_0 x1, (List.getD x0 (Int.toNat v5) (ByteArray.empty, 0, 0, 0, ())).2)) (Int.toNat v5) (ByteArray.empty, 0, 0, 0, ())).1, x1 + 1, (List.getD (List.set x0 (Int.toNat v5) (g65_0 x1, (List.getD x0 (Int.toNat v5) (ByteArray.empty, 0, 0, 0, ())).2)) (Int.toNat v5) (ByteArray.empty, 0, 0, 0, ())).2.2)) (Int.toNat v5) ((List.getD (List.set (List.set x0 (Int.toNat v5) (g65_0 x1, (List.getD x0 (Int.toNat v5) (ByteArray.empty, 0, 0, 0, ())).2)) (Int.toNat v5) ((List.getD (List.set x0 (Int.toNat v5) (g65_0 x1, (List.getD x0 (Int.toNat v5) (ByteArray.empty, 0, 0, 0, ())).2)) (Int.toNat v5) (ByteArray.empty, 0, 0, 0, ())).1, x1 + 1, (List.getD (List.set x0 (Int.toNat v5) (g65_0 x1, (List.getD x0 (Int.toNat v5) (ByteArray.empty, 0, 0, 0, ())).2)) (Int.toNat v5) (ByteArray.empty, 0, 0, 0, ())).2.2)) (Int.toNat v5) (ByteArray.empty, 0, 0, 0, ())).1, (List.getD (List.set (List.set x0 (Int.toNat v5) (g65_0 x1, (List.getD x0 (Int.toNat v5) (ByteArray.empty, 0, 0, 0, ())).2)) (Int.toNat v5) ((List.getD (List.set x0 (Int.toNat v5) (g65_0 x1, (List.getD x0 (Int.toNat v5) (ByteArray.empty, 0, 0, 0, ())).2)) (Int.toNat v5) (ByteArray.empty, 0, 0, 0, ())).1, x1 + 1, (List.getD (List.set x0 (Int.toNat v5) (g65_0 x1, (List.getD x0 (Int.toNat v5) (ByteArray.empty, 0, 0, 0, ())).2)) (Int.toNat v5) (ByteArray.empty, 0, 0, 0, ())).2.2)) (Int.toNat v5) (ByteArray.empty, 0, 0, 0, ())).2.1, x1 + 1 + 1, (List.getD (List.set (List.set x0 (Int.toNat v5) (g65_0 x1, (List.getD x0 (Int.toNat v5) (ByteArray.empty, 0, 0, 0, ())).2)) (Int.toNat v5) ((List.getD (List.set x0 (Int.toNat v5) (g65_0 x1, (List.getD x0 (Int.toNat v5) (ByteArray.empty, 0, 0, 0, ())).2)) (Int.toNat v5) (ByteArray.empty, 0, 0, 0, ())).1, x1 + 1, (List.getD (List.set x0 (Int.toNat v5) (g65_0 x1, (List.getD x0 (Int.toNat v5) (ByteArray.empty, 0, 0, 0, ())).2)) (Int.toNat v5) (ByteArray.empty, 0, 0, 0, ())).2.2)) (Int.toNat v5) (ByteArray.empty, 0, 0, 0, ())).2.2.2))) : Int)) ∧ ((InR .i64 (x1 + 1 + 1 + 1 + 1)) ∧ ((InR .i64 (v5 + 1)) ∧ (R57_2 n (v5 + 1) (x1 + 1 + 1 + 1 + 1) (List.set (List.set (List.set (List.set x0 (Int.toNat v5) (g65_0 x1, (List.getD x0 (Int.toNat v5) (ByteArray.empty, 0, 0, 0, ())).2)) (Int.toNat v5) ((List.getD (List.set x0 (Int.toNat v5) (g65_0 x1, (List.getD x0 (Int.toNat v5) (ByteArray.empty, 0, 0, 0, ())).2)) (Int.toNat v5) (ByteArray.empty, 0, 0, 0, ())).1, x1 + 1, (List.getD (List.set x0 (Int.toNat v5) (g65_0 x1, (List.getD x0 (Int.toNat v5) (ByteArray.empty, 0, 0, 0, ())).2)) (Int.toNat v5) (ByteArray.empty, 0, 0, 0, ())).2.2)) (Int.toNat v5) ((List.getD (List.set (List.set x0 (Int.toNat v5) (g65_0 x1, (List.getD x0 (Int.toNat v5) (ByteArray.empty, 0, 0, 0, ())).2)) (Int.toNat v5) ((List.getD (List.set x0 (Int.toNat v5) (g65_0 x1, (List.getD x0 (Int.toNat v5) (ByteArray.empty, 0, 0, 0, ())).2)) (Int.toNat v5) (ByteArray.empty, 0, 0, 0, ())).1, x1 + 1, (List.getD (List.set x0 (Int.toNat v5) (g65_0 x1, (List.getD x0 (Int.toNat v5) (ByteArray.empty, 0, 0, 0, ())).2)) (Int.toNat v5) (ByteArray.empty, 0, 0, 0, ())).2.2)) (Int.toNat v5) (ByteArray.empty, 0, 0, 0, ())).1, (List.getD (List.set (List.set x0 (Int.toNat v5) (g65_0 x1, (List.getD x0 (Int.toNat v5) (ByteArray.empty, 0, 0, 0, ())).2)) (Int.toNat v5) ((List.getD (List.set x0 (Int.toNat v5) (g65_0 x1, (List.getD x0 (Int.toNat v5) (ByteArray.empty, 0, 0, 0, ())).2)) (Int.toNat v5) (ByteArray.empty, 0, 0, 0, ())).1, x1 + 1, (List.getD (List.set x0 (Int.toNat v5) (g65_0 x1, (List.getD x0 (Int.toNat v5) (ByteArray.empty, 0, 0, 0, ())).2)) (Int.toNat v5) (ByteArray.empty, 0, 0, 0, ())).2.2)) (Int.toNat v5) (ByteArray.empty, 0, 0, 0, ())).2.1, x1 + 1 + 1, (List.getD (List.set (List.set x0 (Int.toNat v5) (g65_0 x1, (List.getD x0 (Int.toNat v5) (ByteArray.empty, 0, 0, 0, ())).2)) (Int.toNat v5) ((List.getD (List.set x0 (Int.toNat v5) (g65_0 x1, (List.getD x0 (Int.toNat v5) (ByteArray.empty, 0, 0, 0, ())).2)) (Int.toNat v5) (ByteArray.empty, 0, 0, 0, ())).1, x1 + 1, (List.getD (List.set x0 (Int.toNat v5) (g65_0 x1, (List.getD x0 (Int.toNat v5) (ByteArray.empty, 0, 0, 0, ())).2)) (Int.toNat v5) (ByteArray.empty, 0, 0, 0, ())).2.2)) (Int.toNat v5) (ByteArray.empty, 0, 0, 0, ())).2.2.2)) (Int.toNat v5) ((List.getD (List.set (List.set (List.set x0 (Int.toNat v5) (g65_0 x1, (List.getD x0 (Int.toNat v5) (ByteArray.empty, 0, 0, 0, ())).2)) (Int.toNat v5) ((List.getD (List.set x0 (Int.toNat v5) (g65_0 x1, (List.getD x0 (Int.toNat v5) (ByteArray.empty, 0, 0, 0, ())).2)) (Int.toNat v5) (ByteArray.empty, 0, 0, 0, ())).1, x1 + 1, (List.getD (List.set x0 (Int.toNat v5) (g65_0 x1, (List.getD x0 (Int.toNat v5) (ByteArray.empty, 0, 0, 0, ())).2)) (Int.toNat v5) (ByteArray.empty, 0, 0, 0, ())).2.2)) (Int.toNat v5) ((List.getD (List.set (List.set x0 (Int.toNat v5) (g65_0 x1, (List.getD x0 (Int.toNat v5) (ByteArray.empty, 0, 0, 0, ())).2)) (Int.toNat v5) ((List.getD (List.set x0 (Int.toNat v5) (g65_0 x1, (List.getD x0 (Int.toNat v5) (ByteArray.empty, 0, 0, 0, ())).2)) (Int.toNat v5) (ByteArray.empty, 0, 0, 0, ())).1, x1 + 1, (List.getD (List.set x0 (Int.toNat v5) (g65_0 x1, (List.getD x0 (Int.toNat v5) (ByteArray.empty, 0, 0, 0, ())).2)) (Int.toNat v5) (ByteArray.empty, 0, 0, 0, ())).2.2)) (Int.toNat v5) (ByteArray.empty, 0, 0, 0, ())).1, (List.getD (List.set (List.set x0 (Int.toNat v5) (g65_0 x1, (List.getD x0 (Int.toNat v5) (ByteArray.empty, 0, 0, 0, ())).2)) (Int.toNat v5) ((List.getD (List.set x0 (Int.toNat v5) (g65_0 x1, (List.getD x0 (Int.toNat v5) (ByteArray.empty, 0, 0, 0, ())).2)) (Int.toNat v5) (ByteArray.empty, 0, 0, 0, ())).1, x1 + 1, (List.getD (List.set x0 (Int.toNat v5) (g65_0 x1, (List.getD x0 (Int.toNat v5) (ByteArray.empty, 0, 0, 0, ())).2)) (Int.toNat v5) (ByteArray.empty, 0, 0, 0, ())).2.2)) (Int.toNat v5) (ByteArray.empty, 0, 0, 0, ())).2.1, x1 + 1 + 1, (List.getD (List.set (List.set x0 (Int.toNat v5) (g65_0 x1, (List.getD x0 (Int.toNat v5) (ByteArray.empty, 0, 0, 0, ())).2)) (Int.toNat v5) ((List.getD (List.set x0 (Int.toNat v5) (g65_0 x1, (List.getD x0 (Int.toNat v5) (ByteArray.empty, 0, 0, 0, ())).2)) (Int.toNat v5) (ByteArray.empty, 0, 0, 0, ())).1, x1 + 1, (List.getD (List.set x0 (Int.toNat v5) (g65_0 x1, (List.getD x0 (Int.toNat v5) (ByteArray.empty, 0, 0, 0, ())).2)) (Int.toNat v5) (ByteArray.empty, 0, 0, 0, ())).2.2)) (Int.toNat v5) (ByteArray.empty, 0, 0, 0, ())).2.2.2)) (Int.toNat v5) (ByteArray.empty, 0, 0, 0, ())).1, (List.getD (List.set (List.set (List.set x0 (Int.toNat v5) (g65_0 x1, (List.getD x0 (Int.toNat v5) (ByteArray.empty, 0, 0, 0, ())).2)) (Int.toNat v5) ((List.getD (List.set x0 (Int.toNat v5) (g65_0 x1, (List.getD x0 (Int.toNat v5) (ByteArray.empty, 0, 0, 0, ())).2)) (Int.toNat v5) (ByteArray.empty, 0, 0, 0, ())).1, x1 + 1, (List.getD (List.set x0 (Int.toNat v5) (g65_0 x1, (List.getD x0 (Int.toNat v5) (ByteArray.empty, 0, 0, 0, ())).2)) (Int.toNat v5) (ByteArray.empty, 0, 0, 0, ())).2.2)) (Int.toNat v5) ((List.getD (List.set (List.set x0 (Int.toNat v5) (g65_0 x1, (List.getD x0 (Int.toNat v5) (ByteArray.empty, 0, 0, 0, ())).2)) (Int.toNat v5) ((List.getD (List.set x0 (Int.toNat v5) (g65_0 x1, (List.getD x0 (Int.toNat v5) (ByteArray.empty, 0, 0, 0, ())).2)) (Int.toNat v5) (ByteArray.empty, 0, 0, 0, ())).1, x1 + 1, (List.getD (List.set x0 (Int.toNat v5) (g65_0 x1, (List.getD x0 (Int.toNat v5) (ByteArray.empty, 0, 0, 0, ())).2)) (Int.toNat v5) (ByteArray.empty, 0, 0, 0, ())).2.2)) (Int.toNat v5) (ByteArray.empty, 0, 0, 0, ())).1, (List.getD (List.set (List.set x0 (Int.toNat v5) (g65_0 x1, (List.getD x0 (Int.toNat v5) (ByteArray.empty, 0, 0, 0, ())).2)) (Int.toNat v5) ((List.getD (List.set x0 (Int.toNat v5) (g65_0 x1, (List.getD x0 (Int.toNat v5) (ByteArray.empty, 0, 0, 0, ())).2)) (Int.toNat v5) (ByteArray.empty, 0, 0, 0, ())).1, x1 + 1, (List.getD (List.set x0 (Int.toNat v5) (g65_0 x1, (List.getD x0 (Int.toNat v5) (ByteArray.empty, 0, 0, 0, ())).2)) (Int.toNat v5) (ByteArray.empty, 0, 0, 0, ())).2.2)) (Int.toNat v5) (ByteArray.empty, 0, 0, 0, ())).2.1, x1 + 1 + 1, (List.getD (List.set (List.set x0 (Int.toNat v5) (g65_0 x1, (List.getD x0 (Int.toNat v5) (ByteArray.empty, 0, 0, 0, ())).2)) (Int.toNat v5) ((List.getD (List.set x0 (Int.toNat v5) (g65_0 x1, (List.getD x0 (Int.toNat v5) (ByteArray.empty, 0, 0, 0, ())).2)) (Int.toNat v5) (ByteArray.empty, 0, 0, 0, ())).1, x1 + 1, (List.getD (List.set x0 (Int.toNat v5) (g65_0 x1, (List.getD x0 (Int.toNat v5) (ByteArray.empty, 0, 0, 0, ())).2)) (Int.toNat v5) (ByteArray.empty, 0, 0, 0, ())).2.2)) (Int.toNat v5) (ByteArray.empty, 0, 0, 0, ())).2.2.2)) (Int.toNat v5) (ByteArray.empty, 0, 0, 0, ())).2.1, (List.getD (List.set (List.set (List.set x0 (Int.toNat v5) (g65_0 x1, (List.getD x0 (Int.toNat v5) (ByteArray.empty, 0, 0, 0, ())).2)) (Int.toNat v5) ((List.getD (List.set x0 (Int.toNat v5) (g65_0 x1, (List.getD x0 (Int.toNat v5) (ByteArray.empty, 0, 0, 0, ())).2)) (Int.toNat v5) (ByteArray.empty, 0, 0, 0, ())).1, x1 + 1, (List.getD (List.set x0 (Int.toNat v5) (g65_0 x1, (List.getD x0 (Int.toNat v5) (ByteArray.empty, 0, 0, 0, ())).2)) (Int.toNat v5) (ByteArray.empty, 0, 0, 0, ())).2.2)) (Int.toNat v5) ((List.getD (List.set (List.set x0 (Int.toNat v5) (g65_0 x1, (List.getD x0 (Int.toNat v5) (ByteArray.empty, 0, 0, 0, ())).2)) (Int.toNat v5) ((List.getD (List.set x0 (Int.toNat v5) (g65_0 x1, (List.getD x0 (Int.toNat v5) (ByteArray.empty, 0, 0, 0, ())).2)) (Int.toNat v5) (ByteArray.empty, 0, 0, 0, ())).1, x1 + 1, (List.getD (List.set x0 (Int.toNat v5) (g65_0 x1, (List.getD x0 (Int.toNat v5) (ByteArray.empty, 0, 0, 0, ())).2)) (Int.toNat v5) (ByteArray.empty, 0, 0, 0, ())).2.2)) (Int.toNat v5) (ByteArray.empty, 0, 0, 0, ())).1, (List.getD (List.set (List.set x0 (Int.toNat v5) (g65_0 x1, (List.getD x0 (Int.toNat v5) (ByteArray.empty, 0, 0, 0, ())).2)) (Int.toNat v5) ((List.getD (List.set x0 (Int.toNat v5) (g65_0 x1, (List.getD x0 (Int.toNat v5) (ByteArray.empty, 0, 0, 0, ())).2)) (Int.toNat v5) (ByteArray.empty, 0, 0, 0, ())).1, x1 + 1, (List.getD (List.set x0 (Int.toNat v5) (g65_0 x1, (List.getD x0 (Int.toNat v5) (ByteArray.empty, 0, 0, 0, ())).2)) (Int.toNat v5) (ByteArray.empty, 0, 0, 0, ())).2.2)) (Int.toNat v5) (ByteArray.empty, 0, 0, 0, ())).2.1, x1 + 1 + 1, (List.getD (List.set (List.set x0 (Int.toNat v5) (g65_0 x1, (List.getD x0 (Int.toNat v5) (ByteArray.empty, 0, 0, 0, ())).2)) (Int.toNat v5) ((List.getD (List.set x0 (Int.toNat v5) (g65_0 x1, (List.getD x0 (Int.toNat v5) (ByteArray.empty, 0, 0, 0, ())).2)) (Int.toNat v5) (ByteArray.empty, 0, 0, 0, ())).1, x1 + 1, (List.getD (List.set x0 (Int.toNat v5) (g65_0 x1, (List.getD x0 (Int.toNat v5) (ByteArray.empty, 0, 0, 0, ())).2)) (Int.toNat v5) (ByteArray.empty, 0, 0, 0, ())).2.2)) (Int.toNat v5) (ByteArray.empty, 0, 0, 0, ())).2.2.2)) (Int.toNat v5) (ByteArray.empty, 0, 0, 0, ())).2.2.1, x1 + 1 + 1 + 1, (List.getD (List.set (List.set (List.set x0 (Int.toNat v5) (g65_0 x1, (List.getD x0 (Int.toNat v5) (ByteArray.empty, 0, 0, 0, ())).2)) (Int.toNat v5) ((List.getD (List.set x0 (Int.toNat v5) (g65_0 x1, (List.getD x0 (Int.toNat v5) (ByteArray.empty, 0, 0, 0, ())).2)) (Int.toNat v5) (ByteArray.empty, 0, 0, 0, ())).1, x1 + 1, (List.getD (List.set x0 (Int.toNat v5) (g65_0 x1, (List.getD x0 (Int.toNat v5) (ByteArray.empty, 0, 0, 0, ())).2)) (Int.toNat v5) (ByteArray.empty, 0, 0, 0, ())).2.2)) (Int.toNat v5) ((List.getD (List.set (List.set x0 (Int.toNat v5) (g65_0 x1, (List.getD x0 (Int.toNat v5) (ByteArray.empty, 0, 0, 0, ())).2)) (Int.toNat v5) ((List.getD (List.set x0 (Int.toNat v5) (g65_0 x1, (List.getD x0 (Int.toNat v5) (ByteArray.empty, 0, 0, 0, ())).2)) (Int.toNat v5) (ByteArray.empty, 0, 0, 0, ())).1, x1 + 1, (List.getD (List.set x0 (Int.toNat v5) (g65_0 x1, (List.getD x0 (Int.toNat v5) (ByteArray.empty, 0, 0, 0, ())).2)) (Int.toNat v5) (ByteArray.empty, 0, 0, 0, ())).2.2)) (Int.toNat v5) (ByteArray.empty, 0, 0, 0, ())).1, (List.getD (List.set (List.set x0 (Int.toNat v5) (g65_0 x1, (List.getD x0 (Int.toNat v5) (ByteArray.empty, 0, 0, 0, ())).2)) (Int.toNat v5) ((List.getD (List.set x0 (Int.toNat v5) (g65_0 x1, (List.getD x0 (Int.toNat v5) (ByteArray.empty, 0, 0, 0, ())).2)) (Int.toNat v5) (ByteArray.empty, 0, 0, 0, ())).1, x1 + 1, (List.getD (List.set x0 (Int.toNat v5) (g65_0 x1, (List.getD x0 (Int.toNat v5) (ByteArray.empty, 0, 0, 0, ())).2)) (Int.toNat v5) (ByteArray.empty, 0, 0, 0, ())).2.2)) (Int.toNat v5) (ByteArray.empty, 0, 0, 0, ())).2.1, x1 + 1 + 1, (List.getD (List.set (List.set x0 (Int.toNat v5) (g65_0 x1, (List.getD x0 (Int.toNat v5) (ByteArray.empty, 0, 0, 0, ())).2)) (Int.toNat v5) ((List.getD (List.set x0 (Int.toNat v5) (g65_0 x1, (List.getD x0 (Int.toNat v5) (ByteArray.empty, 0, 0, 0, ())).2)) (Int.toNat v5) (ByteArray.empty, 0, 0, 0, ())).1, x1 + 1, (List.getD (List.set x0 (Int.toNat v5) (g65_0 x1, (List.getD x0 (Int.toNat v5) (ByteArray.empty, 0, 0, 0, ())).2)) (Int.toNat v5) (ByteArray.empty, 0, 0, 0, ())).2.2)) (Int.toNat v5) (ByteArray.empty, 0, 0, 0, ())).2.2.2)) (Int.toNat v5) (ByteArray.empty, 0, 0, 0, ())).2.2.2.2)) ds us)))))))))) else (ds = [Dyn.mk (Ty.int .i64) x1] ∧ us = [Option.some (Lst.mk YA3 x0)]))
end
theorem snd57 : ∀ n, (∀ (x0 : List TyB0) (x1 : Int) ds us, R57 n x0 x1 ds us → ∀ K q, AtV Tryz.prog 57 (PostR kds57 oks57 ds us [0] q K) 42 K q [0] [.code b57] (entE 0 0 sig57 (x0, x1, ())) (entL sig57 (x0, x1, ()))) ∧ (∀ (v5 : Int) (x1 : Int) (x0 : List TyB0) ds us, R57_2 n v5 x1 x0 ds us → ∀ K q, AtV Tryz.prog 57 (PostR kds57 oks57 ds us [0] q K) 42 K q [0] (cutAt b57 2) (E57_2 v5 x1 x0) (L57_2 v5 x1 x0)) := by
  intro n
  induction n with
  | zero => exact ⟨fun _ _ _ _ h => by simp only [R57] at h, fun _ _ _ _ _ h => by simp only [R57_2] at h⟩
  | succ n ih =>
  obtain ⟨ih, ih2⟩ := ih
  refine ⟨?_, ?_⟩
  · intro x0 x1 ds us h K q
    rw [R57] at h
    exact AtV.go tabOk ext57Ok mixed false [] [] [0, 1, 5] [0] [] trivial (ih2 _ _ _ _ _ h K q) (by kernel_rfl)
  · intro v5 x1 x0 ds us h K q
    rw [R57_2] at h
    by_cases b0 : (decide (v5 < (↑(List.length x0) : Int))) = true
    · rw [if_pos b0] at h
      obtain ⟨s0, s1, h⟩ := h
      obtain ⟨s2, h⟩ := h
      obtain ⟨s3, s4, h⟩ := h
      obtain ⟨s5, h⟩ := h
      obtain ⟨s6, s7, h⟩ := h
      obtain ⟨s8, h⟩ := h
      obtain ⟨s9, s10, h⟩ := h
      obtain ⟨s11, h⟩ := h
      obtain ⟨s12, h⟩ := h
      exact AtV.go tabOk ext57Ok mixed false [] [] [0, 1, 5] [0] [true] (a1 b0 (a1 trivial (a1 s0 (a1 s1 (a1 s2 (a1 s3 (a1 s4 (a1 s5 (a1 s6 (a1 s7 (a1 s8 (a1 s9 (a1 s10 (a1 s11 (a1 s12 trivial))))))))))))))) (ih2 _ _ _ _ _ h K q) (by kernel_rfl)
    · rw [if_neg b0] at h
      replace b0 := Bool.eq_false_iff.2 b0
      obtain ⟨h, h'⟩ := h; subst h; subst h'
      exact AtV.ret Tryz.func57 tabOk ext57Ok mixed false [] tys57 [false] (a1 b0 trivial) (by kernel_rfl)
def M57 (x1 : Int) (n : Nat) : List TyB0 := (List.range n).map fun (j : Nat) => (g65_0 (x1 + 4 * (j : Int)), (x1 + 4 * (j : Int) + 1), (x1 + 4 * (j : Int) + 1 + 1), (x1 + 4 * (j : Int) + 1 + 1 + 1), ())
theorem M57_len (x1 : Int) (n : Nat) : (M57 x1 n).length = n := by simp [M57]
theorem M57_succ (x1 : Int) (n : Nat) : M57 x1 (n + 1) = M57 x1 n ++ [(g65_0 (x1 + 4 * (n : Int)), (x1 + 4 * (n : Int) + 1), (x1 + 4 * (n : Int) + 1 + 1), (x1 + 4 * (n : Int) + 1 + 1 + 1), ())] := by
  simp [M57, List.range_succ]
theorem run57 (x0 : List TyB0) (x1 : Int) (hm : x0.length ≤ maxLen) (h0 : 0 ≤ x1) (h1 : x1 + 4 * x0.length ≤ 9223372036854775807) : ∀ (k i : Nat), i + k = x0.length →
    R57_2 (k + 1) (i : Int) (x1 + 4 * (i : Int)) (M57 x1 i ++ x0.drop i) [⟨.int .i64, x1 + 4 * (x0.length : Int)⟩] [some ⟨(.cons .str (.cons (.int .i64) (.cons (.int .i64) (.cons (.int .i64) .unit)))), M57 x1 x0.length⟩] := by
  intro k
  induction k with
  | zero =>
    intro i hi
    have hl : (M57 x1 i ++ x0.drop i).length = x0.length := by simp [M57_len]; omega
    rw [R57_2, if_neg (by rw [hl]; simp; omega), drop_end x0 i (by omega), List.append_nil]
    have : i = x0.length := by omega
    subst this
    exact ⟨rfl, rfl⟩
  | succ k ih =>
    intro i hi
    have hl : (M57 x1 i ++ x0.drop i).length = x0.length := by simp [M57_len]; omega
    have hA := M57_len x1 i
    rw [R57_2, if_pos (by rw [hl]; simp; omega)]
    rw [drop_get x0 i (ByteArray.empty, (0 : Int), (0 : Int), (0 : Int), ()) (by omega)] at hl ⊢
    simp only [Int.toNat_natCast, set_mid _ _ _ _ i hA, get_mid _ _ _ _ i hA]
    have hl' : ∀ y : TyB0, ((M57 x1 i ++ y :: x0.drop (i + 1)).length : Int) = x0.length := fun y => by rw [← hl]; simp
    simp only [hl']
    refine ⟨by omega, by omega, by rw [i64_iff]; omega, by omega, by omega, by rw [i64_iff]; omega, by omega, by omega, by rw [i64_iff]; omega, by omega, by omega, by rw [i64_iff]; omega, inR_up hm (by omega), ?_⟩
    have hx : x1 + 4 * (i : Int) + 1 + 1 + 1 + 1 = x1 + 4 * ((i + 1 : Nat) : Int) := by omega
    have := ih (i + 1) (by omega)
    rw [M57_succ, List.append_assoc] at this
    rw [hx]
    simpa using this
def P57 (x0 : List TyB0) (x1 : Int) : Prop := 0 ≤ x1 ∧ x1 + 4 * x0.length ≤ 9223372036854775807
def g57_0 (x0 : List TyB0) (x1 : Int) : Int := x1 + 4 * (x0.length : Int)
def u57_0 (x0 : List TyB0) (x1 : Int) : List TyB0 := M57 x1 x0.length
theorem top57 (x0 : List TyB0) (x1 : Int) (hm : x0.length ≤ maxLen) (h : P57 x0 x1) : R57 (x0.length + 1 + 1) x0 x1 [⟨.int .i64, g57_0 x0 x1⟩] [some ⟨(.cons .str (.cons (.int .i64) (.cons (.int .i64) (.cons (.int .i64) .unit)))), u57_0 x0 x1⟩] := by
  rw [R57]
  have := run57 x0 x1 hm h.1 h.2 x0.length 0 (by omega)
  simpa [M57, g57_0, u57_0] using this
def S57 : Am.Spec := { sig := sig57, pre := fun ⟨x0, x1, _⟩ => P57 x0 x1, upd := fun ⟨x0, x1, _⟩ => [some ⟨(.cons .str (.cons (.int .i64) (.cons (.int .i64) (.cons (.int .i64) .unit)))), u57_0 x0 x1⟩], res := fun ⟨x0, x1, _⟩ => [⟨.int .i64, g57_0 x0 x1⟩] }
theorem con57 : Contract Tryz.prog 57 S57 := contract_of Tryz.func57 hb57 (Nat.le_of_ble_eq_true (by kernel_rfl)) (fun ⟨x0, x1, _⟩ h hwf K q =>
  (snd57 _).1 x0 x1 _ _ (top57 x0 x1 hwf.1.1 h) K q)
end
noncomputable section
def ext58 : Ext := []
theorem ext58Ok : ExtOk Tryz.prog ext58 := trivial
noncomputable def b58 : Code := bodyOf Tryz.f58
theorem hb58 : Tryz.f58.body = some b58 := by kernel_rfl
def sig58 : List AT := [AT.own YA4, AT.v (Ty.int .i64)]
def tys58 : List Ty := [Ty.int .i64]
def kds58 : List RK := []
def oks58 : List AT := owns sig58
def E58_2 (v5 : Int) (x1 : Int) (x0 : List TyB2) : Env := [(0, PV.a (Atom.osl 0 Option.none)), (1, PV.a (Atom.val (Value.int .i64 x1))), (5, PV.a (Atom.val (Value.int .i64 v5)))]
def L58_2 (v5 : Int) (x1 : Int) (x0 : List TyB2) : Heap := [Option.some (Arr.mk YA4 x0 false Option.none Option.none)]
mutual
def R58 : Nat → List TyB2 → Int → List Dyn → List (Option Lst) → Prop
  | 0, _, _, _, _ => False
  | n + 1, x0, x1, ds, us => (R58_2 n (0) (x1) (x0) ds us)
def R58_2 : Nat → Int → Int → List TyB2 → List Dyn → List (Option Lst) → Prop
  | 0, _, _, _, _, _ => False
  | n + 1, v5, x1, x0, ds, us => (if (decide (v5 < (↑(List.length x0) : Int))) = true then ((0 ≤ v5) ∧ (v5 < (↑(List.length x0) : Int)) ∧ ((InR .i64 (x1 + 1)) ∧ ((0 ≤ v5) ∧ (v5 < (↑(List.length (List.set x0 (Int.toNat v5) (x1, (List.getD x0 (Int.toNat v5) (0, 0, 0, ())).2))) : Int)) ∧ ((InR .i64 (x1 + 1 + 1)) ∧ ((0 ≤ v5) ∧ (v5 < (↑(List.length (List.set (List.set x0 (Int.toNat v5) (x1, (List.getD x0 (Int.toNat v5) (0, 0, 0, ())).2)) (Int.toNat v5) ((List.getD (List.set x0 (Int.toNat v5) (x1, (List.getD x0 (Int.toNat v5) (0, 0, 0, ())).2)) (Int.toNat v5) (0, 0, 0, ())).1, x1 + 1, (List.getD (List.set x0 (Int.toNat v5) (x1, (List.getD x0 (Int.toNat v5) (0, 0, 0, ())).2)) (Int.toNat v5) (0, 0, 0, ())).2.2))) : Int)) ∧ ((InR .i64 (x1 + 1 + 1 + 1)) ∧ ((InR .i64 (v5 + 1)) ∧ (R58_2 n (v5 + 1) (x1 + 1 + 1 + 1) (List.set (List.set (List.set x0 (Int.toNat v5) (x1, (List.getD x0 (Int.toNat v5) (0, 0, 0, ())).2)) (Int.toNat v5) ((List.getD (List.set x0 (Int.toNat v5) (x1, (List.getD x0 (Int.toNat v5) (0, 0, 0, ())).2)) (Int.toNat v5) (0, 0, 0, ())).1, x1 + 1, (List.getD (List.set x0 (Int.toNat v5) (x1, (List.getD x0 (Int.toNat v5) (0, 0, 0, ())).2)) (Int.toNat v5) (0, 0, 0, ())).2.2)) (Int.toNat v5) ((List.getD (List.set (List.set x0 (Int.toNat v5) (x1, (List.getD x0 (Int.toNat v5) (0, 0, 0, ())).2)) (Int.toNat v5) ((List.getD (List.set x0 (Int.toNat v5) (x1, (List.getD x0 (Int.toNat v5) (0, 0, 0, ())).2)) (Int.toNat v5) (0, 0, 0, ())).1, x1 + 1, (List.getD (List.set x0 (Int.toNat v5) (x1, (List.getD x0 (Int.toNat v5) (0, 0, 0, ())).2)) (Int.toNat v5) (0, 0, 0, ())).2.2)) (Int.toNat v5) (0, 0, 0, ())).1, (List.getD (List.set (List.set x0 (Int.toNat v5) (x1, (List.getD x0 (Int.toNat v5) (0, 0, 0, ())).2)) (Int.toNat v5) ((List.getD (List.set x0 (Int.toNat v5) (x1, (List.getD x0 (Int.toNat v5) (0, 0, 0, ())).2)) (Int.toNat v5) (0, 0, 0, ())).1, x1 + 1, (List.getD (List.set x0 (Int.toNat v5) (x1, (List.getD x0 (Int.toNat v5) (0, 0, 0, ())).2)) (Int.toNat v5) (0, 0, 0, ())).2.2)) (Int.toNat v5) (0, 0, 0, ())).2.1, x1 + 1 + 1, (List.getD (List.set (List.set x0 (Int.toNat v5) (x1, (List.getD x0 (Int.toNat v5) (0, 0, 0, ())).2)) (Int.toNat v5) ((List.getD (List.set x0 (Int.toNat v5) (x1, (List.getD x0 (Int.toNat v5) (0, 0, 0, ())).2)) (Int.toNat v5) (0, 0, 0, ())).1, x1 + 1, (List.getD (List.set x0 (Int.toNat v5) (x1, (List.getD x0 (Int.toNat v5) (0, 0, 0, ())).2)) (Int.toNat v5) (0, 0, 0, ())).2.2)) (Int.toNat v5) (0, 0, 0, ())).2.2.2)) ds us)))))))) else (ds = [Dyn.mk (Ty.int .i64) x1] ∧ us = [Option.some (Lst.mk YA4 x0)]))
end
theorem snd58 : ∀ n, (∀ (x0 : List TyB2) (x1 : Int) ds us, R58 n x0 x1 ds us → ∀ K q, AtV Tryz.prog 58 (PostR kds58 oks58 ds us [0] q K) 34 K q [0] [.code b58] (entE 0 0 sig58 (x0, x1, ())) (entL sig58 (x0, x1, ()))) ∧ (∀ (v5 : Int) (x1 : Int) (x0 : List TyB2) ds us, R58_2 n v5 x1 x0 ds us → ∀ K q, AtV Tryz.prog 58 (PostR kds58 oks58 ds us [0] q K) 34 K q [0] (cutAt b58 2) (E58_2 v5 x1 x0) (L58_2 v5 x1 x0)) := by
  intro n
  induction n with
  | zero => exact ⟨fun _ _ _ _ h => by simp only [R58] at h, fun _ _ _ _ _ h => by simp only [R58_2] at h⟩
  | succ n ih =>
  obtain ⟨ih, ih2⟩ := ih
  refine ⟨?_, ?_⟩
  · intro x0 x1 ds us h K q
    rw [R58] at h
    exact AtV.go tabOk ext58Ok mixed false [] [] [0, 1, 5] [0] [] trivial (ih2 _ _ _ _ _ h K q) (by kernel_rfl)
  · intro v5 x1 x0 ds us h K q
    rw [R58_2] at h
    by_cases b0 : (decide (v5 < (↑(List.length x0) : Int))) = true
    · rw [if_pos b0] at h
      obtain ⟨s0, s1, h⟩ := h
      obtain ⟨s2, h⟩ := h
      obtain ⟨s3, s4, h⟩ := h
      obtain ⟨s5, h⟩ := h
      obtain ⟨s6, s7, h⟩ := h
      obtain ⟨s8, h⟩ := h
      obtain ⟨s9, h⟩ := h
      exact AtV.go tabOk ext58Ok mixed false [] [] [0, 1, 5] [0] [true] (a1 b0 (a1 s0 (a1 s1 (a1 s2 (a1 s3 (a1 s4 (a1 s5 (a1 s6 (a1 s7 (a1 s8 (a1 s9 trivial))))))))))) (ih2 _ _ _ _ _ h K q) (by kernel_rfl)
    · rw [if_neg b0] at h
      replace b0 := Bool.eq_false_iff.2 b0
      obtain ⟨h, h'⟩ := h; subst h; subst h'
      exact AtV.ret Tryz.func58 tabOk ext58Ok mixed false [] tys58 [false] (a1 b0 trivial) (by kernel_rfl)
def M58 (x1 : Int) (n : Nat) : List TyB2 := (List.range n).map fun (j : Nat) => ((x1 + 3 * (j : Int)), (x1 + 3 * (j : Int) + 1), (x1 + 3 * (j : Int) + 1 + 1), ())
theorem M58_len (x1 : Int) (n : Nat) : (M58 x1 n).length = n := by simp [M58]
theorem M58_succ (x1 : Int) (n : Nat) : M58 x1 (n + 1) = M58 x1 n ++ [((x1 + 3 * (n : Int)), (x1 + 3 * (n : Int) + 1), (x1 + 3 * (n : Int) + 1 + 1), ())] := by
  simp [M58, List.range_succ]
theorem run58 (x0 : List TyB2) (x1 : Int) (hm : x0.length ≤ maxLen) (h0 : 0 ≤ x1) (h1 : x1 + 3 * x0.length ≤ 9223372036854775807) : ∀ (k i : Nat), i + k = x0.length →
    R58_2 (k + 1) (i : Int) (x1 + 3 * (i : Int)) (M58 x1 i ++ x0.drop i) [⟨.int .i64, x1 + 3 * (x0.length : Int)⟩] [some ⟨(.cons (.int .i64) (.cons (.int .i64) (.cons (.int .i64) .unit))), M58 x1 x0.length⟩] := by
  intro k
  induction k with
  | zero =>
    intro i hi
    have hl : (M58 x1 i ++ x0.drop i).length = x0.length := by simp [M58_len]; omega
    rw [R58_2, if_neg (by rw [hl]; simp; omega), drop_end x0 i (by omega), List.append_nil]
    have : i = x0.length := by omega
    subst this
    exact ⟨rfl, rfl⟩
  | succ k ih =>
    intro i hi
    have hl : (M58 x1 i ++ x0.drop i).length = x0.length := by simp [M58_len]; omega
    have hA := M58_len x1 i
    rw [R58_2, if_pos (by rw [hl]; simp; omega)]
    rw [drop_get x0 i ((0 : Int), (0 : Int), (0 : Int), ()) (by omega)] at hl ⊢
    simp only [Int.toNat_natCast, set_mid _ _ _ _ i hA, get_mid _ _ _ _ i hA]
    have hl' : ∀ y : TyB2, ((M58 x1 i ++ y :: x0.drop (i + 1)).length : Int) = x0.length := fun y => by rw [← hl]; simp
    simp only [hl']
    refine ⟨by omega, by omega, by rw [i64_iff]; omega, by omega, by omega, by rw [i64_iff]; omega, by omega, by omega, by rw [i64_iff]; omega, inR_up hm (by omega), ?_⟩
    have hx : x1 + 3 * (i : Int) + 1 + 1 + 1 = x1 + 3 * ((i + 1 : Nat) : Int) := by omega
    have := ih (i + 1) (by omega)
    rw [M58_succ, List.append_assoc] at this
    rw [hx]
    simpa using this
def P58 (x0 : List TyB2) (x1 : Int) : Prop := 0 ≤ x1 ∧ x1 + 3 * x0.length ≤ 9223372036854775807
def g58_0 (x0 : List TyB2) (x1 : Int) : Int := x1 + 3 * (x0.length : Int)
def u58_0 (x0 : List TyB2) (x1 : Int) : List TyB2 := M58 x1 x0.length
theorem top58 (x0 : List TyB2) (x1 : Int) (hm : x0.length ≤ maxLen) (h : P58 x0 x1) : R58 (x0.length + 1 + 1) x0 x1 [⟨.int .i64, g58_0 x0 x1⟩] [some ⟨(.cons (.int .i64) (.cons (.int .i64) (.cons (.int .i64) .unit))), u58_0 x0 x1⟩] := by
  rw [R58]
  have := run58 x0 x1 hm h.1 h.2 x0.length 0 (by omega)
  simpa [M58, g58_0, u58_0] using this
def S58 : Am.Spec := { sig := sig58, pre := fun ⟨x0, x1, _⟩ => P58 x0 x1, upd := fun ⟨x0, x1, _⟩ => [some ⟨(.cons (.int .i64) (.cons (.int .i64) (.cons (.int .i64) .unit))), u58_0 x0 x1⟩], res := fun ⟨x0, x1, _⟩ => [⟨.int .i64, g58_0 x0 x1⟩] }
theorem con58 : Contract Tryz.prog 58 S58 := contract_of Tryz.func58 hb58 (Nat.le_of_ble_eq_true (by kernel_rfl)) (fun ⟨x0, x1, _⟩ h hwf K q =>
  (snd58 _).1 x0 x1 _ _ (top58 x0 x1 hwf.1.1 h) K q)
end
noncomputable section
def ext59 : Ext := []
theorem ext59Ok : ExtOk Tryz.prog ext59 := trivial
noncomputable def b59 : Code := bodyOf Tryz.f59
theorem hb59 : Tryz.f59.body = some b59 := by kernel_rfl
def sig59 : List AT := [AT.own YA4, AT.v (Ty.int .i64)]
def tys59 : List Ty := [Ty.int .i64]
def kds59 : List RK := []
def oks59 : List AT := owns sig59
def E59_2 (v5 : Int) (x1 : Int) (x0 : List TyB2) : Env := [(0, PV.a (Atom.osl 0 Option.none)), (1, PV.a (Atom.val (Value.int .i64 x1))), (5, PV.a (Atom.val (Value.int .i64 v5)))]
def L59_2 (v5 : Int) (x1 : Int) (x0 : List TyB2) : Heap := [Option.some (Arr.mk YA4 x0 false Option.none Option.none)]
mutual
def R59 : Nat → List TyB2 → Int → List Dyn → List (Option Lst) → Prop
  | 0, _, _, _, _ => False
  | n + 1, x0, x1, ds, us => (R59_2 n (0) (x1) (x0) ds us)
def R59_2 : Nat → Int → Int → List TyB2 → List Dyn → List (Option Lst) → Prop
  | 0, _, _, _, _, _ => False
  | n + 1, v5, x1, x0, ds, us => (if (decide (v5 < (↑(List.length x0) : Int))) = true then ((0 ≤ v5) ∧ (v5 < (↑(List.length x0) : Int)) ∧ ((InR .i64 (x1 + 1)) ∧ ((0 ≤ v5) ∧ (v5 < (↑(List.length (List.set x0 (Int.toNat v5) (x1, (List.getD x0 (Int.toNat v5) (0, 0, 0, ())).2))) : Int)) ∧ ((InR .i64 (x1 + 1 + 1)) ∧ ((0 ≤ v5) ∧ (v5 < (↑(List.length (List.set (List.set x0 (Int.toNat v5) (x1, (List.getD x0 (Int.toNat v5) (0, 0, 0, ())).2)) (Int.toNat v5) ((List.getD (List.set x0 (Int.toNat v5) (x1, (List.getD x0 (Int.toNat v5) (0, 0, 0, ())).2)) (Int.toNat v5) (0, 0, 0, ())).1, x1 + 1, (List.getD (List.set x0 (Int.toNat v5) (x1, (List.getD x0 (Int.toNat v5) (0, 0, 0, ())).2)) (Int.toNat v5) (0, 0, 0, ())).2.2))) : Int)) ∧ ((InR .i64 (x1 + 1 + 1 + 1)) ∧ ((InR .i64 (v5 + 1)) ∧ (R59_2 n (v5 + 1) (x1 + 1 + 1 + 1) (List.set (List.set (List.set x0 (Int.toNat v5) (x1, (List.getD x0 (Int.toNat v5) (0, 0, 0, ())).2)) (Int.toNat v5) ((List.getD (List.set x0 (Int.toNat v5) (x1, (List.getD x0 (Int.toNat v5) (0, 0, 0, ())).2)) (Int.toNat v5) (0, 0, 0, ())).1, x1 + 1, (List.getD (List.set x0 (Int.toNat v5) (x1, (List.getD x0 (Int.toNat v5) (0, 0, 0, ())).2)) (Int.toNat v5) (0, 0, 0, ())).2.2)) (Int.toNat v5) ((List.getD (List.set (List.set x0 (Int.toNat v5) (x1, (List.getD x0 (Int.toNat v5) (0, 0, 0, ())).2)) (Int.toNat v5) ((List.getD (List.set x0 (Int.toNat v5) (x1, (List.getD x0 (Int.toNat v5) (0, 0, 0, ())).2)) (Int.toNat v5) (0, 0, 0, ())).1, x1 + 1, (List.getD (List.set x0 (Int.toNat v5) (x1, (List.getD x0 (Int.toNat v5) (0, 0, 0, ())).2)) (Int.toNat v5) (0, 0, 0, ())).2.2)) (Int.toNat v5) (0, 0, 0, ())).1, (List.getD (List.set (List.set x0 (Int.toNat v5) (x1, (List.getD x0 (Int.toNat v5) (0, 0, 0, ())).2)) (Int.toNat v5) ((List.getD (List.set x0 (Int.toNat v5) (x1, (List.getD x0 (Int.toNat v5) (0, 0, 0, ())).2)) (Int.toNat v5) (0, 0, 0, ())).1, x1 + 1, (List.getD (List.set x0 (Int.toNat v5) (x1, (List.getD x0 (Int.toNat v5) (0, 0, 0, ())).2)) (Int.toNat v5) (0, 0, 0, ())).2.2)) (Int.toNat v5) (0, 0, 0, ())).2.1, x1 + 1 + 1, (List.getD (List.set (List.set x0 (Int.toNat v5) (x1, (List.getD x0 (Int.toNat v5) (0, 0, 0, ())).2)) (Int.toNat v5) ((List.getD (List.set x0 (Int.toNat v5) (x1, (List.getD x0 (Int.toNat v5) (0, 0, 0, ())).2)) (Int.toNat v5) (0, 0, 0, ())).1, x1 + 1, (List.getD (List.set x0 (Int.toNat v5) (x1, (List.getD x0 (Int.toNat v5) (0, 0, 0, ())).2)) (Int.toNat v5) (0, 0, 0, ())).2.2)) (Int.toNat v5) (0, 0, 0, ())).2.2.2)) ds us)))))))) else (ds = [Dyn.mk (Ty.int .i64) x1] ∧ us = [Option.some (Lst.mk YA4 x0)]))
end
theorem snd59 : ∀ n, (∀ (x0 : List TyB2) (x1 : Int) ds us, R59 n x0 x1 ds us → ∀ K q, AtV Tryz.prog 59 (PostR kds59 oks59 ds us [0] q K) 34 K q [0] [.code b59] (entE 0 0 sig59 (x0, x1, ())) (entL sig59 (x0, x1, ()))) ∧ (∀ (v5 : Int) (x1 : Int) (x0 : List TyB2) ds us, R59_2 n v5 x1 x0 ds us → ∀ K q, AtV Tryz.prog 59 (PostR kds59 oks59 ds us [0] q K) 34 K q [0] (cutAt b59 2) (E59_2 v5 x1 x0) (L59_2 v5 x1 x0)) := by
  intro n
  induction n with
  | zero => exact ⟨fun _ _ _ _ h => by simp only [R59] at h, fun _ _ _ _ _ h => by simp only [R59_2] at h⟩
  | succ n ih =>
  obtain ⟨ih, ih2⟩ := ih
  refine ⟨?_, ?_⟩
  · intro x0 x1 ds us h K q
    rw [R59] at h
    exact AtV.go tabOk ext59Ok mixed false [] [] [0, 1, 5] [0] [] trivial (ih2 _ _ _ _ _ h K q) (by kernel_rfl)
  · intro v5 x1 x0 ds us h K q
    rw [R59_2] at h
    by_cases b0 : (decide (v5 < (↑(List.length x0) : Int))) = true
    · rw [if_pos b0] at h
      obtain ⟨s0, s1, h⟩ := h
      obtain ⟨s2, h⟩ := h
      obtain ⟨s3, s4, h⟩ := h
      obtain ⟨s5, h⟩ := h
      obtain ⟨s6, s7, h⟩ := h
      obtain ⟨s8, h⟩ := h
      obtain ⟨s9, h⟩ := h
      exact AtV.go tabOk ext59Ok mixed false [] [] [0, 1, 5] [0] [true] (a1 b0 (a1 s0 (a1 s1 (a1 s2 (a1 s3 (a1 s4 (a1 s5 (a1 s6 (a1 s7 (a1 s8 (a1 s9 trivial))))))))))) (ih2 _ _ _ _ _ h K q) (by kernel_rfl)
    · rw [if_neg b0] at h
      replace b0 := Bool.eq_false_iff.2 b0
      obtain ⟨h, h'⟩ := h; subst h; subst h'
      exact AtV.ret Tryz.func59 tabOk ext59Ok mixed false [] tys59 [false] (a1 b0 trivial) (by kernel_rfl)
def M59 (x1 : Int) (n : Nat) : List TyB2 := (List.range n).map fun (j : Nat) => ((x1 + 3 * (j : Int)), (x1 + 3 * (j : Int) + 1), (x1 + 3 * (j : Int) + 1 + 1), ())
theorem M59_len (x1 : Int) (n : Nat) : (M59 x1 n).length = n := by simp [M59]
theorem M59_succ (x1 : Int) (n : Nat) : M59 x1 (n + 1) = M59 x1 n ++ [((x1 + 3 * (n : Int)), (x1 + 3 * (n : Int) + 1), (x1 + 3 * (n : Int) + 1 + 1), ())] := by
  simp [M59, List.range_succ]
theorem run59 (x0 : List TyB2) (x1 : Int) (hm : x0.length ≤ maxLen) (h0 : 0 ≤ x1) (h1 : x1 + 3 * x0.length ≤ 9223372036854775807) : ∀ (k i : Nat), i + k = x0.length →
    R59_2 (k + 1) (i : Int) (x1 + 3 * (i : Int)) (M59 x1 i ++ x0.drop i) [⟨.int .i64, x1 + 3 * (x0.length : Int)⟩] [some ⟨(.cons (.int .i64) (.cons (.int .i64) (.cons (.int .i64) .unit))), M59 x1 x0.length⟩] := by
  intro k
  induction k with
  | zero =>
    intro i hi
    have hl : (M59 x1 i ++ x0.drop i).length = x0.length := by simp [M59_len]; omega
    rw [R59_2, if_neg (by rw [hl]; simp; omega), drop_end x0 i (by omega), List.append_nil]
    have : i = x0.length := by omega
    subst this
    exact ⟨rfl, rfl⟩
  | succ k ih =>
    intro i hi
    have hl : (M59 x1 i ++ x0.drop i).length = x0.length := by simp [M59_len]; omega
    have hA := M59_len x1 i
    rw [R59_2, if_pos (by rw [hl]; simp; omega)]
    rw [drop_get x0 i ((0 : Int), (0 : Int), (0 : Int), ()) (by omega)] at hl ⊢
    simp only [Int.toNat_natCast, set_mid _ _ _ _ i hA, get_mid _ _ _ _ i hA]
    have hl' : ∀ y : TyB2, ((M59 x1 i ++ y :: x0.drop (i + 1)).length : Int) = x0.length := fun y => by rw [← hl]; simp
    simp only [hl']
    refine ⟨by omega, by omega, by rw [i64_iff]; omega, by omega, by omega, by rw [i64_iff]; omega, by omega, by omega, by rw [i64_iff]; omega, inR_up hm (by omega), ?_⟩
    have hx : x1 + 3 * (i : Int) + 1 + 1 + 1 = x1 + 3 * ((i + 1 : Nat) : Int) := by omega
    have := ih (i + 1) (by omega)
    rw [M59_succ, List.append_assoc] at this
    rw [hx]
    simpa using this
def P59 (x0 : List TyB2) (x1 : Int) : Prop := 0 ≤ x1 ∧ x1 + 3 * x0.length ≤ 9223372036854775807
def g59_0 (x0 : List TyB2) (x1 : Int) : Int := x1 + 3 * (x0.length : Int)
def u59_0 (x0 : List TyB2) (x1 : Int) : List TyB2 := M59 x1 x0.length
theorem top59 (x0 : List TyB2) (x1 : Int) (hm : x0.length ≤ maxLen) (h : P59 x0 x1) : R59 (x0.length + 1 + 1) x0 x1 [⟨.int .i64, g59_0 x0 x1⟩] [some ⟨(.cons (.int .i64) (.cons (.int .i64) (.cons (.int .i64) .unit))), u59_0 x0 x1⟩] := by
  rw [R59]
  have := run59 x0 x1 hm h.1 h.2 x0.length 0 (by omega)
  simpa [M59, g59_0, u59_0] using this
def S59 : Am.Spec := { sig := sig59, pre := fun ⟨x0, x1, _⟩ => P59 x0 x1, upd := fun ⟨x0, x1, _⟩ => [some ⟨(.cons (.int .i64) (.cons (.int .i64) (.cons (.int .i64) .unit))), u59_0 x0 x1⟩], res := fun ⟨x0, x1, _⟩ => [⟨.int .i64, g59_0 x0 x1⟩] }
theorem con59 : Contract Tryz.prog 59 S59 := contract_of Tryz.func59 hb59 (Nat.le_of_ble_eq_true (by kernel_rfl)) (fun ⟨x0, x1, _⟩ h hwf K q =>
  (snd59 _).1 x0 x1 _ _ (top59 x0 x1 hwf.1.1 h) K q)
end
noncomputable section
def ext60 : Ext := [(65, S65)]
theorem ext60Ok : ExtOk Tryz.prog ext60 := ⟨⟨ca65, con65⟩, trivial⟩
noncomputable def b60 : Code := bodyOf Tryz.f60
theorem hb60 : Tryz.f60.body = some b60 := by kernel_rfl
def sig60 : List AT := [AT.own YA5, AT.v (Ty.int .i64)]
def tys60 : List Ty := [Ty.int .i64]
def kds60 : List RK := []
def oks60 : List AT := owns sig60
def E60_2 (v5 : Int) (x1 : Int) (x0 : List TyB1) : Env := [(0, PV.a (Atom.osl 0 Option.none)), (1, PV.a (Atom.val (Value.int .i64 x1))), (5, PV.a (Atom.val (Value.int .i64 v5)))]
def L60_2 (v5 : Int) (x1 : Int) (x0 : List TyB1) : Heap := [Option.some (Arr.mk YA5 x0 false Option.none Option.none)]
mutual
def R60 : Nat → List TyB1 → Int → List Dyn → List (Option Lst) → Prop
  | 0, _, _, _, _ => False
  | n + 1, x0, x1, ds, us => (R60_2 n (0) (x1) (x0) ds us)
def R60_2 : Nat → Int → Int → List TyB1 → List Dyn → List (Option Lst) → Prop
  | 0, _, _, _, _, _ => False
  | n + 1, v5, x1, x0, ds, us => (if (decide (v5 < (↑(List.length x0) : Int))) = true then ((0 ≤ v5) ∧ (v5 < (↑(List.length x0) : Int)) ∧ ((InR .i64 (x1 + 1)) ∧ ((0 ≤ v5) ∧ (v5 < (↑(List.length (List.set x0 (Int.toNat v5) (g65_0 x1, (List.getD x0 (Int.toNat v5) (ByteArray.empty, 0, 0, ())).2))) : Int)) ∧ ((InR .i64 (x1 + 1 + 1)) ∧ ((0 ≤ v5) ∧ (v5 < (↑(List.length (List.set (List.set x0 (Int.toNat v5) (g65_0 x1, (List.getD x0 (Int.toNat v5) (ByteArray.empty, 0, 0, ())).2)) (Int.toNat v5) ((List.getD (List.set x0 (Int.toNat v5) (g65_0 x1, (List.getD x0 (Int.toNat v5) (ByteArray.empty, 0, 0, ())).2)) (Int.toNat v5) (ByteArray.empty, 0, 0, ())).1, x1 + 1, (List.getD (List.set x0 (Int.toNat v5) (g65_0 x1, (List.getD x0 (Int.toNat v5) (ByteArray.empty, 0, 0, ())).2)) (Int.toNat v5) (ByteArray.empty, 0, 0, ())).2.2))) : Int)) ∧ ((InR .i64 (x1 + 1 + 1 + 1)) ∧ ((InR .i64 (v5 + 1)) ∧ (R60_2 n (v5 + 1) (x1 + 1 + 1 + 1) (List.set (List.set (List.set x0 (Int.toNat v5) (g65_0 x1, (List.getD x0 (Int.toNat v5) (ByteArray.empty, 0, 0, ())).2)) (Int.toNat v5) ((List.getD (List.set x0 (Int.toNat v5) (g65_0 x1, (List.getD x0 (Int.toNat v5) (ByteArray.empty, 0, 0, ())).2)) (Int.toNat v5) (ByteArray.empty, 0, 0, ())).1, x1 + 1, (List.getD (List.set x0 (Int.toNat v5) (g65_0 x1, (List.getD x0 (Int.toNat v5) (ByteArray.empty, 0, 0, ())).2)) (Int.toNat v5) (ByteArray.empty, 0, 0, ())).2.2)) (Int.toNat v5) ((List.getD (List.set (List.set x0 (Int.toNat v5) (g65_0 x1, (List.getD x0 (Int.toNat v5) (ByteArray.empty, 0, 0, ())).2)) (Int.toNat v5) ((List.getD (List.set x0 (Int.toNat v5) (g65_0 x1, (List.getD x0 (Int.toNat v5) (ByteArray.empty, 0, 0, ())).2)) (Int.toNat v5) (ByteArray.empty, 0, 0, ())).1, x1 + 1, (List.getD (List.set x0 (Int.toNat v5) (g65_0 x1, (List.getD x0 (Int.toNat v5) (ByteArray.empty, 0, 0, ())).2)) (Int.toNat v5) (ByteArray.empty, 0, 0, ())).2.2)) (Int.toNat v5) (ByteArray.empty, 0, 0, ())).1, (List.getD (List.set (List.set x0 (Int.toNat v5) (g65_0 x1, (List.getD x0 (Int.toNat v5) (ByteArray.empty, 0, 0, ())).2)) (Int.toNat v5) ((List.getD (List.set x0 (Int.toNat v5) (g65_0 x1, (List.getD x0 (Int.toNat v5) (ByteArray.empty, 0, 0, ())).2)) (Int.toNat v5) (ByteArray.empty, 0, 0, ())).1, x1 + 1, (List.getD (List.set x0 (Int.toNat v5) (g65_0 x1, (List.getD x0 (Int.toNat v5) (ByteArray.empty, 0, 0, ())).2)) (Int.toNat v5) (ByteArray.empty, 0, 0, ())).2.2)) (Int.toNat v5) (ByteArray.empty, 0, 0, ())).2.1, x1 + 1 + 1, (List.getD (List.set (List.set x0 (Int.toNat v5) (g65_0 x1, (List.getD x0 (Int.toNat v5) (ByteArray.empty, 0, 0, ())).2)) (Int.toNat v5) ((List.getD (List.set x0 (Int.toNat v5) (g65_0 x1, (List.getD x0 (Int.toNat v5) (ByteArray.empty, 0, 0, ())).2)) (Int.toNat v5) (ByteArray.empty, 0, 0, ())).1, x1 + 1, (List.getD (List.set x0 (Int.toNat v5) (g65_0 x1, (List.getD x0 (Int.toNat v5) (ByteArray.empty, 0, 0, ())).2)) (Int.toNat v5) (ByteArray.empty, 0, 0, ())).2.2)) (Int.toNat v5) (ByteArray.empty, 0, 0, ())).2.2.2)) ds us)))))))) else (ds = [Dyn.mk (Ty.int .i64) x1] ∧ us = [Option.some (Lst.mk YA5 x0)]))
end
theorem snd60 : ∀ n, (∀ (x0 : List TyB1) (x1 : Int) ds us, R60 n x0 x1 ds us → ∀ K q, AtV Tryz.prog 60 (PostR kds60 oks60 ds us [0] q K) 35 K q [0] [.code b60] (entE 0 0 sig60 (x0, x1, ())) (entL sig60 (x0, x1, ()))) ∧ (∀ (v5 : Int) (x1 : Int) (x0 : List TyB1) ds us, R60_2 n v5 x1 x0 ds us → ∀ K q, AtV Tryz.prog 60 (PostR kds60 oks60 ds us [0] q K) 35 K q [0] (cutAt b60 2) (E60_2 v5 x1 x0) (L60_2 v5 x1 x0)) := by
  intro n
  induction n with
  | zero => exact ⟨fun _ _ _ _ h => by simp only [R60] at h, fun _ _ _ _ _ h => by simp only [R60_2] at h⟩
  | succ n ih =>
  obtain ⟨ih, ih2⟩ := ih
  refine ⟨?_, ?_⟩
  · intro x0 x1 ds us h K q
    rw [R60] at h
    exact AtV.go tabOk ext60Ok mixed false [] [] [0, 1, 5] [0] [] trivial (ih2 _ _ _ _ _ h K q) (by kernel_rfl)
  · intro v5 x1 x0 ds us h K q
    rw [R60_2] at h
    by_cases b0 : (decide (v5 < (↑(List.length x0) : Int))) = true
    · rw [if_pos b0] at h
      obtain ⟨s0, s1, h⟩ := h
      obtain ⟨s2, h⟩ := h
      obtain ⟨s3, s4, h⟩ := h
      obtain ⟨s5, h⟩ := h
      obtain ⟨s6, s7, h⟩ := h
      obtain ⟨s8, h⟩ := h
      obtain ⟨s9, h⟩ := h
      exact AtV.go tabOk ext60Ok mixed false [] [] [0, 1, 5] [0] [true] (a1 b0 (a1 trivial (a1 s0 (a1 s1 (a1 s2 (a1 s3 (a1 s4 (a1 s5 (a1 s6 (a1 s7 (a1 s8 (a1 s9 trivial)))))))))))) (ih2 _ _ _ _ _ h K q) (by kernel_rfl)
    · rw [if_neg b0] at h
      replace b0 := Bool.eq_false_iff.2 b0
      obtain ⟨h, h'⟩ := h; subst h; subst h'
      exact AtV.ret Tryz.func60 tabOk ext60Ok mixed false [] tys60 [false] (a1 b0 trivial) (by kernel_rfl)
def M60 (x1 : Int) (n : Nat) : List TyB1 := (List.range n).map fun (j : Nat) => (g65_0 (x1 + 3 * (j : Int)), (x1 + 3 * (j : Int) + 1), (x1 + 3 * (j : Int) + 1 + 1), ())
theorem M60_len (x1 : Int) (n : Nat) : (M60 x1 n).length = n := by simp [M60]
theorem M60_succ (x1 : Int) (n : Nat) : M60 x1 (n + 1) = M60 x1 n ++ [(g65_0 (x1 + 3 * (n : Int)), (x1 + 3 * (n : Int) + 1), (x1 + 3 * (n : Int) + 1 + 1), ())] := by
  simp [M60, List.range_succ]
theorem run60 (x0 : List TyB1) (x1 : Int) (hm : x0.length ≤ maxLen) (h0 : 0 ≤ x1) (h1 : x1 + 3 * x0.length ≤ 9223372036854775807) : ∀ (k i : Nat), i + k = x0.length →
    R60_2 (k + 1) (i : Int) (x1 + 3 * (i : Int)) (M60 x1 i ++ x0.drop i) [⟨.int .i64, x1 + 3 * (x0.length : Int)⟩] [some ⟨(.cons .str (.cons (.int .i64) (.cons (.int .i64) .unit))), M60 x1 x0.length⟩] := by
  intro k
  induction k with
  | zero =>
    intro i hi
    have hl : (M60 x1 i ++ x0.drop i).length = x0.length := by simp [M60_len]; omega
    rw [R60_2, if_neg (by rw [hl]; simp; omega), drop_end x0 i (by omega), List.append_nil]
    have : i = x0.length := by omega
    subst this
    exact ⟨rfl, rfl⟩
  | succ k ih =>
    intro i hi
    have hl : (M60 x1 i ++ x0.drop i).length = x0.length := by simp [M60_len]; omega
    have hA := M60_len x1 i
    rw [R60_2, if_pos (by rw [hl]; simp; omega)]
    rw [drop_get x0 i (ByteArray.empty, (0 : Int), (0 : Int), ()) (by omega)] at hl ⊢
    simp only [Int.toNat_natCast, set_mid _ _ _ _ i hA, get_mid _ _ _ _ i hA]
    have hl' : ∀ y : TyB1, ((M60 x1 i ++ y :: x0.drop (i + 1)).length : Int) = x0.length := fun y => by rw [← hl]; simp
    simp only [hl']
    refine ⟨by omega, by omega, by rw [i64_iff]; omega, by omega, by omega, by rw [i64_iff]; omega, by omega, by omega, by rw [i64_iff]; omega, inR_up hm (by omega), ?_⟩
    have hx : x1 + 3 * (i : Int) + 1 + 1 + 1 = x1 + 3 * ((i + 1 : Nat) : Int) := by omega
    have := ih (i + 1) (by omega)
    rw [M60_succ, List.append_assoc] at this
    rw [hx]
    simpa using this
def P60 (x0 : List TyB1) (x1 : Int) : Prop := 0 ≤ x1 ∧ x1 + 3 * x0.length ≤ 9223372036854775807
def g60_0 (x0 : List TyB1) (x1 : Int) : Int := x1 + 3 * (x0.length : Int)
def u60_0 (x0 : List TyB1) (x1 : Int) : List TyB1 := M60 x1 x0.length
theorem top60 (x0 : List TyB1) (x1 : Int) (hm : x0.length ≤ maxLen) (h : P60 x0 x1) : R60 (x0.length + 1 + 1) x0 x1 [⟨.int .i64, g60_0 x0 x1⟩] [some ⟨(.cons .str (.cons (.int .i64) (.cons (.int .i64) .unit))), u60_0 x0 x1⟩] := by
  rw [R60]
  have := run60 x0 x1 hm h.1 h.2 x0.length 0 (by omega)
  simpa [M60, g60_0, u60_0] using this
def S60 : Am.Spec := { sig := sig60, pre := fun ⟨x0, x1, _⟩ => P60 x0 x1, upd := fun ⟨x0, x1, _⟩ => [some ⟨(.cons .str (.cons (.int .i64) (.cons (.int .i64) .unit))), u60_0 x0 x1⟩], res := fun ⟨x0, x1, _⟩ => [⟨.int .i64, g60_0 x0 x1⟩] }
theorem con60 : Contract Tryz.prog 60 S60 := contract_of Tryz.func60 hb60 (Nat.le_of_ble_eq_true (by kernel_rfl)) (fun ⟨x0, x1, _⟩ h hwf K q =>
  (snd60 _).1 x0 x1 _ _ (top60 x0 x1 hwf.1.1 h) K q)
end
noncomputable section
def ext61 : Ext := [(65, S65)]
theorem ext61Ok : ExtOk Tryz.prog ext61 := ⟨⟨ca65, con65⟩, trivial⟩
noncomputable def b61 : Code := bodyOf Tryz.f61
theorem hb61 : Tryz.f61.body = some b61 := by kernel_rfl
def sig61 : List AT := [AT.own YA3, AT.v (Ty.int .i64)]
def tys61 : List Ty := [Ty.int .i64]
def kds61 : List RK := []
def oks61 : List AT := owns sig61
def E61_2 (v5 : Int) (x1 : Int) (x0 : List TyB0) : Env := [(0, PV.a (Atom.osl 0 Option.none)), (1, PV.a (Atom.val (Value.int .i64 x1))), (5, PV.a (Atom.val (Value.int .i64 v5)))]
def L61_2 (v5 : Int) (x1 : Int) (x0 : List TyB0) : Heap := [Option.some (Arr.mk YA3 x0 false Option.none Option.none)]
mutual
def R61 : Nat → List TyB0 → Int → List Dyn → List (Option Lst) → Prop
  | 0, _, _, _, _ => False
  | n + 1, x0, x1, ds, us => (R61_2 n (0) (x1) (x0) ds us)
def R61_2 : Nat → Int → Int → List TyB0 → List Dyn → List (Option Lst) → Prop
  | 0, _, _, _, _, _ => False
  | n + 1, v5, x1, x0, ds, us => (if (decide (v5 < (↑(List.length x0) : Int))) = true then ((0 ≤ v5) ∧ (v5 < (↑(List.length x0) : Int)) ∧ ((InR .i64 (x1 + 1)) ∧ ((0 ≤ v5) ∧ (v5 < (↑(List.length (List.set x0 (Int.toNat v5) (g65_0 x1, (List.getD x0 (Int.toNat v5) (ByteArray.empty, 0, 0, 0, ())).2))) : Int)) ∧ ((InR .i64 (x1 + 1 + 1)) ∧ ((0 ≤ v5) ∧ (v5 < (↑(List.length (List.set (List.set x0 (Int.toNat v5) (g65_0 x1, (List.getD x0 (Int.toNat v5) (ByteArray.empty, 0, 0, 0, ())).2)) (Int.toNat v5) ((List.getD (List.set x0 (Int.toNat v5) (g65_0 x1, (List.getD x0 (Int.toNat v5) (ByteArray.empty, 0, 0, 0, ())).2)) (Int.toNat v5) (ByteArray.empty, 0, 0, 0, ())).1, x1 + 1, (List.getD (List.set x0 (Int.toNat v5) (g65_0 x1, (List.getD x0 (Int.toNat v5) (ByteArray.empty, 0, 0, 0, ())).2)) (Int.toNat v5) (ByteArray.empty, 0, 0, 0, ())).2.2))) : Int)) ∧ ((InR .i64 (x1 + 1 + 1 + 1)) ∧ ((0 ≤ v5) ∧ (v5 < (↑(List.length (List.set (List.set (List.set x0 (Int.toNat v5) (g65_0 x1, (List.getD x0 (Int.toNat v5) (ByteArray.empty, 0, 0, 0, ())).2)) (Int.toNat v5) ((List.getD (List.set x0 (Int.toNat v5) (g65_0 x1, (List.getD x0 (Int.toNat v5) (ByteArray.empty, 0, 0, 0, ())).2)) (Int.toNat v5) (ByteArray.empty, 0, 0, 0, ())).1, x1 + 1, (List.getD (List.set x0 (Int.toNat v5) (g65_0 x1, (List.getD x0 (Int.toNat v5) (ByteArray.empty, 0, 0, 0, ())).2)) (Int.toNat v5) (ByteArray.empty, 0, 0, 0, ())).2.2)) (Int.toNat v5) ((List.getD (List.set (List.set x0 (Int.toNat v5) (g65_0 x1, (List.getD x0 (Int.toNat v5) (ByteArray.empty, 0, 0, 0, ())).2)) (Int.toNat v5) ((List.getD (List.set x0 (Int.toNat v5) (g65_0 x1, (List.getD x0 (Int.toNat v5) (ByteArray.empty, 0, 0, 0, ())).2)) (Int.toNat v5) (ByteArray.empty, 0, 0, 0, ())).1, x1 + 1, (List.getD (List.set x0 (Int.toNat v5) (g65_0 x1, (List.getD x0 (Int.toNat v5) (ByteArray.empty, 0, 0, 0, ())).2)) (Int.toNat v5) (ByteArray.empty, 0, 0, 0, ())).2.2)) (Int.toNat v5) (ByteArray.empty, 0, 0, 0, ())).1, (List.getD (List.set (List.set x0 (Int.toNat v5) (g65_0 x1, (List.getD x0 (Int.toNat v5) (ByteArray.empty, 0, 0, 0, ())).2)) (Int.toNat v5) ((List.getD (List.set x0 (Int.toNat v5) (g65_0 x1, (List.getD x0 (Int.toNat v5) (ByteArray.empty, 0, 0, 0, ())).2)) (Int.toNat v5) (ByteArray.empty, 0, 0, 0, ())).1, x1 + 1, (List.getD (List.set x0 (Int.toNat v5) (g65_0 x1, (List.getD x0 (Int.toNat v5) (ByteArray.empty, 0, 0, 0, ())).2)) (Int.toNat v5) (ByteArray.empty, 0, 0, 0, ())).2.2)) (Int.toNat v5) (ByteArray.empty, 0, 0, 0, ())).2.1, x1 + 1 + 1, (List.getD (List.set (List.set x0 (Int.toNat v5) (g65_0 x1, (List.getD x0 (Int.toNat v5) (ByteArray.empty, 0, 0, 0, ())).2)) (Int.toNat v5) ((List.getD (List.set x0 (Int.toNat v5) (g65_0 x1, (List.getD x0 (Int.toNat v5) (ByteArray.empty, 0, 0, 0, ())).2)) (Int.toNat v5) (ByteArray.empty, 0, 0, 0, ())).1, x1 + 1, (List.getD (List.set x0 (Int.toNat v5) (g65_0 x1, (List.getD x0 (Int.toNat v5) (ByteArray.empty, 0, 0, 0, ())).2)) (Int.toNat v5) (ByteArray.empty, 0, 0, 0, ())).2.2)) (Int.toNat v5) (ByteArray.empty, 0, 0, 0, ())).2.2.2))) : Int)) ∧ ((InR .i64 (x1 + 1 + 1 + 1 + 1)) ∧ ((InR .i64 (v5 + 1)) ∧ (R61_2 n (v5 + 1) (x1 + 1 + 1 + 1 + 1) (List.set (List.set (List.set (List.set x0 (Int.toNat v5) (g65_0 x1, (List.getD x0 (Int.toNat v5) (ByteArray.empty, 0, 0, 0, ())).2)) (Int.toNat v5) ((List.getD (List.set x0 (Int.toNat v5) (g65_0 x1, (List.getD x0 (Int.toNat v5) (ByteArray.empty, 0, 0, 0, ())).2)) (Int.toNat v5) (ByteArray.empty, 0, 0, 0, ())).1, x1 + 1, (List.getD (List.set x0 (Int.toNat v5) (g65_0 x1, (List.getD x0 (Int.toNat v5) (ByteArray.empty, 0, 0, 0, ())).2)) (Int.toNat v5) (ByteArray.empty, 0, 0, 0, ())).2.2)) (Int.toNat v5) ((List.getD (List.set (List.set x0 (Int.toNat v5) (g65_0 x1, (List.getD x0 (Int.toNat v5) (ByteArray.empty, 0, 0, 0, ())).2)) (Int.toNat v5) ((List.getD (List.set x0 (Int.toNat v5) (g65_0 x1, (List.getD x0 (Int.toNat v5) (ByteArray.empty, 0, 0, 0, ())).2)) (Int.toNat v5) (ByteArray.empty, 0, 0, 0, ())).1, x1 + 1, (List.getD (List.set x0 (Int.toNat v5) (g65_0 x1, (List.getD x0 (Int.toNat v5) (ByteArray.empty, 0, 0, 0, ())).2)) (Int.toNat v5) (ByteArray.empty, 0, 0, 0, ())).2.2)) (Int.toNat v5) (ByteArray.empty, 0, 0, 0, ())).1, (List.getD (List.set (List.set x0 (Int.toNat v5) (g65_0 x1, (List.getD x0 (Int.toNat v5) (ByteArray.empty, 0, 0, 0, ())).2)) (Int.toNat v5) ((List.getD (List.set x0 (Int.toNat v5) (g65_0 x1, (List.getD x0 (Int.toNat v5) (ByteArray.empty, 0, 0, 0, ())).2)) (Int.toNat v5) (ByteArray.empty, 0, 0, 0, ())).1, x1 + 1, (List.getD (List.set x0 (Int.toNat v5) (g65_0 x1, (List.getD x0 (Int.toNat v5) (ByteArray.empty, 0, 0, 0, ())).2)) (Int.toNat v5) (ByteArray.empty, 0, 0, 0, ())).2.2)) (Int.toNat v5) (ByteArray.empty, 0, 0, 0, ())).2.1, x1 + 1 + 1, (List.getD (List.set (List.set x0 (Int.toNat v5) (g65_0 x1, (List.getD x0 (Int.toNat v5) (ByteArray.empty, 0, 0, 0, ())).2)) (Int.toNat v5) ((List.getD (List.set x0 (Int.toNat v5) (g65_0 x1, (List.getD x0 (Int.toNat v5) (ByteArray.empty, 0, 0, 0, ())).2)) (Int.toNat v5) (ByteArray.empty, 0, 0, 0, ())).1, x1 + 1, (List.getD (List.set x0 (Int.toNat v5) (g65_0 x1, (List.getD x0 (Int.toNat v5) (ByteArray.empty, 0, 0, 0, ())).2)) (Int.toNat v5) (ByteArray.empty, 0, 0, 0, ())).2.2)) (Int.toNat v5) (ByteArray.empty, 0, 0, 0, ())).2.2.2)) (Int.toNat v5) ((List.getD (List.set (List.set (List.set x0 (Int.toNat v5) (g65_0 x1, (List.getD x0 (Int.toNat v5) (ByteArray.empty, 0, 0, 0, ())).2)) (Int.toNat v5) ((List.getD (List.set x0 (Int.toNat v5) (g65_0 x1, (List.getD x0 (Int.toNat v5) (ByteArray.empty, 0, 0, 0, ())).2)) (Int.toNat v5) (ByteArray.empty, 0, 0, 0, ())).1, x1 + 1, (List.getD (List.set x0 (Int.toNat v5) (g65_0 x1, (List.getD x0 (Int.toNat v5) (ByteArray.empty, 0, 0, 0, ())).2)) (Int.toNat v5) (ByteArray.empty, 0, 0, 0, ())).2.2)) (Int.toNat v5) ((List.getD (List.set (List.set x0 (Int.toNat v5) (g65_0 x1, (List.getD x0 (Int.toNat v5) (ByteArray.empty, 0, 0, 0, ())).2)) (Int.toNat v5) ((List.getD (List.set x0 (Int.toNat v5) (g65_0 x1, (List.getD x0 (Int.toNat v5) (ByteArray.empty, 0, 0, 0, ())).2)) (Int.toNat v5) (ByteArray.empty, 0, 0, 0, ())).1, x1 + 1, (List.getD (List.set x0 (Int.toNat v5) (g65_0 x1, (List.getD x0 (Int.toNat v5) (ByteArray.empty, 0, 0, 0, ())).2)) (Int.toNat v5) (ByteArray.empty, 0, 0, 0, ())).2.2)) (Int.toNat v5) (ByteArray.empty, 0, 0, 0, ())).1, (List.getD (List.set (List.set x0 (Int.toNat v5) (g65_0 x1, (List.getD x0 (Int.toNat v5) (ByteArray.empty, 0, 0, 0, ())).2)) (Int.toNat v5) ((List.getD (List.set x0 (Int.toNat v5) (g65_0 x1, (List.getD x0 (Int.toNat v5) (ByteArray.empty, 0, 0, 0, ())).2)) (Int.toNat v5) (ByteArray.empty, 0, 0, 0, ())).1, x1 + 1, (List.getD (List.set x0 (Int.toNat v5) (g65_0 x1, (List.getD x0 (Int.toNat v5) (ByteArray.empty, 0, 0, 0, ())).2)) (Int.toNat v5) (ByteArray.empty, 0, 0, 0, ())).2.2)) (Int.toNat v5) (ByteArray.empty, 0, 0, 0, ())).2.1, x1 + 1 + 1, (List.getD (List.set (List.set x0 (Int.toNat v5) (g65_0 x1, (List.getD x0 (Int.toNat v5) (ByteArray.empty, 0, 0, 0, ())).2)) (Int.toNat v5) ((List.getD (List.set x0 (Int.toNat v5) (g65_0 x1, (List.getD x0 (Int.toNat v5) (ByteArray.empty, 0, 0, 0, ())).2)) (Int.toNat v5) (ByteArray.empty, 0, 0, 0, ())).1, x1 + 1, (List.getD (List.set x0 (Int.toNat v5) (g65_0 x1, (List.getD x0 (Int.toNat v5) (ByteArray.empty, 0, 0, 0, ())).2)) (Int.toNat v5) (ByteArray.empty, 0, 0, 0, ())).2.2)) (Int.toNat v5) (ByteArray.empty, 0, 0, 0, ())).2.2.2)) (Int.toNat v5) (ByteArray.empty, 0, 0, 0, ())).1, (List.getD (List.set (List.set (List.set x0 (Int.toNat v5) (g65_0 x1, (List.getD x0 (Int.toNat v5) (ByteArray.empty, 0, 0, 0, ())).2)) (Int.toNat v5) ((List.getD (List.set x0 (Int.toNat v5) (g65_0 x1, (List.getD x0 (Int.toNat v5) (ByteArray.empty, 0, 0, 0, ())).2)) (Int.toNat v5) (ByteArray.empty, 0, 0, 0, ())).1, x1 + 1, (List.getD (List.set x0 (Int.toNat v5) (g65_0 x1, (List.getD x0 (Int.toNat v5) (ByteArray.empty, 0, 0, 0, ())).2)) (Int.toNat v5) (ByteArray.empty, 0, 0, 0, ())).2.2)) (Int.toNat v5) ((List.getD (List.set (List.set x0 (Int.toNat v5) (g65_0 x1, (List.getD x0 (Int.toNat v5) (ByteArray.empty, 0, 0, 0, ())).2)) (Int.toNat v5) ((List.getD (List.set x0 (Int.toNat v5) (g65_0 x1, (List.getD x0 (Int.toNat v5) (ByteArray.empty, 0, 0, 0, ())).2)) (Int.toNat v5) (ByteArray.empty, 0, 0, 0, ())).1, x1 + 1, (List.getD (List.set x0 (Int.toNat v5) (g65_0 x1, (List.getD x0 (Int.toNat v5) (ByteArray.empty, 0, 0, 0, ())).2)) (Int.toNat v5) (ByteArray.empty, 0, 0, 0, ())).2.2)) (Int.toNat v5) (ByteArray.empty, 0, 0, 0, ())).1, (List.getD (List.set (List.set x0 (Int.toNat v5) (g65_0 x1, (List.getD x0 (Int.toNat v5) (ByteArray.empty, 0, 0, 0, ())).2)) (Int.toNat v5) ((List.getD (List.set x0 (Int.toNat v5) (g65_0 x1, (List.getD x0 (Int.toNat v5) (ByteArray.empty, 0, 0, 0, ())).2)) (Int.toNat v5) (ByteArray.empty, 0, 0, 0, ())).1, x1 + 1, (List.getD (List.set x0 (Int.toNat v5) (g65_0 x1, (List.getD x0 (Int.toNat v5) (ByteArray.empty, 0, 0, 0, ())).2)) (Int.toNat v5) (ByteArray.empty, 0, 0, 0, ())).2.2)) (Int.toNat v5) (ByteArray.empty, 0, 0, 0, ())).2.1, x1 + 1 + 1, (List.getD (List.set (List.set x0 (Int.toNat v5) (g65_0 x1, (List.getD x0 (Int.toNat v5) (ByteArray.empty, 0, 0, 0, ())).2)) (Int.toNat v5) ((List.getD (List.set x0 (Int.toNat v5) (g65_0 x1, (List.getD x0 (Int.toNat v5) (ByteArray.empty, 0, 0, 0, ())).2)) (Int.toNat v5) (ByteArray.empty, 0, 0, 0, ())).1, x1 + 1, (List.getD (List.set x0 (Int.toNat v5) (g65_0 x1, (List.getD x0 (Int.toNat v5) (ByteArray.empty, 0, 0, 0, ())).2)) (Int.toNat v5) (ByteArray.empty, 0, 0, 0, ())).2.2)) (Int.toNat v5) (ByteArray.empty, 0, 0, 0, ())).2.2.2)) (Int.toNat v5) (ByteArray.empty, 0, 0, 0, ())).2.1, (List.getD (List.set (List.set (List.set x0 (Int.toNat v5) (g65_0 x1, (List.getD x0 (Int.toNat v5) (ByteArray.empty, 0, 0, 0, ())).2)) (Int.toNat v5) ((List.getD (List.set x0 (Int.toNat v5) (g65_0 x1, (List.getD x0 (Int.toNat v5) (ByteArray.empty, 0, 0, 0, ())).2)) (Int.toNat v5) (ByteArray.empty, 0, 0, 0, ())).1, x1 + 1, (List.getD (List.set x0 (Int.toNat v5) (g65_0 x1, (List.getD x0 (Int.toNat v5) (ByteArray.empty, 0, 0, 0, ())).2)) (Int.toNat v5) (ByteArray.empty, 0, 0, 0, ())).2.2)) (Int.toNat v5) ((List.getD (List.set (List.set x0 (Int.toNat v5) (g65_0 x1, (List.getD x0 (Int.toNat v5) (ByteArray.empty, 0, 0, 0, ())).2)) (Int.toNat v5) ((List.getD (List.set x0 (Int.toNat v5) (g65_0 x1, (List.getD x0 (Int.toNat v5) (ByteArray.empty, 0, 0, 0, ())).2)) (Int.toNat v5) (ByteArray.empty, 0, 0, 0, ())).1, x1 + 1, (List.getD (List.set x0 (Int.toNat v5) (g65_0 x1, (List.getD x0 (Int.toNat v5) (ByteArray.empty, 0, 0, 0, ())).2)) (Int.toNat v5) (ByteArray.empty, 0, 0, 0, ())).2.2)) (Int.toNat v5) (ByteArray.empty, 0, 0, 0, ())).1, (List.getD (List.set (List.set x0 (Int.toNat v5) (g65_0 x1, (List.getD x0 (Int.toNat v5) (ByteArray.empty, 0, 0, 0, ())).2)) (Int.toNat v5) ((List.getD (List.set x0 (Int.toNat v5) (g65_0 x1, (List.getD x0 (Int.toNat v5) (ByteArray.empty, 0, 0, 0, ())).2)) (Int.toNat v5) (ByteArray.empty, 0, 0, 0, ())).1, x1 + 1, (List.getD (List.set x0 (Int.toNat v5) (g65_0 x1, (List.getD x0 (Int.toNat v5) (ByteArray.empty, 0, 0, 0, ())).2)) (Int.toNat v5) (ByteArray.empty, 0, 0, 0, ())).2.2)) (Int.toNat v5) (ByteArray.empty, 0, 0, 0, ())).2.1, x1 + 1 + 1, (List.getD (List.set (List.set x0 (Int.toNat v5) (g65_0 x1, (List.getD x0 (Int.toNat v5) (ByteArray.empty, 0, 0, 0, ())).2)) (Int.toNat v5) ((List.getD (List.set x0 (Int.toNat v5) (g65_0 x1, (List.getD x0 (Int.toNat v5) (ByteArray.empty, 0, 0, 0, ())).2)) (Int.toNat v5) (ByteArray.empty, 0, 0, 0, ())).1, x1 + 1, (List.getD (List.set x0 (Int.toNat v5) (g65_0 x1, (List.getD x0 (Int.toNat v5) (ByteArray.empty, 0, 0, 0, ())).2)) (Int.toNat v5) (ByteArray.empty, 0, 0, 0, ())).2.2)) (Int.toNat v5) (ByteArray.empty, 0, 0, 0, ())).2.2.2)) (Int.toNat v5) (ByteArray.empty, 0, 0, 0, ())).2.2.1, x1 + 1 + 1 + 1, (List.getD (List.set (List.set (List.set x0 (Int.toNat v5) (g65_0 x1, (List.getD x0 (Int.toNat v5) (ByteArray.empty, 0, 0, 0, ())).2)) (Int.toNat v5) ((List.getD (List.set x0 (Int.toNat v5) (g65_0 x1, (List.getD x0 (Int.toNat v5) (ByteArray.empty, 0, 0, 0, ())).2)) (Int.toNat v5) (ByteArray.empty, 0, 0, 0, ())).1, x1 + 1, (List.getD (List.set x0 (Int.toNat v5) (g65_0 x1, (List.getD x0 (Int.toNat v5) (ByteArray.empty, 0, 0, 0, ())).2)) (Int.toNat v5) (ByteArray.empty, 0, 0, 0, ())).2.2)) (Int.toNat v5) ((List.getD (List.set (List.set x0 (Int.toNat v5) (g65_0 x1, (List.getD x0 (Int.toNat v5) (ByteArray.empty, 0, 0, 0, ())).2)) (Int.toNat v5) ((List.getD (List.set x0 (Int.toNat v5) (g65_0 x1, (List.getD x0 (Int.toNat v5) (ByteArray.empty, 0, 0, 0, ())).2)) (Int.toNat v5) (ByteArray.empty, 0, 0, 0, ())).1, x1 + 1, (List.getD (List.set x0 (Int.toNat v5) (g65_0 x1, (List.getD x0 (Int.toNat v5) (ByteArray.empty, 0, 0, 0, ())).2)) (Int.toNat v5) (ByteArray.empty, 0, 0, 0, ())).2.2)) (Int.toNat v5) (ByteArray.empty, 0, 0, 0, ())).1, (List.getD (List.set (List.set x0 (Int.toNat v5) (g65_0 x1, (List.getD x0 (Int.toNat v5) (ByteArray.empty, 0, 0, 0, ())).2)) (Int.toNat v5) ((List.getD (List.set x0 (Int.toNat v5) (g65_0 x1, (List.getD x0 (Int.toNat v5) (ByteArray.empty, 0, 0, 0, ())).2)) (Int.toNat v5) (ByteArray.empty, 0, 0, 0, ())).1, x1 + 1, (List.getD (List.set x0 (Int.toNat v5) (g65_0 x1, (List.getD x0 (Int.toNat v5) (ByteArray.empty, 0, 0, 0, ())).2)) (Int.toNat v5) (ByteArray.empty, 0, 0, 0, ())).2.2)) (Int.toNat v5) (ByteArray.empty, 0, 0, 0, ())).2.1, x1 + 1 + 1, (List.getD (List.set (List.set x0 (Int.toNat v5) (g65_0 x1, (List.getD x0 (Int.toNat v5) (ByteArray.empty, 0, 0, 0, ())).2)) (Int.toNat v5) ((List.getD (List.set x0 (Int.toNat v5) (g65_0 x1, (List.getD x0 (Int.toNat v5) (ByteArray.empty, 0, 0, 0, ())).2)) (Int.toNat v5) (ByteArray.empty, 0, 0, 0, ())).1, x1 + 1, (List.getD (List.set x0 (Int.toNat v5) (g65_0 x1, (List.getD x0 (Int.toNat v5) (ByteArray.empty, 0, 0, 0, ())).2)) (Int.toNat v5) (ByteArray.empty, 0, 0, 0, ())).2.2)) (Int.toNat v5) (ByteArray.empty, 0, 0, 0, ())).2.2.2)) (Int.toNat v5) (ByteArray.empty, 0, 0, 0, ())).2.2.2.2)) ds us)))))))))) else (ds = [Dyn.mk (Ty.int .i64) x1] ∧ us = [Option.some (Lst.mk YA3 x0)]))
end
theorem snd61 : ∀ n, (∀ (x0 : List TyB0) (x1 : Int) ds us, R61 n x0 x1 ds us → ∀ K q, AtV Tryz.prog 61 (PostR kds61 oks61 ds us [0] q K) 42 K q [0] [.code b61] (entE 0 0 sig61 (x0, x1, ())) (entL sig61 (x0, x1, ()))) ∧ (∀ (v5 : Int) (x1 : Int) (x0 : List TyB0) ds us, R61_2 n v5 x1 x0 ds us → ∀ K q, AtV Tryz.prog 61 (PostR kds61 oks61 ds us [0] q K) 42 K q [0] (cutAt b61 2) (E61_2 v5 x1 x0) (L61_2 v5 x1 x0)) := by
  intro n
  induction n with
  | zero => exact ⟨fun _ _ _ _ h => by simp only [R61] at h, fun _ _ _ _ _ h => by simp only [R61_2] at h⟩
  | succ n ih =>
  obtain ⟨ih, ih2⟩ := ih
  refine ⟨?_, ?_⟩
  · intro x0 x1 ds us h K q
    rw [R61] at h
    exact AtV.go tabOk ext61Ok mixed false [] [] [0, 1, 5] [0] [] trivial (ih2 _ _ _ _ _ h K q) (by kernel_rfl)
  · intro v5 x1 x0 ds us h K q
    rw [R61_2] at h
    by_cases b0 : (decide (v5 < (↑(List.length x0) : Int))) = true
    · rw [if_pos b0] at h
      obtain ⟨s0, s1, h⟩ := h
      obtain ⟨s2, h⟩ := h
      obtain ⟨s3, s4, h⟩ := h
      obtain ⟨s5, h⟩ := h
      obtain ⟨s6, s7, h⟩ := h
      obtain ⟨s8, h⟩ := h
      obtain ⟨s9, s10, h⟩ := h
      obtain ⟨s11, h⟩ := h
      obtain ⟨s12, h⟩ := h
      exact AtV.go tabOk ext61Ok mixed false [] [] [0, 1, 5] [0] [true] (a1 b0 (a1 trivial (a1 s0 (a1 s1 (a1 s2 (a1 s3 (a1 s4 (a1 s5 (a1 s6 (a1 s7 (a1 s8 (a1 s9 (a1 s10 (a1 s11 (a1 s12 trivial))))))))))))))) (ih2 _ _ _ _ _ h K q) (by kernel_rfl)
    · rw [if_neg b0] at h
      replace b0 := Bool.eq_false_iff.2 b0
      obtain ⟨h, h'⟩ := h; subst h; subst h'
      exact AtV.ret Tryz.func61 tabOk ext61Ok mixed false [] tys61 [false] (a1 b0 trivial) (by kernel_rfl)
def M61 (x1 : Int) (n : Nat) : List TyB0 := (List.range n).map fun (j : Nat) => (g65_0 (x1 + 4 * (j : Int)), (x1 + 4 * (j : Int) + 1), (x1 + 4 * (j : Int) + 1 + 1), (x1 + 4 * (j : Int) + 1 + 1 + 1), ())
theorem M61_len (x1 : Int) (n : Nat) : (M61 x1 n).length = n := by simp [M61]
theorem M61_succ (x1 : Int) (n : Nat) : M61 x1 (n + 1) = M61 x1 n ++ [(g65_0 (x1 + 4 * (n : Int)), (x1 + 4 * (n : Int) + 1), (x1 + 4 * (n : Int) + 1 + 1), (x1 + 4 * (n : Int) + 1 + 1 + 1), ())] := by
  simp [M61, List.range_succ]
theorem run61 (x0 : List TyB0) (x1 : Int) (hm : x0.length ≤ maxLen) (h0 : 0 ≤ x1) (h1 : x1 + 4 * x0.length ≤ 9223372036854775807) : ∀ (k i : Nat), i + k = x0.length →
    R61_2 (k + 1) (i : Int) (x1 + 4 * (i : Int)) (M61 x1 i ++ x0.drop i) [⟨.int .i64, x1 + 4 * (x0.length : Int)⟩] [some ⟨(.cons .str (.cons (.int .i64) (.cons (.int .i64) (.cons (.int .i64) .unit)))), M61 x1 x0.length⟩] := by
  intro k
  induction k with
  | zero =>
    intro i hi
    have hl : (M61 x1 i ++ x0.drop i).length = x0.length := by simp [M61_len]; omega
    rw [R61_2, if_neg (by rw [hl]; simp; omega), drop_end x0 i (by omega), List.append_nil]
    have : i = x0.length := by omega
    subst this
    exact ⟨rfl, rfl⟩
  | succ k ih =>
    intro i hi
    have hl : (M61 x1 i ++ x0.drop i).length = x0.length := by simp [M61_len]; omega
    have hA := M61_len x1 i
    rw [R61_2, if_pos (by rw [hl]; simp; omega)]
    rw [drop_get x0 i (ByteArray.empty, (0 : Int), (0 : Int), (0 : Int), ()) (by omega)] at hl ⊢
    simp only [Int.toNat_natCast, set_mid _ _ _ _ i hA, get_mid _ _ _ _ i hA]
    have hl' : ∀ y : TyB0, ((M61 x1 i ++ y :: x0.drop (i + 1)).length : Int) = x0.length := fun y => by rw [← hl]; simp
    simp only [hl']
    refine ⟨by omega, by omega, by rw [i64_iff]; omega, by omega, by omega, by rw [i64_iff]; omega, by omega, by omega, by rw [i64_iff]; omega, by omega, by omega, by rw [i64_iff]; omega, inR_up hm (by omega), ?_⟩
    have hx : x1 + 4 * (i : Int) + 1 + 1 + 1 + 1 = x1 + 4 * ((i + 1 : Nat) : Int) := by omega
    have := ih (i + 1) (by omega)
    rw [M61_succ, List.append_assoc] at this
    rw [hx]
    simpa using this
def P61 (x0 : List TyB0) (x1 : Int) : Prop := 0 ≤ x1 ∧ x1 + 4 * x0.length ≤ 9223372036854775807
def g61_0 (x0 : List TyB0) (x1 : Int) : Int := x1 + 4 * (x0.length : Int)
def u61_0 (x0 : List TyB0) (x1 : Int) : List TyB0 := M61 x1 x0.length
theorem top61 (x0 : List TyB0) (x1 : Int) (hm : x0.length ≤ maxLen) (h : P61 x0 x1) : R61 (x0.length + 1 + 1) x0 x1 [⟨.int .i64, g61_0 x0 x1⟩] [some ⟨(.cons .str (.cons (.int .i64) (.cons (.int .i64) (.cons (.int .i64) .unit)))), u61_0 x0 x1⟩] := by
  rw [R61]
  have := run61 x0 x1 hm h.1 h.2 x0.length 0 (by omega)
  simpa [M61, g61_0, u61_0] using this
def S61 : Am.Spec := { sig := sig61, pre := fun ⟨x0, x1, _⟩ => P61 x0 x1, upd := fun ⟨x0, x1, _⟩ => [some ⟨(.cons .str (.cons (.int .i64) (.cons (.int .i64) (.cons (.int .i64) .unit)))), u61_0 x0 x1⟩], res := fun ⟨x0, x1, _⟩ => [⟨.int .i64, g61_0 x0 x1⟩] }
theorem con61 : Contract Tryz.prog 61 S61 := contract_of Tryz.func61 hb61 (Nat.le_of_ble_eq_true (by kernel_rfl)) (fun ⟨x0, x1, _⟩ h hwf K q =>
  (snd61 _).1 x0 x1 _ _ (top61 x0 x1 hwf.1.1 h) K q)
end
noncomputable section
def ext62 : Ext := []
theorem ext62Ok : ExtOk Tryz.prog ext62 := trivial
noncomputable def b62 : Code := bodyOf Tryz.f62
theorem hb62 : Tryz.f62.body = some b62 := by kernel_rfl
def sig62 : List AT := [AT.own YA4, AT.v (Ty.int .i64)]
def tys62 : List Ty := [Ty.int .i64]
def kds62 : List RK := []
def oks62 : List AT := owns sig62
def E62_2 (v5 : Int) (x1 : Int) (x0 : List TyB2) : Env := [(0, PV.a (Atom.osl 0 Option.none)), (1, PV.a (Atom.val (Value.int .i64 x1))), (5, PV.a (Atom.val (Value.int .i64 v5)))]
def L62_2 (v5 : Int) (x1 : Int) (x0 : List TyB2) : Heap := [Option.some (Arr.mk YA4 x0 false Option.none Option.none)]
mutual
def R62 : Nat → List TyB2 → Int → List Dyn → List (Option Lst) → Prop
  | 0, _, _, _, _ => False
  | n + 1, x0, x1, ds, us => (R62_2 n (0) (x1) (x0) ds us)
def R62_2 : Nat → Int → Int → List TyB2 → List Dyn → List (Option Lst) → Prop
  | 0, _, _, _, _, _ => False
  | n + 1, v5, x1, x0, ds, us => (if (decide (v5 < (↑(List.length x0) : Int))) = true then ((0 ≤ v5) ∧ (v5 < (↑(List.length x0) : Int)) ∧ ((InR .i64 (x1 + 1)) ∧ ((0 ≤ v5) ∧ (v5 < (↑(List.length (List.set x0 (Int.toNat v5) (x1, (List.getD x0 (Int.toNat v5) (0, 0, 0, ())).2))) : Int)) ∧ ((InR .i64 (x1 + 1 + 1)) ∧ ((0 ≤ v5) ∧ (v5 < (↑(List.length (List.set (List.set x0 (Int.toNat v5) (x1, (List.getD x0 (Int.toNat v5) (0, 0, 0, ())).2)) (Int.toNat v5) ((List.getD (List.set x0 (Int.toNat v5) (x1, (List.getD x0 (Int.toNat v5) (0, 0, 0, ())).2)) (Int.toNat v5) (0, 0, 0, ())).1, x1 + 1, (List.getD (List.set x0 (Int.toNat v5) (x1, (List.getD x0 (Int.toNat v5) (0, 0, 0, ())).2)) (Int.toNat v5) (0, 0, 0, ())).2.2))) : Int)) ∧ ((InR .i64 (x1 + 1 + 1 + 1)) ∧ ((InR .i64 (v5 + 1)) ∧ (R62_2 n (v5 + 1) (x1 + 1 + 1 + 1) (List.set (List.set (List.set x0 (Int.toNat v5) (x1, (List.getD x0 (Int.toNat v5) (0, 0, 0, ())).2)) (Int.toNat v5) ((List.getD (List.set x0 (Int.toNat v5) (x1, (List.getD x0 (Int.toNat v5) (0, 0, 0, ())).2)) (Int.toNat v5) (0, 0, 0, ())).1, x1 + 1, (List.getD (List.set x0 (Int.toNat v5) (x1, (List.getD x0 (Int.toNat v5) (0, 0, 0, ())).2)) (Int.toNat v5) (0, 0, 0, ())).2.2)) (Int.toNat v5) ((List.getD (List.set (List.set x0 (Int.toNat v5) (x1, (List.getD x0 (Int.toNat v5) (0, 0, 0, ())).2)) (Int.toNat v5) ((List.getD (List.set x0 (Int.toNat v5) (x1, (List.getD x0 (Int.toNat v5) (0, 0, 0, ())).2)) (Int.toNat v5) (0, 0, 0, ())).1, x1 + 1, (List.getD (List.set x0 (Int.toNat v5) (x1, (List.getD x0 (Int.toNat v5) (0, 0, 0, ())).2)) (Int.toNat v5) (0, 0, 0, ())).2.2)) (Int.toNat v5) (0, 0, 0, ())).1, (List.getD (List.set (List.set x0 (Int.toNat v5) (x1, (List.getD x0 (Int.toNat v5) (0, 0, 0, ())).2)) (Int.toNat v5) ((List.getD (List.set x0 (Int.toNat v5) (x1, (List.getD x0 (Int.toNat v5) (0, 0, 0, ())).2)) (Int.toNat v5) (0, 0, 0, ())).1, x1 + 1, (List.getD (List.set x0 (Int.toNat v5) (x1, (List.getD x0 (Int.toNat v5) (0, 0, 0, ())).2)) (Int.toNat v5) (0, 0, 0, ())).2.2)) (Int.toNat v5) (0, 0, 0, ())).2.1, x1 + 1 + 1, (List.getD (List.set (List.set x0 (Int.toNat v5) (x1, (List.getD x0 (Int.toNat v5) (0, 0, 0, ())).2)) (Int.toNat v5) ((List.getD (List.set x0 (Int.toNat v5) (x1, (List.getD x0 (Int.toNat v5) (0, 0, 0, ())).2)) (Int.toNat v5) (0, 0, 0, ())).1, x1 + 1, (List.getD (List.set x0 (Int.toNat v5) (x1, (List.getD x0 (Int.toNat v5) (0, 0, 0, ())).2)) (Int.toNat v5) (0, 0, 0, ())).2.2)) (Int.toNat v5) (0, 0, 0, ())).2.2.2)) ds us)))))))) else (ds = [Dyn.mk (Ty.int .i64) x1] ∧ us = [Option.some (Lst.mk YA4 x0)]))
end
theorem snd62 : ∀ n, (∀ (x0 : List TyB2) (x1 : Int) ds us, R62 n x0 x1 ds us → ∀ K q, AtV Tryz.prog 62 (PostR kds62 oks62 ds us [0] q K) 34 K q [0] [.code b62] (entE 0 0 sig62 (x0, x1, ())) (entL sig62 (x0, x1, ()))) ∧ (∀ (v5 : Int) (x1 : Int) (x0 : List TyB2) ds us, R62_2 n v5 x1 x0 ds us → ∀ K q, AtV Tryz.prog 62 (PostR kds62 oks62 ds us [0] q K) 34 K q [0] (cutAt b62 2) (E62_2 v5 x1 x0) (L62_2 v5 x1 x0)) := by
  intro n
  induction n with
  | zero => exact ⟨fun _ _ _ _ h => by simp only [R62] at h, fun _ _ _ _ _ h => by simp only [R62_2] at h⟩
  | succ n ih =>
  obtain ⟨ih, ih2⟩ := ih
  refine ⟨?_, ?_⟩
  · intro x0 x1 ds us h K q
    rw [R62] at h
    exact AtV.go tabOk ext62Ok mixed false [] [] [0, 1, 5] [0] [] trivial (ih2 _ _ _ _ _ h K q) (by kernel_rfl)
  · intro v5 x1 x0 ds us h K q
    rw [R62_2] at h
    by_cases b0 : (decide (v5 < (↑(List.length x0) : Int))) = true
    · rw [if_pos b0] at h
      obtain ⟨s0, s1, h⟩ := h
      obtain ⟨s2, h⟩ := h
      obtain ⟨s3, s4, h⟩ := h
      obtain ⟨s5, h⟩ := h
      obtain ⟨s6, s7, h⟩ := h
      obtain ⟨s8, h⟩ := h
      obtain ⟨s9, h⟩ := h
      exact AtV.go tabOk ext62Ok mixed false [] [] [0, 1, 5] [0] [true] (a1 b0 (a1 s0 (a1 s1 (a1 s2 (a1 s3 (a1 s4 (a1 s5 (a1 s6 (a1 s7 (a1 s8 (a1 s9 trivial))))))))))) (ih2 _ _ _ _ _ h K q) (by kernel_rfl)
    · rw [if_neg b0] at h
      replace b0 := Bool.eq_false_iff.2 b0
      obtain ⟨h, h'⟩ := h; subst h; subst h'
      exact AtV.ret Tryz.func62 tabOk ext62Ok mixed false [] tys62 [false] (a1 b0 trivial) (by kernel_rfl)
def M62 (x1 : Int) (n : Nat) : List TyB2 := (List.range n).map fun (j : Nat) => ((x1 + 3 * (j : Int)), (x1 + 3 * (j : Int) + 1), (x1 + 3 * (j : Int) + 1 + 1), ())
theorem M62_len (x1 : Int) (n : Nat) : (M62 x1 n).length = n := by simp [M62]
theorem M62_succ (x1 : Int) (n : Nat) : M62 x1 (n + 1) = M62 x1 n ++ [((x1 + 3 * (n : Int)), (x1 + 3 * (n : Int) + 1), (x1 + 3 * (n : Int) + 1 + 1), ())] := by
  simp [M62, List.range_succ]
theorem run62 (x0 : List TyB2) (x1 : Int) (hm : x0.length ≤ maxLen) (h0 : 0 ≤ x1) (h1 : x1 + 3 * x0.length ≤ 9223372036854775807) : ∀ (k i : Nat), i + k = x0.length →
    R62_2 (k + 1) (i : Int) (x1 + 3 * (i : Int)) (M62 x1 i ++ x0.drop i) [⟨.int .i64, x1 + 3 * (x0.length : Int)⟩] [some ⟨(.cons (.int .i64) (.cons (.int .i64) (.cons (.int .i64) .unit))), M62 x1 x0.length⟩] := by
  intro k
  induction k with
  | zero =>
    intro i hi
    have hl : (M62 x1 i ++ x0.drop i).length = x0.length := by simp [M62_len]; omega
    rw [R62_2, if_neg (by rw [hl]; simp; omega), drop_end x0 i (by omega), List.append_nil]
    have : i = x0.length := by omega
    subst this
    exact ⟨rfl, rfl⟩
  | succ k ih =>
    intro i hi
    have hl : (M62 x1 i ++ x0.drop i).length = x0.length := by simp [M62_len]; omega
    have hA := M62_len x1 i
    rw [R62_2, if_pos (by rw [hl]; simp; omega)]
    rw [drop_get x0 i ((0 : Int), (0 : Int), (0 : Int), ()) (by omega)] at hl ⊢
    simp only [Int.toNat_natCast, set_mid _ _ _ _ i hA, get_mid _ _ _ _ i hA]
    have hl' : ∀ y : TyB2, ((M62 x1 i ++ y :: x0.drop (i + 1)).length : Int) = x0.length := fun y => by rw [← hl]; simp
    simp only [hl']
    refine ⟨by omega, by omega, by rw [i64_iff]; omega, by omega, by omega, by rw [i64_iff]; omega, by omega, by omega, by rw [i64_iff]; omega, inR_up hm (by omega), ?_⟩
    have hx : x1 + 3 * (i : Int) + 1 + 1 + 1 = x1 + 3 * ((i + 1 : Nat) : Int) := by omega
    have := ih (i + 1) (by omega)
    rw [M62_succ, List.append_assoc] at this
    rw [hx]
    simpa using this
def P62 (x0 : List TyB2) (x1 : Int) : Prop := 0 ≤ x1 ∧ x1 + 3 * x0.length ≤ 9223372036854775807
def g62_0 (x0 : List TyB2) (x1 : Int) : Int := x1 + 3 * (x0.length : Int)
def u62_0 (x0 : List TyB2) (x1 : Int) : List TyB2 := M62 x1 x0.length
theorem top62 (x0 : List TyB2) (x1 : Int) (hm : x0.length ≤ maxLen) (h : P62 x0 x1) : R62 (x0.length + 1 + 1) x0 x1 [⟨.int .i64, g62_0 x0 x1⟩] [some ⟨(.cons (.int .i64) (.cons (.int .i64) (.cons (.int .i64) .unit))), u62_0 x0 x1⟩] := by
  rw [R62]
  have := run62 x0 x1 hm h.1 h.2 x0.length 0 (by omega)
  simpa [M62, g62_0, u62_0] using this
def S62 : Am.Spec := { sig := sig62, pre := fun ⟨x0, x1, _⟩ => P62 x0 x1, upd := fun ⟨x0, x1, _⟩ => [some ⟨(.cons (.int .i64) (.cons (.int .i64) (.cons (.int .i64) .unit))), u62_0 x0 x1⟩], res := fun ⟨x0, x1, _⟩ => [⟨.int .i64, g62_0 x0 x1⟩] }
theorem con62 : Contract Tryz.prog 62 S62 := contract_of Tryz.func62 hb62 (Nat.le_of_ble_eq_true (by kernel_rfl)) (fun ⟨x0, x1, _⟩ h hwf K q =>
  (snd62 _).1 x0 x1 _ _ (top62 x0 x1 hwf.1.1 h) K q)
end
noncomputable section
def ext63 : Ext := [(65, S65)]
theorem ext63Ok : ExtOk Tryz.prog ext63 := ⟨⟨ca65, con65⟩, trivial⟩
noncomputable def b63 : Code := bodyOf Tryz.f63
theorem hb63 : Tryz.f63.body = some b63 := by kernel_rfl
def sig63 : List AT := [AT.own YA5, AT.v (Ty.int .i64)]
def tys63 : List Ty := [Ty.int .i64]
def kds63 : List RK := []
def oks63 : List AT := owns sig63
def E63_2 (v5 : Int) (x1 : Int) (x0 : List TyB1) : Env := [(0, PV.a (Atom.osl 0 Option.none)), (1, PV.a (Atom.val (Value.int .i64 x1))), (5, PV.a (Atom.val (Value.int .i64 v5)))]
def L63_2 (v5 : Int) (x1 : Int) (x0 : List TyB1) : Heap := [Option.some (Arr.mk YA5 x0 false Option.none Option.none)]
mutual
def R63 : Nat → List TyB1 → Int → List Dyn → List (Option Lst) → Prop
  | 0, _, _, _, _ => False
  | n + 1, x0, x1, ds, us => (R63_2 n (0) (x1) (x0) ds us)
def R63_2 : Nat → Int → Int → List TyB1 → List Dyn → List (Option Lst) → Prop
  | 0, _, _, _, _, _ => False
  | n + 1, v5, x1, x0, ds, us => (if (decide (v5 < (↑(List.length x0) : Int))) = true then ((0 ≤ v5) ∧ (v5 < (↑(List.length x0) : Int)) ∧ ((InR .i64 (x1 + 1)) ∧ ((0 ≤ v5) ∧ (v5 < (↑(List.length (List.set x0 (Int.toNat v5) (g65_0 x1, (List.getD x0 (Int.toNat v5) (ByteArray.empty, 0, 0, ())).2))) : Int)) ∧ ((InR .i64 (x1 + 1 + 1)) ∧ ((0 ≤ v5) ∧ (v5 < (↑(List.length (List.set (List.set x0 (Int.toNat v5) (g65_0 x1, (List.getD x0 (Int.toNat v5) (ByteArray.empty, 0, 0, ())).2)) (Int.toNat v5) ((List.getD (List.set x0 (Int.toNat v5) (g65_0 x1, (List.getD x0 (Int.toNat v5) (ByteArray.empty, 0, 0, ())).2)) (Int.toNat v5) (ByteArray.empty, 0, 0, ())).1, x1 + 1, (List.getD (List.set x0 (Int.toNat v5) (g65_0 x1, (List.getD x0 (Int.toNat v5) (ByteArray.empty, 0, 0, ())).2)) (Int.toNat v5) (ByteArray.empty, 0, 0, ())).2.2))) : Int)) ∧ ((InR .i64 (x1 + 1 + 1 + 1)) ∧ ((InR .i64 (v5 + 1)) ∧ (R63_2 n (v5 + 1) (x1 + 1 + 1 + 1) (List.set (List.set (List.set x0 (Int.toNat v5) (g65_0 x1, (List.getD x0 (Int.toNat v5) (ByteArray.empty, 0, 0, ())).2)) (Int.toNat v5) ((List.getD (List.set x0 (Int.toNat v5) (g65_0 x1, (List.getD x0 (Int.toNat v5) (ByteArray.empty, 0, 0, ())).2)) (Int.toNat v5) (ByteArray.empty, 0, 0, ())).1, x1 + 1, (List.getD (List.set x0 (Int.toNat v5) (g65_0 x1, (List.getD x0 (Int.toNat v5) (ByteArray.empty, 0, 0, ())).2)) (Int.toNat v5) (ByteArray.empty, 0, 0, ())).2.2)) (Int.toNat v5) ((List.getD (List.set (List.set x0 (Int.toNat v5) (g65_0 x1, (List.getD x0 (Int.toNat v5) (ByteArray.empty, 0, 0, ())).2)) (Int.toNat v5) ((List.getD (List.set x0 (Int.toNat v5) (g65_0 x1, (List.getD x0 (Int.toNat v5) (ByteArray.empty, 0, 0, ())).2)) (Int.toNat v5) (ByteArray.empty, 0, 0, ())).1, x1 + 1, (List.getD (List.set x0 (Int.toNat v5) (g65_0 x1, (List.getD x0 (Int.toNat v5) (ByteArray.empty, 0, 0, ())).2)) (Int.toNat v5) (ByteArray.empty, 0, 0, ())).2.2)) (Int.toNat v5) (ByteArray.empty, 0, 0, ())).1, (List.getD (List.set (List.set x0 (Int.toNat v5) (g65_0 x1, (List.getD x0 (Int.toNat v5) (ByteArray.empty, 0, 0, ())).2)) (Int.toNat v5) ((List.getD (List.set x0 (Int.toNat v5) (g65_0 x1, (List.getD x0 (Int.toNat v5) (ByteArray.empty, 0, 0, ())).2)) (Int.toNat v5) (ByteArray.empty, 0, 0, ())).1, x1 + 1, (List.getD (List.set x0 (Int.toNat v5) (g65_0 x1, (List.getD x0 (Int.toNat v5) (ByteArray.empty, 0, 0, ())).2)) (Int.toNat v5) (ByteArray.empty, 0, 0, ())).2.2)) (Int.toNat v5) (ByteArray.empty, 0, 0, ())).2.1, x1 + 1 + 1, (List.getD (List.set (List.set x0 (Int.toNat v5) (g65_0 x1, (List.getD x0 (Int.toNat v5) (ByteArray.empty, 0, 0, ())).2)) (Int.toNat v5) ((List.getD (List.set x0 (Int.toNat v5) (g65_0 x1, (List.getD x0 (Int.toNat v5) (ByteArray.empty, 0, 0, ())).2)) (Int.toNat v5) (ByteArray.empty, 0, 0, ())).1, x1 + 1, (List.getD (List.set x0 (Int.toNat v5) (g65_0 x1, (List.getD x0 (Int.toNat v5) (ByteArray.empty, 0, 0, ())).2)) (Int.toNat v5) (ByteArray.empty, 0, 0, ())).2.2)) (Int.toNat v5) (ByteArray.empty, 0, 0, ())).2.2.2)) ds us)))))))) else (ds = [Dyn.mk (Ty.int .i64) x1] ∧ us = [Option.some (Lst.mk YA5 x0)]))
end
theorem snd63 : ∀ n, (∀ (x0 : List TyB1) (x1 : Int) ds us, R63 n x0 x1 ds us → ∀ K q, AtV Tryz.prog 63 (PostR kds63 oks63 ds us [0] q K) 35 K q [0] [.code b63] (entE 0 0 sig63 (x0, x1, ())) (entL sig63 (x0, x1, ()))) ∧ (∀ (v5 : Int) (x1 : Int) (x0 : List TyB1) ds us, R63_2 n v5 x1 x0 ds us → ∀ K q, AtV Tryz.prog 63 (PostR kds63 oks63 ds us [0] q K) 35 K q [0] (cutAt b63 2) (E63_2 v5 x1 x0) (L63_2 v5 x1 x0)) := by
  intro n
  induction n with
  | zero => exact ⟨fun _ _ _ _ h => by simp only [R63] at h, fun _ _ _ _ _ h => by simp only [R63_2] at h⟩
  | succ n ih =>
  obtain ⟨ih, ih2⟩ := ih
  refine ⟨?_, ?_⟩
  · intro x0 x1 ds us h K q
    rw [R63] at h
    exact AtV.go tabOk ext63Ok mixed false [] [] [0, 1, 5] [0] [] trivial (ih2 _ _ _ _ _ h K q) (by kernel_rfl)
  · intro v5 x1 x0 ds us h K q
    rw [R63_2] at h
    by_cases b0 : (decide (v5 < (↑(List.length x0) : Int))) = true
    · rw [if_pos b0] at h
      obtain ⟨s0, s1, h⟩ := h
      obtain ⟨s2, h⟩ := h
      obtain ⟨s3, s4, h⟩ := h
      obtain ⟨s5, h⟩ := h
      obtain ⟨s6, s7, h⟩ := h
      obtain ⟨s8, h⟩ := h
      obtain ⟨s9, h⟩ := h
      exact AtV.go tabOk ext63Ok mixed false [] [] [0, 1, 5] [0] [true] (a1 b0 (a1 trivial (a1 s0 (a1 s1 (a1 s2 (a1 s3 (a1 s4 (a1 s5 (a1 s6 (a1 s7 (a1 s8 (a1 s9 trivial)))))))))))) (ih2 _ _ _ _ _ h K q) (by kernel_rfl)
    · rw [if_neg b0] at h
      replace b0 := Bool.eq_false_iff.2 b0
      obtain ⟨h, h'⟩ := h; subst h; subst h'
      exact AtV.ret Tryz.func63 tabOk ext63Ok mixed false [] tys63 [false] (a1 b0 trivial) (by kernel_rfl)
def M63 (x1 : Int) (n : Nat) : List TyB1 := (List.range n).map fun (j : Nat) => (g65_0 (x1 + 3 * (j : Int)), (x1 + 3 * (j : Int) + 1), (x1 + 3 * (j : Int) + 1 + 1), ())
theorem M63_len (x1 : Int) (n : Nat) : (M63 x1 n).length = n := by simp [M63]
theorem M63_succ (x1 : Int) (n : Nat) : M63 x1 (n + 1) = M63 x1 n ++ [(g65_0 (x1 + 3 * (n : Int)), (x1 + 3 * (n : Int) + 1), (x1 + 3 * (n : Int) + 1 + 1), ())] := by
  simp [M63, List.range_succ]
theorem run63 (x0 : List TyB1) (x1 : Int) (hm : x0.length ≤ maxLen) (h0 : 0 ≤ x1) (h1 : x1 + 3 * x0.length ≤ 9223372036854775807) : ∀ (k i : Nat), i + k = x0.length →
    R63_2 (k + 1) (i : Int) (x1 + 3 * (i : Int)) (M63 x1 i ++ x0.drop i) [⟨.int .i64, x1 + 3 * (x0.length : Int)⟩] [some ⟨(.cons .str (.cons (.int .i64) (.cons (.int .i64) .unit))), M63 x1 x0.length⟩] := by
  intro k
  induction k with
  | zero =>
    intro i hi
    have hl : (M63 x1 i ++ x0.drop i).length = x0.length := by simp [M63_len]; omega
    rw [R63_2, if_neg (by rw [hl]; simp; omega), drop_end x0 i (by omega), List.append_nil]
    have : i = x0.length := by omega
    subst this
    exact ⟨rfl, rfl⟩
  | succ k ih =>
    intro i hi
    have hl : (M63 x1 i ++ x0.drop i).length = x0.length := by simp [M63_len]; omega
    have hA := M63_len x1 i
    rw [R63_2, if_pos (by rw [hl]; simp; omega)]
    rw [drop_get x0 i (ByteArray.empty, (0 : Int), (0 : Int), ()) (by omega)] at hl ⊢
    simp only [Int.toNat_natCast, set_mid _ _ _ _ i hA, get_mid _ _ _ _ i hA]
    have hl' : ∀ y : TyB1, ((M63 x1 i ++ y :: x0.drop (i + 1)).length : Int) = x0.length := fun y => by rw [← hl]; simp
    simp only [hl']
    refine ⟨by omega, by omega, by rw [i64_iff]; omega, by omega, by omega, by rw [i64_iff]; omega, by omega, by omega, by rw [i64_iff]; omega, inR_up hm (by omega), ?_⟩
    have hx : x1 + 3 * (i : Int) + 1 + 1 + 1 = x1 + 3 * ((i + 1 : Nat) : Int) := by omega
    have := ih (i + 1) (by omega)
    rw [M63_succ, List.append_assoc] at this
    rw [hx]
    simpa using this
def P63 (x0 : List TyB1) (x1 : Int) : Prop := 0 ≤ x1 ∧ x1 + 3 * x0.length ≤ 9223372036854775807
def g63_0 (x0 : List TyB1) (x1 : Int) : Int := x1 + 3 * (x0.length : Int)
def u63_0 (x0 : List TyB1) (x1 : Int) : List TyB1 := M63 x1 x0.length
theorem top63 (x0 : List TyB1) (x1 : Int) (hm : x0.length ≤ maxLen) (h : P63 x0 x1) : R63 (x0.length + 1 + 1) x0 x1 [⟨.int .i64, g63_0 x0 x1⟩] [some ⟨(.cons .str (.cons (.int .i64) (.cons (.int .i64) .unit))), u63_0 x0 x1⟩] := by
  rw [R63]
  have := run63 x0 x1 hm h.1 h.2 x0.length 0 (by omega)
  simpa [M63, g63_0, u63_0] using this
def S63 : Am.Spec := { sig := sig63, pre := fun ⟨x0, x1, _⟩ => P63 x0 x1, upd := fun ⟨x0, x1, _⟩ => [some ⟨(.cons .str (.cons (.int .i64) (.cons (.int .i64) .unit))), u63_0 x0 x1⟩], res := fun ⟨x0, x1, _⟩ => [⟨.int .i64, g63_0 x0 x1⟩] }
theorem con63 : Contract Tryz.prog 63 S63 := contract_of Tryz.func63 hb63 (Nat.le_of_ble_eq_true (by kernel_rfl)) (fun ⟨x0, x1, _⟩ h hwf K q =>
  (snd63 _).1 x0 x1 _ _ (top63 x0 x1 hwf.1.1 h) K q)
end
noncomputable section
def ext64 : Ext := [(65, S65)]
theorem ext64Ok : ExtOk Tryz.prog ext64 := ⟨⟨ca65, con65⟩, trivial⟩
noncomputable def b64 : Code := bodyOf Tryz.f64
theorem hb64 : Tryz.f64.body = some b64 := by kernel_rfl
def sig64 : List AT := [AT.own YA5, AT.v (Ty.int .i64)]
def tys64 : List Ty := [Ty.int .i64]
def kds64 : List RK := []
def oks64 : List AT := owns sig64
def E64_2 (v5 : Int) (x1 : Int) (x0 : List TyB1) : Env := [(0, PV.a (Atom.osl 0 Option.none)), (1, PV.a (Atom.val (Value.int .i64 x1))), (5, PV.a (Atom.val (Value.int .i64 v5)))]
def L64_2 (v5 : Int) (x1 : Int) (x0 : List TyB1) : Heap := [Option.some (Arr.mk YA5 x0 false Option.none Option.none)]
mutual
def R64 : Nat → List TyB1 → Int → List Dyn → List (Option Lst) → Prop
  | 0, _, _, _, _ => False
  | n + 1, x0, x1, ds, us => (R64_2 n (0) (x1) (x0) ds us)
def R64_2 : Nat → Int → Int → List TyB1 → List Dyn → List (Option Lst) → Prop
  | 0, _, _, _, _, _ => False
  | n + 1, v5, x1, x0, ds, us => (if (decide (v5 < (↑(List.length x0) : Int))) = true then ((0 ≤ v5) ∧ (v5 < (↑(List.length x0) : Int)) ∧ ((InR .i64 (x1 + 1)) ∧ ((0 ≤ v5) ∧ (v5 < (↑(List.length (List.set x0 (Int.toNat v5) (g65_0 x1, (List.getD x0 (Int.toNat v5) (ByteArray.empty, 0, 0, ())).2))) : Int)) ∧ ((InR .i64 (x1 + 1 + 1)) ∧ ((0 ≤ v5) ∧ (v5 < (↑(List.length (List.set (List.set x0 (Int.toNat v5) (g65_0 x1, (List.getD x0 (Int.toNat v5) (ByteArray.empty, 0, 0, ())).2)) (Int.toNat v5) ((List.getD (List.set x0 (Int.toNat v5) (g65_0 x1, (List.getD x0 (Int.toNat v5) (ByteArray.empty, 0, 0, ())).2)) (Int.toNat v5) (ByteArray.empty, 0, 0, ())).1, x1 + 1, (List.getD (List.set x0 (Int.toNat v5) (g65_0 x1, (List.getD x0 (Int.toNat v5) (ByteArray.empty, 0, 0, ())).2)) (Int.toNat v5) (ByteArray.empty, 0, 0, ())).2.2))) : Int)) ∧ ((InR .i64 (x1 + 1 + 1 + 1)) ∧ ((InR .i64 (v5 + 1)) ∧ (R64_2 n (v5 + 1) (x1 + 1 + 1 + 1) (List.set (List.set (List.set x0 (Int.toNat v5) (g65_0 x1, (List.getD x0 (Int.toNat v5) (ByteArray.empty, 0, 0, ())).2)) (Int.toNat v5) ((List.getD (List.set x0 (Int.toNat v5) (g65_0 x1, (List.getD x0 (Int.toNat v5) (ByteArray.empty, 0, 0, ())).2)) (Int.toNat v5) (ByteArray.empty, 0, 0, ())).1, x1 + 1, (List.getD (List.set x0 (Int.toNat v5) (g65_0 x1, (List.getD x0 (Int.toNat v5) (ByteArray.empty, 0, 0, ())).2)) (Int.toNat v5) (ByteArray.empty, 0, 0, ())).2.2)) (Int.toNat v5) ((List.getD (List.set (List.set x0 (Int.toNat v5) (g65_0 x1, (List.getD x0 (Int.toNat v5) (ByteArray.empty, 0, 0, ())).2)) (Int.toNat v5) ((List.getD (List.set x0 (Int.toNat v5) (g65_0 x1, (List.getD x0 (Int.toNat v5) (ByteArray.empty, 0, 0, ())).2)) (Int.toNat v5) (ByteArray.empty, 0, 0, ())).1, x1 + 1, (List.getD (List.set x0 (Int.toNat v5) (g65_0 x1, (List.getD x0 (Int.toNat v5) (ByteArray.empty, 0, 0, ())).2)) (Int.toNat v5) (ByteArray.empty, 0, 0, ())).2.2)) (Int.toNat v5) (ByteArray.empty, 0, 0, ())).1, (List.getD (List.set (List.set x0 (Int.toNat v5) (g65_0 x1, (List.getD x0 (Int.toNat v5) (ByteArray.empty, 0, 0, ())).2)) (Int.toNat v5) ((List.getD (List.set x0 (Int.toNat v5) (g65_0 x1, (List.getD x0 (Int.toNat v5) (ByteArray.empty, 0, 0, ())).2)) (Int.toNat v5) (ByteArray.empty, 0, 0, ())).1, x1 + 1, (List.getD (List.set x0 (Int.toNat v5) (g65_0 x1, (List.getD x0 (Int.toNat v5) (ByteArray.empty, 0, 0, ())).2)) (Int.toNat v5) (ByteArray.empty, 0, 0, ())).2.2)) (Int.toNat v5) (ByteArray.empty, 0, 0, ())).2.1, x1 + 1 + 1, (List.getD (List.set (List.set x0 (Int.toNat v5) (g65_0 x1, (List.getD x0 (Int.toNat v5) (ByteArray.empty, 0, 0, ())).2)) (Int.toNat v5) ((List.getD (List.set x0 (Int.toNat v5) (g65_0 x1, (List.getD x0 (Int.toNat v5) (ByteArray.empty, 0, 0, ())).2)) (Int.toNat v5) (ByteArray.empty, 0, 0, ())).1, x1 + 1, (List.getD (List.set x0 (Int.toNat v5) (g65_0 x1, (List.getD x0 (Int.toNat v5) (ByteArray.empty, 0, 0, ())).2)) (Int.toNat v5) (ByteArray.empty, 0, 0, ())).2.2)) (Int.toNat v5) (ByteArray.empty, 0, 0, ())).2.2.2)) ds us)))))))) else (ds = [Dyn.mk (Ty.int .i64) x1] ∧ us = [Option.some (Lst.mk YA5 x0)]))
end
theorem snd64 : ∀ n, (∀ (x0 : List TyB1) (x1 : Int) ds us, R64 n x0 x1 ds us → ∀ K q, AtV Tryz.prog 64 (PostR kds64 oks64 ds us [0] q K) 35 K q [0] [.code b64] (entE 0 0 sig64 (x0, x1, ())) (entL sig64 (x0, x1, ()))) ∧ (∀ (v5 : Int) (x1 : Int) (x0 : List TyB1) ds us, R64_2 n v5 x1 x0 ds us → ∀ K q, AtV Tryz.prog 64 (PostR kds64 oks64 ds us [0] q K) 35 K q [0] (cutAt b64 2) (E64_2 v5 x1 x0) (L64_2 v5 x1 x0)) := by
  intro n
  induction n with
  | zero => exact ⟨fun _ _ _ _ h => by simp only [R64] at h, fun _ _ _ _ _ h => by simp only [R64_2] at h⟩
  | succ n ih =>
  obtain ⟨ih, ih2⟩ := ih
  refine ⟨?_, ?_⟩
  · intro x0 x1 ds us h K q
    rw [R64] at h
    exact AtV.go tabOk ext64Ok mixed false [] [] [0, 1, 5] [0] [] trivial (ih2 _ _ _ _ _ h K q) (by kernel_rfl)
  · intro v5 x1 x0 ds us h K q
    rw [R64_2] at h
    by_cases b0 : (decide (v5 < (↑(List.length x0) : Int))) = true
    · rw [if_pos b0] at h
      obtain ⟨s0, s1, h⟩ := h
      obtain ⟨s2, h⟩ := h
      obtain ⟨s3, s4, h⟩ := h
      obtain ⟨s5, h⟩ := h
      obtain ⟨s6, s7, h⟩ := h
      obtain ⟨s8, h⟩ := h
      obtain ⟨s9, h⟩ := h
      exact AtV.go tabOk ext64Ok mixed false [] [] [0, 1, 5] [0] [true] (a1 b0 (a1 trivial (a1 s0 (a1 s1 (a1 s2 (a1 s3 (a1 s4 (a1 s5 (a1 s6 (a1 s7 (a1 s8 (a1 s9 trivial)))))))))))) (ih2 _ _ _ _ _ h K q) (by kernel_rfl)
    · rw [if_neg b0] at h
      replace b0 := Bool.eq_false_iff.2 b0
      obtain ⟨h, h'⟩ := h; subst h; subst h'
      exact AtV.ret Tryz.func64 tabOk ext64Ok mixed false [] tys64 [false] (a1 b0 trivial) (by kernel_rfl)
def M64 (x1 : Int) (n : Nat) : List TyB1 := (List.range n).map fun (j : Nat) => (g65_0 (x1 + 3 * (j : Int)), (x1 + 3 * (j : Int) + 1), (x1 + 3 * (j : Int) + 1 + 1), ())
theorem M64_len (x1 : Int) (n : Nat) : (M64 x1 n).length = n := by simp [M64]
theorem M64_succ (x1 : Int) (n : Nat) : M64 x1 (n + 1) = M64 x1 n ++ [(g65_0 (x1 + 3 * (n : Int)), (x1 + 3 * (n : Int) + 1), (x1 + 3 * (n : Int) + 1 + 1), ())] := by
  simp [M64, List.range_succ]
theorem run64 (x0 : List TyB1) (x1 : Int) (hm : x0.length ≤ maxLen) (h0 : 0 ≤ x1) (h1 : x1 + 3 * x0.length ≤ 9223372036854775807) : ∀ (k i : Nat), i + k = x0.length →
    R64_2 (k + 1) (i : Int) (x1 + 3 * (i : Int)) (M64 x1 i ++ x0.drop i) [⟨.int .i64, x1 + 3 * (x0.length : Int)⟩] [some ⟨(.cons .str (.cons (.int .i64) (.cons (.int .i64) .unit))), M64 x1 x0.length⟩] := by
  intro k
  induction k with
  | zero =>
    intro i hi
    have hl : (M64 x1 i ++ x0.drop i).length = x0.length := by simp [M64_len]; omega
    rw [R64_2, if_neg (by rw [hl]; simp; omega), drop_end x0 i (by omega), List.append_nil]
    have : i = x0.length := by omega
    subst this
    exact ⟨rfl, rfl⟩
  | succ k ih =>
    intro i hi
    have hl : (M64 x1 i ++ x0.drop i).length = x0.length := by simp [M64_len]; omega
    have hA := M64_len x1 i
    rw [R64_2, if_pos (by rw [hl]; simp; omega)]
    rw [drop_get x0 i (ByteArray.empty, (0 : Int), (0 : Int), ()) (by omega)] at hl ⊢
    simp only [Int.toNat_natCast, set_mid _ _ _ _ i hA, get_mid _ _ _ _ i hA]
    have hl' : ∀ y : TyB1, ((M64 x1 i ++ y :: x0.drop (i + 1)).length : Int) = x0.length := fun y => by rw [← hl]; simp
    simp only [hl']
    refine ⟨by omega, by omega, by rw [i64_iff]; omega, by omega, by omega, by rw [i64_iff]; omega, by omega, by omega, by rw [i64_iff]; omega, inR_up hm (by omega), ?_⟩
    have hx : x1 + 3 * (i : Int) + 1 + 1 + 1 = x1 + 3 * ((i + 1 : Nat) : Int) := by omega
    have := ih (i + 1) (by omega)
    rw [M64_succ, List.append_assoc] at this
    rw [hx]
    simpa using this
def P64 (x0 : List TyB1) (x1 : Int) : Prop := 0 ≤ x1 ∧ x1 + 3 * x0.length ≤ 9223372036854775807
def g64_0 (x0 : List TyB1) (x1 : Int) : Int := x1 + 3 * (x0.length : Int)
def u64_0 (x0 : List TyB1) (x1 : Int) : List TyB1 := M64 x1 x0.length
theorem top64 (x0 : List TyB1) (x1 : Int) (hm : x0.length ≤ maxLen) (h : P64 x0 x1) : R64 (x0.length + 1 + 1) x0 x1 [⟨.int .i64, g64_0 x0 x1⟩] [some ⟨(.cons .str (.cons (.int .i64) (.cons (.int .i64) .unit))), u64_0 x0 x1⟩] := by
  rw [R64]
  have := run64 x0 x1 hm h.1 h.2 x0.length 0 (by omega)
  simpa [M64, g64_0, u64_0] using this
def S64 : Am.Spec := { sig := sig64, pre := fun ⟨x0, x1, _⟩ => P64 x0 x1, upd := fun ⟨x0, x1, _⟩ => [some ⟨(.cons .str (.cons (.int .i64) (.cons (.int .i64) .unit))), u64_0 x0 x1⟩], res := fun ⟨x0, x1, _⟩ => [⟨.int .i64, g64_0 x0 x1⟩] }
theorem con64 : Contract Tryz.prog 64 S64 := contract_of Tryz.func64 hb64 (Nat.le_of_ble_eq_true (by kernel_rfl)) (fun ⟨x0, x1, _⟩ h hwf K q =>
  (snd64 _).1 x0 x1 _ _ (top64 x0 x1 hwf.1.1 h) K q)
end
noncomputable section
def ext10 : Ext := [(57, S57), (58, S58), (59, S59), (60, S60), (61, S61), (62, S62), (63, S63), (64, S64)]
theorem ext10Ok : ExtOk Tryz.prog ext10 := ⟨⟨ca57, con57⟩, ⟨ca58, con58⟩, ⟨ca59, con59⟩, ⟨ca60, con60⟩, ⟨ca61, con61⟩, ⟨ca62, con62⟩, ⟨ca63, con63⟩, ⟨ca64, con64⟩, trivial⟩
noncomputable def b10 : Code := bodyOf Tryz.f10
theorem hb10 : Tryz.f10.body = some b10 := by kernel_rfl
def sig10 : List AT := [AT.sv YA0, AT.v (Ty.int .i64)]
def tys10 : List Ty := [Ty.int .i64]
def kds10 : List RK := []
def oks10 : List AT := owns sig10
def P10 (x0 : TyA0) (x1 : Int) : Prop := ((P57 x0.1 x1) ∧ (List.length (u57_0 x0.1 x1) = List.length x0.1) ∧ ((P58 x0.2.2.1 (g57_0 x0.1 x1)) ∧ (List.length (u58_0 x0.2.2.1 (g57_0 x0.1 x1)) = List.length x0.2.2.1) ∧ ((P59 x0.2.2.2.1 (g58_0 x0.2.2.1 (g57_0 x0.1 x1))) ∧ (List.length (u59_0 x0.2.2.2.1 (g58_0 x0.2.2.1 (g57_0 x0.1 x1))) = List.length x0.2.2.2.1) ∧ ((P60 x0.2.2.2.2.2.2.1 (g59_0 x0.2.2.2.1 (g58_0 x0.2.2.1 (g57_0 x0.1 x1)))) ∧ (List.length (u60_0 x0.2.2.2.2.2.2.1 (g59_0 x0.2.2.2.1 (g58_0 x0.2.2.1 (g57_0 x0.1 x1)))) = List.length x0.2.2.2.2.2.2.1) ∧ ((P61 x0.2.2.2.2.2.2.2.2.1 (g60_0 x0.2.2.2.2.2.2.1 (g59_0 x0.2.2.2.1 (g58_0 x0.2.2.1 (g57_0 x0.1 x1))))) ∧ (List.length (u61_0 x0.2.2.2.2.2.2.2.2.1 (g60_0 x0.2.2.2.2.2.2.1 (g59_0 x0.2.2.2.1 (g58_0 x0.2.2.1 (g57_0 x0.1 x1))))) = List.length x0.2.2.2.2.2.2.2.2.1) ∧ ((P62 x0.2.2.2.2.2.2.2.2.2.1 (g61_0 x0.2.2.2.2.2.2.2.2.1 (g60_0 x0.2.2.2.2.2.2.1 (g59_0 x0.2.2.2.1 (g58_0 x0.2.2.1 (g57_0 x0.1 x1)))))) ∧ (List.length (u62_0 x0.2.2.2.2.2.2.2.2.2.1 (g61_0 x0.2.2.2.2.2.2.2.2.1 (g60_0 x0.2.2.2.2.2.2.1 (g59_0 x0.2.2.2.1 (g58_0 x0.2.2.1 (g57_0 x0.1 x1)))))) = List.length x0.2.2.2.2.2.2.2.2.2.1) ∧ ((P63 x0.2.2.2.2.2.2.2.2.2.2.1 (g62_0 x0.2.2.2.2.2.2.2.2.2.1 (g61_0 x0.2.2.2.2.2.2.2.2.1 (g60_0 x0.2.2.2.2.2.2.1 (g59_0 x0.2.2.2.1 (g58_0 x0.2.2.1 (g57_0 x0.1 x1))))))) ∧ (List.length (u63_0 x0.2.2.2.2.2.2.2.2.2.2.1 (g62_0 x0.2.2.2.2.2.2.2.2.2.1 (g61_0 x0.2.2.2.2.2.2.2.2.1 (g60_0 x0.2.2.2.2.2.2.1 (g59_0 x0.2.2.2.1 (g58_0 x0.2.2.1 (g57_0 x0.1 x1))))))) = List.length x0.2.2.2.2.2.2.2.2.2.2.1) ∧ ((P64 x0.2.2.2.2.2.2.2.2.2.2.2.1 (g63_0 x0.2.2.2.2.2.2.2.2.2.2.1 (g62_0 x0.2.2.2.2.2.2.2.2.2.1 (g61_0 x0.2.2.2.2.2.2.2.2.1 (g60_0 x0.2.2.2.2.2.2.1 (g59_0 x0.2.2.2.1 (g58_0 x0.2.2.1 (g57_0 x0.1 x1)))))))) ∧ (List.length (u64_0 x0.2.2.2.2.2.2.2.2.2.2.2.1 (g63_0 x0.2.2.2.2.2.2.2.2.2.2.1 (g62_0 x0.2.2.2.2.2.2.2.2.2.1 (g61_0 x0.2.2.2.2.2.2.2.2.1 (g60_0 x0.2.2.2.2.2.2.1 (g59_0 x0.2.2.2.1 (g58_0 x0.2.2.1 (g57_0 x0.1 x1)))))))) = List.length x0.2.2.2.2.2.2.2.2.2.2.2.1) ∧ True))))))))
def g10_0 (x0 : TyA0) (x1 : Int) : Int := g64_0 x0.2.2.2.2.2.2.2.2.2.2.2.1 (g63_0 x0.2.2.2.2.2.2.2.2.2.2.1 (g62_0 x0.2.2.2.2.2.2.2.2.2.1 (g61_0 x0.2.2.2.2.2.2.2.2.1 (g60_0 x0.2.2.2.2.2.2.1 (g59_0 x0.2.2.2.1 (g58_0 x0.2.2.1 (g57_0 x0.1 x1)))))))
def u10_0 (x0 : TyA0) (x1 : Int) : TyA0 := (u57_0 x0.1 x1, (x0.2.1.1, x0.2.1.2.1, x0.2.1.2.2.1, x0.2.1.2.2.2.1, ()), u58_0 x0.2.2.1 (g57_0 x0.1 x1), u59_0 x0.2.2.2.1 (g58_0 x0.2.2.1 (g57_0 x0.1 x1)), (x0.2.2.2.2.1.1, x0.2.2.2.2.1.2.1, x0.2.2.2.2.1.2.2.1, ()), (x0.2.2.2.2.2.1.1, x0.2.2.2.2.2.1.2.1, x0.2.2.2.2.2.1.2.2.1, ()), u60_0 x0.2.2.2.2.2.2.1 (g59_0 x0.2.2.2.1 (g58_0 x0.2.2.1 (g57_0 x0.1 x1))), (x0.2.2.2.2.2.2.2.1.1, x0.2.2.2.2.2.2.2.1.2.1, x0.2.2.2.2.2.2.2.1.2.2.1, x0.2.2.2.2.2.2.2.1.2.2.2.1, ()), u61_0 x0.2.2.2.2.2.2.2.2.1 (g60_0 x0.2.2.2.2.2.2.1 (g59_0 x0.2.2.2.1 (g58_0 x0.2.2.1 (g57_0 x0.1 x1)))), u62_0 x0.2.2.2.2.2.2.2.2.2.1 (g61_0 x0.2.2.2.2.2.2.2.2.1 (g60_0 x0.2.2.2.2.2.2.1 (g59_0 x0.2.2.2.1 (g58_0 x0.2.2.1 (g57_0 x0.1 x1))))), u63_0 x0.2.2.2.2.2.2.2.2.2.2.1 (g62_0 x0.2.2.2.2.2.2.2.2.2.1 (g61_0 x0.2.2.2.2.2.2.2.2.1 (g60_0 x0.2.2.2.2.2.2.1 (g59_0 x0.2.2.2.1 (g58_0 x0.2.2.1 (g57_0 x0.1 x1)))))), u64_0 x0.2.2.2.2.2.2.2.2.2.2.2.1 (g63_0 x0.2.2.2.2.2.2.2.2.2.2.1 (g62_0 x0.2.2.2.2.2.2.2.2.2.1 (g61_0 x0.2.2.2.2.2.2.2.2.1 (g60_0 x0.2.2.2.2.2.2.1 (g59_0 x0.2.2.2.1 (g58_0 x0.2.2.1 (g57_0 x0.1 x1))))))), ())
theorem at10 (x0 : TyA0) (x1 : Int) (h : P10 x0 x1) (K : Ctx) (q : Nat → Value) : AtV Tryz.prog 10 (PostR kds10 oks10 [⟨Ty.int .i64, g10_0 x0 x1⟩] [some ⟨Ty.cons (Ty.sl YA3) YA1, [u10_0 x0 x1]⟩] [0] q K) 38 K q [0] [.code b10] (entE 0 0 sig10 (x0, x1, ())) (entL sig10 (x0, x1, ())) := by
  unfold P10 at h
  unfold g10_0 u10_0
  obtain ⟨s0, s1, h⟩ := h
  obtain ⟨s2, s3, h⟩ := h
  obtain ⟨s4, s5, h⟩ := h
  obtain ⟨s6, s7, h⟩ := h
  obtain ⟨s8, s9, h⟩ := h
  obtain ⟨s10, s11, h⟩ := h
  obtain ⟨s12, s13, h⟩ := h
  obtain ⟨s14, s15, h⟩ := h
  exact AtV.weak (AtV.ret (us := [Option.some (Lst.mk YA0 [(u57_0 x0.1 x1, (x0.2.1.1, x0.2.1.2.1, x0.2.1.2.2.1, x0.2.1.2.2.2.1, ()), u58_0 x0.2.2.1 (g57_0 x0.1 x1), u59_0 x0.2.2.2.1 (g58_0 x0.2.2.1 (g57_0 x0.1 x1)), (x0.2.2.2.2.1.1, x0.2.2.2.2.1.2.1, x0.2.2.2.2.1.2.2.1, ()), (x0.2.2.2.2.2.1.1, x0.2.2.2.2.2.1.2.1, x0.2.2.2.2.2.1.2.2.1, ()), u60_0 x0.2.2.2.2.2.2.1 (g59_0 x0.2.2.2.1 (g58_0 x0.2.2.1 (g57_0 x0.1 x1))), (x0.2.2.2.2.2.2.2.1.1, x0.2.2.2.2.2.2.2.1.2.1, x0.2.2.2.2.2.2.2.1.2.2.1, x0.2.2.2.2.2.2.2.1.2.2.2.1, ()), u61_0 x0.2.2.2.2.2.2.2.2.1 (g60_0 x0.2.2.2.2.2.2.1 (g59_0 x0.2.2.2.1 (g58_0 x0.2.2.1 (g57_0 x0.1 x1)))), u62_0 x0.2.2.2.2.2.2.2.2.2.1 (g61_0 x0.2.2.2.2.2.2.2.2.1 (g60_0 x0.2.2.2.2.2.2.1 (g59_0 x0.2.2.2.1 (g58_0 x0.2.2.1 (g57_0 x0.1 x1))))), u63_0 x0.2.2.2.2.2.2.2.2.2.2.1 (g62_0 x0.2.2.2.2.2.2.2.2.2.1 (g61_0 x0.2.2.2.2.2.2.2.2.1 (g60_0 x0.2.2.2.2.2.2.1 (g59_0 x0.2.2.2.1 (g58_0 x0.2.2.1 (g57_0 x0.1 x1)))))), u64_0 x0.2.2.2.2.2.2.2.2.2.2.2.1 (g63_0 x0.2.2.2.2.2.2.2.2.2.2.1 (g62_0 x0.2.2.2.2.2.2.2.2.2.1 (g61_0 x0.2.2.2.2.2.2.2.2.1 (g60_0 x0.2.2.2.2.2.2.1 (g59_0 x0.2.2.2.1 (g58_0 x0.2.2.1 (g57_0 x0.1 x1))))))), ())])]) Tryz.func10 tabOk ext10Ok mixed false [] tys10 [] (a1 s0 (a1 s1 (a1 s2 (a1 s3 (a1 s4 (a1 s5 (a1 s6 (a1 s7 (a1 s8 (a1 s9 (a1 s10 (a1 s11 (a1 s12 (a1 s13 (a1 s14 (a1 s15 trivial)))))))))))))))) (by kernel_rfl)) ⟨.inl rfl, trivial⟩
def S10 : Am.Spec := { sig := sig10, pre := fun ⟨x0, x1, _⟩ => P10 x0 x1, upd := fun ⟨x0, x1, _⟩ => [some ⟨Ty.cons (Ty.sl YA3) YA1, [u10_0 x0 x1]⟩], res := fun ⟨x0, x1, _⟩ => [⟨Ty.int .i64, g10_0 x0 x1⟩], kds := kds10 }
theorem con10 : Contract Tryz.prog 10 S10 := contract_of Tryz.func10 hb10 (Nat.le_of_ble_eq_true (by kernel_rfl)) (fun ⟨x0, x1, _⟩ h _ K q => at10 x0 x1 h K q)
end
noncomputable section
def ext11 : Ext := [(65, S65)]
theorem ext11Ok : ExtOk Tryz.prog ext11 := ⟨⟨ca65, con65⟩, trivial⟩
noncomputable def b11 : Code := bodyOf Tryz.f11
theorem hb11 : Tryz.f11.body = some b11 := by kernel_rfl
def sig11 : List AT := [AT.own Ty.str, AT.v (Ty.int .i64)]
def tys11 : List Ty := [Ty.int .i64]
def kds11 : List RK := []
def oks11 : List AT := owns sig11
def E11_2 (v5 : Int) (x1 : Int) (x0 : List ByteArray) : Env := [(0, PV.a (Atom.osl 0 Option.none)), (1, PV.a (Atom.val (Value.int .i64 x1))), (5, PV.a (Atom.val (Value.int .i64 v5)))]
def L11_2 (v5 : Int) (x1 : Int) (x0 : List ByteArray) : Heap := [Option.some (Arr.mk Ty.str x0 false Option.none Option.none)]
mutual
def R11 : Nat → List ByteArray → Int → List Dyn → List (Option Lst) → Prop
  | 0, _, _, _, _ => False
  | n + 1, x0, x1, ds, us => (R11_2 n (0) (x1) (x0) ds us)
def R11_2 : Nat → Int → Int → List ByteArray → List Dyn → List (Option Lst) → Prop
  | 0, _, _, _, _, _ => False
  | n + 1, v5, x1, x0, ds, us => (if (decide (v5 < (↑(List.length x0) : Int))) = true then ((0 ≤ v5) ∧ (v5 < (↑(List.length x0) : Int)) ∧ ((InR .i64 (x1 + 1)) ∧ ((InR .i64 (v5 + 1)) ∧ (R11_2 n (v5 + 1) (x1 + 1) (List.set x0 (Int.toNat v5) (g65_0 x1)) ds us)))) else (ds = [Dyn.mk (Ty.int .i64) x1] ∧ us = [Option.some (Lst.mk Ty.str x0)]))
end
theorem snd11 : ∀ n, (∀ (x0 : List ByteArray) (x1 : Int) ds us, R11 n x0 x1 ds us → ∀ K q, AtV Tryz.prog 11 (PostR kds11 oks11 ds us [0] q K) 20 K q [0] [.code b11] (entE 0 0 sig11 (x0, x1, ())) (entL sig11 (x0, x1, ()))) ∧ (∀ (v5 : Int) (x1 : Int) (x0 : List ByteArray) ds us, R11_2 n v5 x1 x0 ds us → ∀ K q, AtV Tryz.prog 11 (PostR kds11 oks11 ds us [0] q K) 20 K q [0] (cutAt b11 2) (E11_2 v5 x1 x0) (L11_2 v5 x1 x0)) := by
  intro n
  induction n with
  | zero => exact ⟨fun _ _ _ _ h => by simp only [R11] at h, fun _ _ _ _ _ h => by simp only [R11_2] at h⟩
  | succ n ih =>
  obtain ⟨ih, ih2⟩ := ih
  refine ⟨?_, ?_⟩
  · intro x0 x1 ds us h K q
    rw [R11] at h
    exact AtV.go tabOk ext11Ok mixed false [] [] [0, 1, 5] [0] [] trivial (ih2 _ _ _ _ _ h K q) (by kernel_rfl)
  · intro v5 x1 x0 ds us h K q
    rw [R11_2] at h
    by_cases b0 : (decide (v5 < (↑(List.length x0) : Int))) = true
    · rw [if_pos b0] at h
      obtain ⟨s0, s1, h⟩ := h
      obtain ⟨s2, h⟩ := h
      obtain ⟨s3, h⟩ := h
      exact AtV.go tabOk ext11Ok mixed false [] [] [0, 1, 5] [0] [true] (a1 b0 (a1 trivial (a1 s0 (a1 s1 (a1 s2 (a1 s3 trivial)))))) (ih2 _ _ _ _ _ h K q) (by kernel_rfl)
    · rw [if_neg b0] at h
      replace b0 := Bool.eq_false_iff.2 b0
      obtain ⟨h, h'⟩ := h; subst h; subst h'
      exact AtV.ret Tryz.func11 tabOk ext11Ok mixed false [] tys11 [false] (a1 b0 trivial) (by kernel_rfl)
def M11 (x1 : Int) (n : Nat) : List ByteArray := (List.range n).map fun (j : Nat) => g65_0 (x1 + (j : Int))
theorem M11_len (x1 : Int) (n : Nat) : (M11 x1 n).length = n := by simp [M11]
theorem M11_step (x1 : Int) (x0 : List ByteArray) (i : Nat) (h : i < x0.length) : (M11 x1 i ++ x0.drop i).set i (g65_0 (x1 + (i : Int))) = M11 x1 (i + 1) ++ x0.drop (i + 1) := by
  rw [List.set_append_right _ _ (by rw [M11_len]; exact Nat.le_refl _), M11_len, Nat.sub_self, List.drop_eq_getElem_cons h, List.set_cons_zero]
  simp [M11, List.range_succ]
theorem run11 (x0 : List ByteArray) (x1 : Int) (hm : x0.length ≤ maxLen) (h0 : 0 ≤ x1) (h1 : x1 + x0.length ≤ 9223372036854775807) : ∀ (k i : Nat), i + k = x0.length →
    R11_2 (k + 1) (i : Int) (x1 + (i : Int)) (M11 x1 i ++ x0.drop i) [⟨.int .i64, x1 + (x0.length : Int)⟩] [some ⟨.str, M11 x1 x0.length⟩] := by
  intro k
  induction k with
  | zero =>
    intro i hi
    have hl : (M11 x1 i ++ x0.drop i).length = x0.length := by simp [M11_len]; omega
    rw [R11_2, if_neg (by rw [hl]; simp; omega), drop_end x0 i (by omega), List.append_nil]
    have : i = x0.length := by omega
    subst this
    exact ⟨rfl, rfl⟩
  | succ k ih =>
    intro i hi
    have hl : (M11 x1 i ++ x0.drop i).length = x0.length := by simp [M11_len]; omega
    rw [R11_2, if_pos (by rw [hl]; simp; omega), hl]
    simp only [Int.toNat_natCast]
    refine ⟨by omega, by omega, by rw [i64_iff]; omega, inR_up hm (by omega), ?_⟩
    rw [M11_step x1 x0 i (by omega), Int.add_assoc]
    exact ih (i + 1) (by omega)
def P11 (x0 : List ByteArray) (x1 : Int) : Prop := 0 ≤ x1 ∧ x1 + x0.length ≤ 9223372036854775807
def g11_0 (x0 : List ByteArray) (x1 : Int) : Int := x1 + (x0.length : Int)
def u11_0 (x0 : List ByteArray) (x1 : Int) : List ByteArray := M11 x1 x0.length
theorem top11 (x0 : List ByteArray) (x1 : Int) (hm : x0.length ≤ maxLen) (h : P11 x0 x1) : R11 (x0.length + 1 + 1) x0 x1 [⟨.int .i64, g11_0 x0 x1⟩] [some ⟨.str, u11_0 x0 x1⟩] := by
  rw [R11]
  have := run11 x0 x1 hm h.1 h.2 x0.length 0 (by omega)
  simpa [M11, g11_0, u11_0] using this
def S11 : Am.Spec := { sig := sig11, pre := fun ⟨x0, x1, _⟩ => P11 x0 x1, upd := fun ⟨x0, x1, _⟩ => [some ⟨.str, u11_0 x0 x1⟩], res := fun ⟨x0, x1, _⟩ => [⟨.int .i64, g11_0 x0 x1⟩] }
theorem con11 : Contract Tryz.prog 11 S11 := contract_of Tryz.func11 hb11 (Nat.le_of_ble_eq_true (by kernel_rfl)) (fun ⟨x0, x1, _⟩ h hwf K q =>
  (snd11 _).1 x0 x1 _ _ (top11 x0 x1 hwf.1.1 h) K q)
end
noncomputable section
def ext12 : Ext := [(65, S65)]
theorem ext12Ok : ExtOk Tryz.prog ext12 := ⟨⟨ca65, con65⟩, trivial⟩
noncomputable def b12 : Code := bodyOf Tryz.f12
theorem hb12 : Tryz.f12.body = some b12 := by kernel_rfl
def sig12 : List AT := [AT.v (Ty.sl Ty.str), AT.v (Ty.int .i64)]
def tys12 : List Ty := [Ty.int .i64]
def kds12 : List RK := []
def oks12 : List AT := owns sig12
def E12_2 (v5 : Int) (x0 : List ByteArray) (x1 : Int) : Env := [(0, PV.a (Atom.sl Ty.str x0)), (1, PV.a (Atom.val (Value.int .i64 x1))), (5, PV.a (Atom.val (Value.int .i64 v5)))]
def L12_2 (v5 : Int) (x0 : List ByteArray) (x1 : Int) : Heap := []
mutual
def R12 : Nat → List ByteArray → Int → List Dyn → Prop
  | 0, _, _, _ => False
  | n + 1, x0, x1, ds => (R12_2 n (0) (x0) (x1) ds)
def R12_2 : Nat → Int → List ByteArray → Int → List Dyn → Prop
  | 0, _, _, _, _ => False
  | n + 1, v5, x0, x1, ds => (if (decide (v5 < (↑(List.length x0) : Int))) = true then ((0 ≤ v5) ∧ (v5 < (↑(List.length x0) : Int)) ∧ (if (!ByteArray.toList (List.getD x0 (Int.toNat v5) ByteArray.empty) == ByteArray.toList (g65_0 x1)) = true then (ds = [Dyn.mk (Ty.int .i64) (-1)]) else ((InR .i64 (x1 + 1)) ∧ ((InR .i64 (v5 + 1)) ∧ (R12_2 n (v5 + 1) (x0) (x1 + 1) ds))))) else (ds = [Dyn.mk (Ty.int .i64) x1]))
end
theorem snd12 : ∀ n, (∀ (x0 : List ByteArray) (x1 : Int) ds, R12 n x0 x1 ds → ∀ K q, AtV Tryz.prog 12 (PostR kds12 oks12 ds [] [] q K) 22 K q [] [.code b12] (entE 0 0 sig12 (x0, x1, ())) (entL sig12 (x0, x1, ()))) ∧ (∀ (v5 : Int) (x0 : List ByteArray) (x1 : Int) ds, R12_2 n v5 x0 x1 ds → ∀ K q, AtV Tryz.prog 12 (PostR kds12 oks12 ds [] [] q K) 22 K q [] (cutAt b12 2) (E12_2 v5 x0 x1) (L12_2 v5 x0 x1)) := by
  intro n
  induction n with
  | zero => exact ⟨fun _ _ _ h => by simp only [R12] at h, fun _ _ _ _ h => by simp only [R12_2] at h⟩
  | succ n ih =>
  obtain ⟨ih, ih2⟩ := ih
  refine ⟨?_, ?_⟩
  · intro x0 x1 ds h K q
    rw [R12] at h
    exact AtV.go tabOk ext12Ok mixed false [] [] [0, 1, 5] [] [] trivial (ih2 _ _ _ _ h K q) (by kernel_rfl)
  · intro v5 x0 x1 ds h K q
    rw [R12_2] at h
    by_cases b0 : (decide (v5 < (↑(List.length x0) : Int))) = true
    · rw [if_pos b0] at h
      obtain ⟨s0, s1, h⟩ := h
      by_cases b1 : (!ByteArray.toList (List.getD x0 (Int.toNat v5) ByteArray.empty) == ByteArray.toList (g65_0 x1)) = true
      · rw [if_pos b1] at h
        subst h
        exact AtV.ret Tryz.func12 tabOk ext12Ok mixed false [] tys12 [true, true] (a1 b0 (a1 s0 (a1 s1 (a1 trivial (a1 b1 trivial))))) (by kernel_rfl)
      · rw [if_neg b1] at h
        replace b1 := Bool.eq_false_iff.2 b1
        obtain ⟨s2, h⟩ := h
        obtain ⟨s3, h⟩ := h
        exact AtV.go tabOk ext12Ok mixed false [] [] [0, 1, 5] [] [true, false] (a1 b0 (a1 s0 (a1 s1 (a1 trivial (a1 b1 (a1 s2 (a1 s3 trivial))))))) (ih2 _ _ _ _ h K q) (by kernel_rfl)
    · rw [if_neg b0] at h
      replace b0 := Bool.eq_false_iff.2 b0
      subst h
      exact AtV.ret Tryz.func12 tabOk ext12Ok mixed false [] tys12 [false] (a1 b0 trivial) (by kernel_rfl)
theorem run12 (x0 : List ByteArray) (x1 : Int) (hm : x0.length ≤ maxLen) (h0 : 0 ≤ x1) (h1 : x1 + x0.length ≤ 9223372036854775807) (he : ∀ i : Nat, i < x0.length → x0.getD i ByteArray.empty = g65_0 (x1 + (i : Int))) : ∀ (k i : Nat), i + k = x0.length →
    R12_2 (k + 1) (i : Int) x0 (x1 + (i : Int)) [⟨.int .i64, x1 + (x0.length : Int)⟩] := by
  intro k
  induction k with
  | zero =>
    intro i hi
    rw [R12_2, if_neg (by simp; omega)]
    have : i = x0.length := by omega
    subst this
    rfl
  | succ k ih =>
    intro i hi
    rw [R12_2, if_pos (by simp; omega)]
    simp only [Int.toNat_natCast]
    have hb := (bytes_eq _ _).2 (he i (by omega))
    refine ⟨by omega, by omega, ?_⟩
    rw [if_neg (by rw [hb]; simp)]
    refine ⟨by rw [i64_iff]; omega, inR_up hm (by omega), ?_⟩
    rw [Int.add_assoc]
    exact ih (i + 1) (by omega)
def P12 (x0 : List ByteArray) (x1 : Int) : Prop := (0 ≤ x1 ∧ x1 + x0.length ≤ 9223372036854775807) ∧ ∀ i : Nat, i < x0.length → x0.getD i ByteArray.empty = g65_0 (x1 + (i : Int))
def g12_0 (x0 : List ByteArray) (x1 : Int) : Int := x1 + (x0.length : Int)
theorem top12 (x0 : List ByteArray) (x1 : Int) (hm : x0.length ≤ maxLen) (h : P12 x0 x1) : R12 (x0.length + 1 + 1) x0 x1 [⟨.int .i64, g12_0 x0 x1⟩] := by
  rw [R12]
  have := run12 x0 x1 hm h.1.1 h.1.2 h.2 x0.length 0 (by omega)
  simpa [g12_0] using this
def S12 : Am.Spec := { sig := sig12, pre := fun ⟨x0, x1, _⟩ => P12 x0 x1, res := fun ⟨x0, x1, _⟩ => [⟨.int .i64, g12_0 x0 x1⟩] }
theorem con12 : Contract Tryz.prog 12 S12 := contract_of Tryz.func12 hb12 (Nat.le_of_ble_eq_true (by kernel_rfl)) (fun ⟨x0, x1, _⟩ h hwf K q =>
  (snd12 _).1 x0 x1 _ (top12 x0 x1 hwf.1.1 h) K q)
end
noncomputable section
def ext3 : Ext := [(4, S4), (6, S6), (5, S5), (7, S7), (8, S8), (9, S9), (10, S10), (11, S11), (12, S12)]
theorem ext3Ok : ExtOk Tryz.prog ext3 := ⟨⟨ca4, con4⟩, ⟨ca6, con6⟩, ⟨ca5, con5⟩, ⟨ca7, con7⟩, ⟨ca8, con8⟩, ⟨ca9, con9⟩, ⟨ca10, con10⟩, ⟨ca11, con11⟩, ⟨ca12, con12⟩, trivial⟩
noncomputable def b3 : Code := bodyOf Tryz.f3
theorem hb3 : Tryz.f3.body = some b3 := by kernel_rfl
def sig3 : List AT := [AT.v YA0]
def tys3 : List Ty := [Ty.bool]
def kds3 : List RK := []
def oks3 : List AT := owns sig3
def P3 (x0 : TyA0) : Prop := ((P4 x0 1048576) ∧ (if (decide (g4_0 x0 1048576 < 0)) = true then True else ((P6 x0) ∧ ((P6 x0) ∧ (if (!g8_0 (g7_0 ((g6_0 x0).1, ((g6_0 x0).2.1.1, (g6_0 x0).2.1.2.1, (g6_0 x0).2.1.2.2.1, (g6_0 x0).2.1.2.2.2.1, ()), (g6_0 x0).2.2.1, (g6_0 x0).2.2.2.1, ((g6_0 x0).2.2.2.2.1.1, (g6_0 x0).2.2.2.2.1.2.1, (g6_0 x0).2.2.2.2.1.2.2.1, ()), ((g6_0 x0).2.2.2.2.2.1.1, (g6_0 x0).2.2.2.2.2.1.2.1, (g6_0 x0).2.2.2.2.2.1.2.2.1, ()), (g6_0 x0).2.2.2.2.2.2.1, ((g6_0 x0).2.2.2.2.2.2.2.1.1, (g6_0 x0).2.2.2.2.2.2.2.1.2.1, (g6_0 x0).2.2.2.2.2.2.2.1.2.2.1, (g6_0 x0).2.2.2.2.2.2.2.1.2.2.2.1, ()), (g6_0 x0).2.2.2.2.2.2.2.2.1, (g6_0 x0).2.2.2.2.2.2.2.2.2.1, (g6_0 x0).2.2.2.2.2.2.2.2.2.2.1, (g6_0 x0).2.2.2.2.2.2.2.2.2.2.2.1, ())) (g5_0 ((g6_0 x0).1, ((g6_0 x0).2.1.1, (g6_0 x0).2.1.2.1, (g6_0 x0).2.1.2.2.1, (g6_0 x0).2.1.2.2.2.1, ()), (g6_0 x0).2.2.1, (g6_0 x0).2.2.2.1, ((g6_0 x0).2.2.2.2.1.1, (g6_0 x0).2.2.2.2.1.2.1, (g6_0 x0).2.2.2.2.1.2.2.1, ()), ((g6_0 x0).2.2.2.2.2.1.1, (g6_0 x0).2.2.2.2.2.1.2.1, (g6_0 x0).2.2.2.2.2.1.2.2.1, ()), (g6_0 x0).2.2.2.2.2.2.1, ((g6_0 x0).2.2.2.2.2.2.2.1.1, (g6_0 x0).2.2.2.2.2.2.2.1.2.1, (g6_0 x0).2.2.2.2.2.2.2.1.2.2.1, (g6_0 x0).2.2.2.2.2.2.2.1.2.2.2.1, ()), (g6_0 x0).2.2.2.2.2.2.2.2.1, (g6_0 x0).2.2.2.2.2.2.2.2.2.1, (g6_0 x0).2.2.2.2.2.2.2.2.2.2.1, (g6_0 x0).2.2.2.2.2.2.2.2.2.2.2.1, ()))) = true then True else (if (g7_1 ((g6_0 x0).1, ((g6_0 x0).2.1.1, (g6_0 x0).2.1.2.1, (g6_0 x0).2.1.2.2.1, (g6_0 x0).2.1.2.2.2.1, ()), (g6_0 x0).2.2.1, (g6_0 x0).2.2.2.1, ((g6_0 x0).2.2.2.2.1.1, (g6_0 x0).2.2.2.2.1.2.1, (g6_0 x0).2.2.2.2.1.2.2.1, ()), ((g6_0 x0).2.2.2.2.2.1.1, (g6_0 x0).2.2.2.2.2.1.2.1, (g6_0 x0).2.2.2.2.2.1.2.2.1, ()), (g6_0 x0).2.2.2.2.2.2.1, ((g6_0 x0).2.2.2.2.2.2.2.1.1, (g6_0 x0).2.2.2.2.2.2.2.1.2.1, (g6_0 x0).2.2.2.2.2.2.2.1.2.2.1, (g6_0 x0).2.2.2.2.2.2.2.1.2.2.2.1, ()), (g6_0 x0).2.2.2.2.2.2.2.2.1, (g6_0 x0).2.2.2.2.2.2.2.2.2.1, (g6_0 x0).2.2.2.2.2.2.2.2.2.2.1, (g6_0 x0).2.2.2.2.2.2.2.2.2.2.2.1, ()) != g5_1 ((g6_0 x0).1, ((g6_0 x0).2.1.1, (g6_0 x0).2.1.2.1, (g6_0 x0).2.1.2.2.1, (g6_0 x0).2.1.2.2.2.1, ()), (g6_0 x0).2.2.1, (g6_0 x0).2.2.2.1, ((g6_0 x0).2.2.2.2.1.1, (g6_0 x0).2.2.2.2.1.2.1, (g6_0 x0).2.2.2.2.1.2.2.1, ()), ((g6_0 x0).2.2.2.2.2.1.1, (g6_0 x0).2.2.2.2.2.1.2.1, (g6_0 x0).2.2.2.2.2.1.2.2.1, ()), (g6_0 x0).2.2.2.2.2.2.1, ((g6_0 x0).2.2.2.2.2.2.2.1.1, (g6_0 x0).2.2.2.2.2.2.2.1.2.1, (g6_0 x0).2.2.2.2.2.2.2.1.2.2.1, (g6_0 x0).2.2.2.2.2.2.2.1.2.2.2.1, ()), (g6_0 x0).2.2.2.2.2.2.2.2.1, (g6_0 x0).2.2.2.2.2.2.2.2.2.1, (g6_0 x0).2.2.2.2.2.2.2.2.2.2.1, (g6_0 x0).2.2.2.2.2.2.2.2.2.2.2.1, ())) = true then True else ((P6 x0) ∧ (if (!g9_0 ((g6_0 x0).1, ((g6_0 x0).2.1.1, (g6_0 x0).2.1.2.1, (g6_0 x0).2.1.2.2.1, (g6_0 x0).2.1.2.2.2.1, ()), (g6_0 x0).2.2.1, (g6_0 x0).2.2.2.1, ((g6_0 x0).2.2.2.2.1.1, (g6_0 x0).2.2.2.2.1.2.1, (g6_0 x0).2.2.2.2.1.2.2.1, ()), ((g6_0 x0).2.2.2.2.2.1.1, (g6_0 x0).2.2.2.2.2.1.2.1, (g6_0 x0).2.2.2.2.2.1.2.2.1, ()), (g6_0 x0).2.2.2.2.2.2.1, ((g6_0 x0).2.2.2.2.2.2.2.1.1, (g6_0 x0).2.2.2.2.2.2.2.1.2.1, (g6_0 x0).2.2.2.2.2.2.2.1.2.2.1, (g6_0 x0).2.2.2.2.2.2.2.1.2.2.2.1, ()), (g6_0 x0).2.2.2.2.2.2.2.2.1, (g6_0 x0).2.2.2.2.2.2.2.2.2.1, (g6_0 x0).2.2.2.2.2.2.2.2.2.2.1, (g6_0 x0).2.2.2.2.2.2.2.2.2.2.2.1, ()) ((g6_0 x0).1, ((g6_0 x0).2.1.1, (g6_0 x0).2.1.2.1, (g6_0 x0).2.1.2.2.1, (g6_0 x0).2.1.2.2.2.1, ()), (g6_0 x0).2.2.1, (g6_0 x0).2.2.2.1, ((g6_0 x0).2.2.2.2.1.1, (g6_0 x0).2.2.2.2.1.2.1, (g6_0 x0).2.2.2.2.1.2.2.1, ()), ((g6_0 x0).2.2.2.2.2.1.1, (g6_0 x0).2.2.2.2.2.1.2.1, (g6_0 x0).2.2.2.2.2.1.2.2.1, ()), (g6_0 x0).2.2.2.2.2.2.1, ((g6_0 x0).2.2.2.2.2.2.2.1.1, (g6_0 x0).2.2.2.2.2.2.2.1.2.1, (g6_0 x0).2.2.2.2.2.2.2.1.2.2.1, (g6_0 x0).2.2.2.2.2.2.2.1.2.2.2.1, ()), (g6_0 x0).2.2.2.2.2.2.2.2.1, (g6_0 x0).2.2.2.2.2.2.2.2.2.1, (g6_0 x0).2.2.2.2.2.2.2.2.2.2.1, (g6_0 x0).2.2.2.2.2.2.2.2.2.2.2.1, ())) = true then True else ((P10 ((g6_0 x0).1, ((g6_0 x0).2.1.1, (g6_0 x0).2.1.2.1, (g6_0 x0).2.1.2.2.1, (g6_0 x0).2.1.2.2.2.1, ()), (g6_0 x0).2.2.1, (g6_0 x0).2.2.2.1, ((g6_0 x0).2.2.2.2.1.1, (g6_0 x0).2.2.2.2.1.2.1, (g6_0 x0).2.2.2.2.1.2.2.1, ()), ((g6_0 x0).2.2.2.2.2.1.1, (g6_0 x0).2.2.2.2.2.1.2.1, (g6_0 x0).2.2.2.2.2.1.2.2.1, ()), (g6_0 x0).2.2.2.2.2.2.1, ((g6_0 x0).2.2.2.2.2.2.2.1.1, (g6_0 x0).2.2.2.2.2.2.2.1.2.1, (g6_0 x0).2.2.2.2.2.2.2.1.2.2.1, (g6_0 x0).2.2.2.2.2.2.2.1.2.2.2.1, ()), (g6_0 x0).2.2.2.2.2.2.2.2.1, (g6_0 x0).2.2.2.2.2.2.2.2.2.1, (g6_0 x0).2.2.2.2.2.2.2.2.2.2.1, (g6_0 x0).2.2.2.2.2.2.2.2.2.2.2.1, ()) 1) ∧ (List.length (u10_0 ((g6_0 x0).1, ((g6_0 x0).2.1.1, (g6_0 x0).2.1.2.1, (g6_0 x0).2.1.2.2.1, (g6_0 x0).2.1.2.2.2.1, ()), (g6_0 x0).2.2.1, (g6_0 x0).2.2.2.1, ((g6_0 x0).2.2.2.2.1.1, (g6_0 x0).2.2.2.2.1.2.1, (g6_0 x0).2.2.2.2.1.2.2.1, ()), ((g6_0 x0).2.2.2.2.2.1.1, (g6_0 x0).2.2.2.2.2.1.2.1, (g6_0 x0).2.2.2.2.2.1.2.2.1, ()), (g6_0 x0).2.2.2.2.2.2.1, ((g6_0 x0).2.2.2.2.2.2.2.1.1, (g6_0 x0).2.2.2.2.2.2.2.1.2.1, (g6_0 x0).2.2.2.2.2.2.2.1.2.2.1, (g6_0 x0).2.2.2.2.2.2.2.1.2.2.2.1, ()), (g6_0 x0).2.2.2.2.2.2.2.2.1, (g6_0 x0).2.2.2.2.2.2.2.2.2.1, (g6_0 x0).2.2.2.2.2.2.2.2.2.2.1, (g6_0 x0).2.2.2.2.2.2.2.2.2.2.2.1, ()) 1).1 = List.length (g6_0 x0).1) ∧ (List.length (u10_0 ((g6_0 x0).1, ((g6_0 x0).2.1.1, (g6_0 x0).2.1.2.1, (g6_0 x0).2.1.2.2.1, (g6_0 x0).2.1.2.2.2.1, ()), (g6_0 x0).2.2.1, (g6_0 x0).2.2.2.1, ((g6_0 x0).2.2.2.2.1.1, (g6_0 x0).2.2.2.2.1.2.1, (g6_0 x0).2.2.2.2.1.2.2.1, ()), ((g6_0 x0).2.2.2.2.2.1.1, (g6_0 x0).2.2.2.2.2.1.2.1, (g6_0 x0).2.2.2.2.2.1.2.2.1, ()), (g6_0 x0).2.2.2.2.2.2.1, ((g6_0 x0).2.2.2.2.2.2.2.1.1, (g6_0 x0).2.2.2.2.2.2.2.1.2.1, (g6_0 x0).2.2.2.2.2.2.2.1.2.2.1, (g6_0 x0).2.2.2.2.2.2.2.1.2.2.2.1, ()), (g6_0 x0).2.2.2.2.2.2.2.2.1, (g6_0 x0).2.2.2.2.2.2.2.2.2.1, (g6_0 x0).2.2.2.2.2.2.2.2.2.2.1, (g6_0 x0).2.2.2.2.2.2.2.2.2.2.2.1, ()) 1).2.2.1 = List.length (g6_0 x0).2.2.1) ∧ (List.length (u10_0 ((g6_0 x0).1, ((g6_0 x0).2.1.1, (g6_0 x0).2.1.2.1, (g6_0 x0).2.1.2.2.1, (g6_0 x0).2.1.2.2.2.1, ()), (g6_0 x0).2.2.1, (g6_0 x0).2.2.2.1, ((g6_0 x0).2.2.2.2.1.1, (g6_0 x0).2.2.2.2.1.2.1, (g6_0 x0).2.2.2.2.1.2.2.1, ()), ((g6_0 x0).2.2.2.2.2.1.1, (g6_0 x0).2.2.2.2.2.1.2.1, (g6_0 x0).2.2.2.2.2.1.2.2.1, ()), (g6_0 x0).2.2.2.2.2.2.1, ((g6_0 x0).2.2.2.2.2.2.2.1.1, (g6_0 x0).2.2.2.2.2.2.2.1.2.1, (g6_0 x0).2.2.2.2.2.2.2.1.2.2.1, (g6_0 x0).2.2.2.2.2.2.2.1.2.2.2.1, ()), (g6_0 x0).2.2.2.2.2.2.2.2.1, (g6_0 x0).2.2.2.2.2.2.2.2.2.1, (g6_0 x0).2.2.2.2.2.2.2.2.2.2.1, (g6_0 x0).2.2.2.2.2.2.2.2.2.2.2.1, ()) 1).2.2.2.1 = List.length (g6_0 x0).2.2.2.1) ∧ (List.length (u10_0 ((g6_0 x0).1, ((g6_0 x0).2.1.1, (g6_0 x0).2.1.2.1, (g6_0 x0).2.1.2.2.1, (g6_0 x0).2.1.2.2.2.1, ()), (g6_0 x0).2.2.1, (g6_0 x0).2.2.2.1, ((g6_0 x0).2.2.2.2.1.1, (g6_0 x0).2.2.2.2.1.2.1, (g6_0 x0).2.2.2.2.1.2.2.1, ()), ((g6_0 x0).2.2.2.2.2.1.1, (g6_0 x0).2.2.2.2.2.1.2.1, (g6_0 x0).2.2.2.2.2.1.2.2.1, ()), (g6_0 x0).2.2.2.2.2.2.1, ((g6_0 x0).2.2.2.2.2.2.2.1.1, (g6_0 x0).2.2.2.2.2.2.2.1.2.1, (g6_0 x0).2.2.2.2.2.2.2.1.2.2.1, (g6_0 x0).2.2.2.2.2.2.2.1.2.2.2.1, ()), (g6_0 x0).2.2.2.2.2.2.2.2.1, (g6_0 x0).2.2.2.2.2.2.2.2.2.1, (g6_0 x0).2.2.2.2.2.2.2.2.2.2.1, (g6_0 x0).2.2.2.2.2.2.2.2.2.2.2.1, ()) 1).2.2.2.2.2.2.1 = List.length (g6_0 x0).2.2.2.2.2.2.1) ∧ (List.length (u10_0 ((g6_0 x0).1, ((g6_0 x0).2.1.1, (g6_0 x0).2.1.2.1, (g6_0 x0).2.1.2.2.1, (g6_0 x0).2.1.2.2.2.1, ()), (g6_0 x0).2.2.1, (g6_0 x0).2.2.2.1, ((g6_0 x0).2.2.2.2.1.1, (g6_0 x0).2.2.2.2.1.2.1, (g6_0 x0).2.2.2.2.1.2.2.1, ()), ((g6_0 x0).2.2.2.2.2.1.1, (g6_0 x0).2.2.2.2.2.1.2.1, (g6_0 x0).2.2.2.2.2.1.2.2.1, ()), (g6_0 x0).2.2.2.2.2.2.1, ((g6_0 x0).2.2.2.2.2.2.2.1.1, (g6_0 x0).2.2.2.2.2.2.2.1.2.1, (g6_0 x0).2.2.2.2.2.2.2.1.2.2.1, (g6_0 x0).2.2.2.2.2.2.2.1.2.2.2.1, ()), (g6_0 x0).2.2.2.2.2.2.2.2.1, (g6_0 x0).2.2.2.2.2.2.2.2.2.1, (g6_0 x0).2.2.2.2.2.2.2.2.2.2.1, (g6_0 x0).2.2.2.2.2.2.2.2.2.2.2.1, ()) 1).2.2.2.2.2.2.2.2.1 = List.length (g6_0 x0).2.2.2.2.2.2.2.2.1) ∧ (List.length (u10_0 ((g6_0 x0).1, ((g6_0 x0).2.1.1, (g6_0 x0).2.1.2.1, (g6_0 x0).2.1.2.2.1, (g6_0 x0).2.1.2.2.2.1, ()), (g6_0 x0).2.2.1, (g6_0 x0).2.2.2.1, ((g6_0 x0).2.2.2.2.1.1, (g6_0 x0).2.2.2.2.1.2.1, (g6_0 x0).2.2.2.2.1.2.2.1, ()), ((g6_0 x0).2.2.2.2.2.1.1, (g6_0 x0).2.2.2.2.2.1.2.1, (g6_0 x0).2.2.2.2.2.1.2.2.1, ()), (g6_0 x0).2.2.2.2.2.2.1, ((g6_0 x0).2.2.2.2.2.2.2.1.1, (g6_0 x0).2.2.2.2.2.2.2.1.2.1, (g6_0 x0).2.2.2.2.2.2.2.1.2.2.1, (g6_0 x0).2.2.2.2.2.2.2.1.2.2.2.1, ()), (g6_0 x0).2.2.2.2.2.2.2.2.1, (g6_0 x0).2.2.2.2.2.2.2.2.2.1, (g6_0 x0).2.2.2.2.2.2.2.2.2.2.1, (g6_0 x0).2.2.2.2.2.2.2.2.2.2.2.1, ()) 1).2.2.2.2.2.2.2.2.2.1 = List.length (g6_0 x0).2.2.2.2.2.2.2.2.2.1) ∧ (List.length (u10_0 ((g6_0 x0).1, ((g6_0 x0).2.1.1, (g6_0 x0).2.1.2.1, (g6_0 x0).2.1.2.2.1, (g6_0 x0).2.1.2.2.2.1, ()), (g6_0 x0).2.2.1, (g6_0 x0).2.2.2.1, ((g6_0 x0).2.2.2.2.1.1, (g6_0 x0).2.2.2.2.1.2.1, (g6_0 x0).2.2.2.2.1.2.2.1, ()), ((g6_0 x0).2.2.2.2.2.1.1, (g6_0 x0).2.2.2.2.2.1.2.1, (g6_0 x0).2.2.2.2.2.1.2.2.1, ()), (g6_0 x0).2.2.2.2.2.2.1, ((g6_0 x0).2.2.2.2.2.2.2.1.1, (g6_0 x0).2.2.2.2.2.2.2.1.2.1, (g6_0 x0).2.2.2.2.2.2.2.1.2.2.1, (g6_0 x0).2.2.2.2.2.2.2.1.2.2.2.1, ()), (g6_0 x0).2.2.2.2.2.2.2.2.1, (g6_0 x0).2.2.2.2.2.2.2.2.2.1, (g6_0 x0).2.2.2.2.2.2.2.2.2.2.1, (g6_0 x0).2.2.2.2.2.2.2.2.2.2.2.1, ()) 1).2.2.2.2.2.2.2.2.2.2.1 = List.length (g6_0 x0).2.2.2.2.2.2.2.2.2.2.1) ∧ (List.length (u10_0 ((g6_0 x0).1, ((g6_0 x0).2.1.1, (g6_0 x0).2.1.2.1, (g6_0 x0).2.1.2.2.1, (g6_0 x0).2.1.2.2.2.1, ()), (g6_0 x0).2.2.1, (g6_0 x0).2.2.2.1, ((g6_0 x0).2.2.2.2.1.1, (g6_0 x0).2.2.2.2.1.2.1, (g6_0 x0).2.2.2.2.1.2.2.1, ()), ((g6_0 x0).2.2.2.2.2.1.1, (g6_0 x0).2.2.2.2.2.1.2.1, (g6_0 x0).2.2.2.2.2.1.2.2.1, ()), (g6_0 x0).2.2.2.2.2.2.1, ((g6_0 x0).2.2.2.2.2.2.2.1.1, (g6_0 x0).2.2.2.2.2.2.2.1.2.1, (g6_0 x0).2.2.2.2.2.2.2.1.2.2.1, (g6_0 x0).2.2.2.2.2.2.2.1.2.2.2.1, ()), (g6_0 x0).2.2.2.2.2.2.2.2.1, (g6_0 x0).2.2.2.2.2.2.2.2.2.1, (g6_0 x0).2.2.2.2.2.2.2.2.2.2.1, (g6_0 x0).2.2.2.2.2.2.2.2.2.2.2.1, ()) 1).2.2.2.2.2.2.2.2.2.2.2.1 = List.length (g6_0 x0).2.2.2.2.2.2.2.2.2.2.2.1) ∧ (if (decide (g10_0 ((g6_0 x0).1, ((g6_0 x0).2.1.1, (g6_0 x0).2.1.2.1, (g6_0 x0).2.1.2.2.1, (g6_0 x0).2.1.2.2.2.1, ()), (g6_0 x0).2.2.1, (g6_0 x0).2.2.2.1, ((g6_0 x0).2.2.2.2.1.1, (g6_0 x0).2.2.2.2.1.2.1, (g6_0 x0).2.2.2.2.1.2.2.1, ()), ((g6_0 x0).2.2.2.2.2.1.1, (g6_0 x0).2.2.2.2.2.1.2.1, (g6_0 x0).2.2.2.2.2.1.2.2.1, ()), (g6_0 x0).2.2.2.2.2.2.1, ((g6_0 x0).2.2.2.2.2.2.2.1.1, (g6_0 x0).2.2.2.2.2.2.2.1.2.1, (g6_0 x0).2.2.2.2.2.2.2.1.2.2.1, (g6_0 x0).2.2.2.2.2.2.2.1.2.2.2.1, ()), (g6_0 x0).2.2.2.2.2.2.2.2.1, (g6_0 x0).2.2.2.2.2.2.2.2.2.1, (g6_0 x0).2.2.2.2.2.2.2.2.2.2.1, (g6_0 x0).2.2.2.2.2.2.2.2.2.2.2.1, ()) 1 < 0)) = true then True else ((P11 (g7_0 ((g6_0 x0).1, ((g6_0 x0).2.1.1, (g6_0 x0).2.1.2.1, (g6_0 x0).2.1.2.2.1, (g6_0 x0).2.1.2.2.2.1, ()), (g6_0 x0).2.2.1, (g6_0 x0).2.2.2.1, ((g6_0 x0).2.2.2.2.1.1, (g6_0 x0).2.2.2.2.1.2.1, (g6_0 x0).2.2.2.2.1.2.2.1, ()), ((g6_0 x0).2.2.2.2.2.1.1, (g6_0 x0).2.2.2.2.2.1.2.1, (g6_0 x0).2.2.2.2.2.1.2.2.1, ()), (g6_0 x0).2.2.2.2.2.2.1, ((g6_0 x0).2.2.2.2.2.2.2.1.1, (g6_0 x0).2.2.2.2.2.2.2.1.2.1, (g6_0 x0).2.2.2.2.2.2.2.1.2.2.1, (g6_0 x0).2.2.2.2.2.2.2.1.2.2.2.1, ()), (g6_0 x0).2.2.2.2.2.2.2.2.1, (g6_0 x0).2.2.2.2.2.2.2.2.2.1, (g6_0 x0).2.2.2.2.2.2.2.2.2.2.1, (g6_0 x0).2.2.2.2.2.2.2.2.2.2.2.1, ())) 1) ∧ (List.length (u11_0 (g7_0 ((g6_0 x0).1, ((g6_0 x0).2.1.1, (g6_0 x0).2.1.2.1, (g6_0 x0).2.1.2.2.1, (g6_0 x0).2.1.2.2.2.1, ()), (g6_0 x0).2.2.1, (g6_0 x0).2.2.2.1, ((g6_0 x0).2.2.2.2.1.1, (g6_0 x0).2.2.2.2.1.2.1, (g6_0 x0).2.2.2.2.1.2.2.1, ()), ((g6_0 x0).2.2.2.2.2.1.1, (g6_0 x0).2.2.2.2.2.1.2.1, (g6_0 x0).2.2.2.2.2.1.2.2.1, ()), (g6_0 x0).2.2.2.2.2.2.1, ((g6_0 x0).2.2.2.2.2.2.2.1.1, (g6_0 x0).2.2.2.2.2.2.2.1.2.1, (g6_0 x0).2.2.2.2.2.2.2.1.2.2.1, (g6_0 x0).2.2.2.2.2.2.2.1.2.2.2.1, ()), (g6_0 x0).2.2.2.2.2.2.2.2.1, (g6_0 x0).2.2.2.2.2.2.2.2.2.1, (g6_0 x0).2.2.2.2.2.2.2.2.2.2.1, (g6_0 x0).2.2.2.2.2.2.2.2.2.2.2.1, ())) 1) = List.length (g7_0 ((g6_0 x0).1, ((g6_0 x0).2.1.1, (g6_0 x0).2.1.2.1, (g6_0 x0).2.1.2.2.1, (g6_0 x0).2.1.2.2.2.1, ()), (g6_0 x0).2.2.1, (g6_0 x0).2.2.2.1, ((g6_0 x0).2.2.2.2.1.1, (g6_0 x0).2.2.2.2.1.2.1, (g6_0 x0).2.2.2.2.1.2.2.1, ()), ((g6_0 x0).2.2.2.2.2.1.1, (g6_0 x0).2.2.2.2.2.1.2.1, (g6_0 x0).2.2.2.2.2.1.2.2.1, ()), (g6_0 x0).2.2.2.2.2.2.1, ((g6_0 x0).2.2.2.2.2.2.2.1.1, (g6_0 x0).2.2.2.2.2.2.2.1.2.1, (g6_0 x0).2.2.2.2.2.2.2.1.2.2.1, (g6_0 x0).2.2.2.2.2.2.2.1.2.2.2.1, ()), (g6_0 x0).2.2.2.2.2.2.2.2.1, (g6_0 x0).2.2.2.2.2.2.2.2.2.1, (g6_0 x0).2.2.2.2.2.2.2.2.2.2.1, (g6_0 x0).2.2.2.2.2.2.2.2.2.2.2.1, ()))) ∧ ((P12 (u11_0 (g7_0 ((g6_0 x0).1, ((g6_0 x0).2.1.1, (g6_0 x0).2.1.2.1, (g6_0 x0).2.1.2.2.1, (g6_0 x0).2.1.2.2.2.1, ()), (g6_0 x0).2.2.1, (g6_0 x0).2.2.2.1, ((g6_0 x0).2.2.2.2.1.1, (g6_0 x0).2.2.2.2.1.2.1, (g6_0 x0).2.2.2.2.1.2.2.1, ()), ((g6_0 x0).2.2.2.2.2.1.1, (g6_0 x0).2.2.2.2.2.1.2.1, (g6_0 x0).2.2.2.2.2.1.2.2.1, ()), (g6_0 x0).2.2.2.2.2.2.1, ((g6_0 x0).2.2.2.2.2.2.2.1.1, (g6_0 x0).2.2.2.2.2.2.2.1.2.1, (g6_0 x0).2.2.2.2.2.2.2.1.2.2.1, (g6_0 x0).2.2.2.2.2.2.2.1.2.2.2.1, ()), (g6_0 x0).2.2.2.2.2.2.2.2.1, (g6_0 x0).2.2.2.2.2.2.2.2.2.1, (g6_0 x0).2.2.2.2.2.2.2.2.2.2.1, (g6_0 x0).2.2.2.2.2.2.2.2.2.2.2.1, ())) 1) 1) ∧ (if (decide (g12_0 (u11_0 (g7_0 ((g6_0 x0).1, ((g6_0 x0).2.1.1, (g6_0 x0).2.1.2.1, (g6_0 x0).2.1.2.2.1, (g6_0 x0).2.1.2.2.2.1, ()), (g6_0 x0).2.2.1, (g6_0 x0).2.2.2.1, ((g6_0 x0).2.2.2.2.1.1, (g6_0 x0).2.2.2.2.1.2.1, (g6_0 x0).2.2.2.2.1.2.2.1, ()), ((g6_0 x0).2.2.2.2.2.1.1, (g6_0 x0).2.2.2.2.2.1.2.1, (g6_0 x0).2.2.2.2.2.1.2.2.1, ()), (g6_0 x0).2.2.2.2.2.2.1, ((g6_0 x0).2.2.2.2.2.2.2.1.1, (g6_0 x0).2.2.2.2.2.2.2.1.2.1, (g6_0 x0).2.2.2.2.2.2.2.1.2.2.1, (g6_0 x0).2.2.2.2.2.2.2.1.2.2.2.1, ()), (g6_0 x0).2.2.2.2.2.2.2.2.1, (g6_0 x0).2.2.2.2.2.2.2.2.2.1, (g6_0 x0).2.2.2.2.2.2.2.2.2.2.1, (g6_0 x0).2.2.2.2.2.2.2.2.2.2.2.1, ())) 1) 1 < 0)) = true then True else (if (g12_0 (u11_0 (g7_0 ((g6_0 x0).1, ((g6_0 x0).2.1.1, (g6_0 x0).2.1.2.1, (g6_0 x0).2.1.2.2.1, (g6_0 x0).2.1.2.2.2.1, ()), (g6_0 x0).2.2.1, (g6_0 x0).2.2.2.1, ((g6_0 x0).2.2.2.2.1.1, (g6_0 x0).2.2.2.2.1.2.1, (g6_0 x0).2.2.2.2.1.2.2.1, ()), ((g6_0 x0).2.2.2.2.2.1.1, (g6_0 x0).2.2.2.2.2.1.2.1, (g6_0 x0).2.2.2.2.2.1.2.2.1, ()), (g6_0 x0).2.2.2.2.2.2.1, ((g6_0 x0).2.2.2.2.2.2.2.1.1, (g6_0 x0).2.2.2.2.2.2.2.1.2.1, (g6_0 x0).2.2.2.2.2.2.2.1.2.2.1, (g6_0 x0).2.2.2.2.2.2.2.1.2.2.2.1, ()), (g6_0 x0).2.2.2.2.2.2.2.2.1, (g6_0 x0).2.2.2.2.2.2.2.2.2.1, (g6_0 x0).2.2.2.2.2.2.2.2.2.2.1, (g6_0 x0).2.2.2.2.2.2.2.2.2.2.2.1, ())) 1) 1 != g11_0 (g7_0 ((g6_0 x0).1, ((g6_0 x0).2.1.1, (g6_0 x0).2.1.2.1, (g6_0 x0).2.1.2.2.1, (g6_0 x0).2.1.2.2.2.1, ()), (g6_0 x0).2.2.1, (g6_0 x0).2.2.2.1, ((g6_0 x0).2.2.2.2.1.1, (g6_0 x0).2.2.2.2.1.2.1, (g6_0 x0).2.2.2.2.1.2.2.1, ()), ((g6_0 x0).2.2.2.2.2.1.1, (g6_0 x0).2.2.2.2.2.1.2.1, (g6_0 x0).2.2.2.2.2.1.2.2.1, ()), (g6_0 x0).2.2.2.2.2.2.1, ((g6_0 x0).2.2.2.2.2.2.2.1.1, (g6_0 x0).2.2.2.2.2.2.2.1.2.1, (g6_0 x0).2.2.2.2.2.2.2.1.2.2.1, (g6_0 x0).2.2.2.2.2.2.2.1.2.2.2.1, ()), (g6_0 x0).2.2.2.2.2.2.2.2.1, (g6_0 x0).2.2.2.2.2.2.2.2.2.1, (g6_0 x0).2.2.2.2.2.2.2.2.2.2.1, (g6_0 x0).2.2.2.2.2.2.2.2.2.2.2.1, ())) 1) = true then True else ((P6 x0) ∧ ((P12 (u11_0 (g7_0 ((g6_0 x0).1, ((g6_0 x0).2.1.1, (g6_0 x0).2.1.2.1, (g6_0 x0).2.1.2.2.1, (g6_0 x0).2.1.2.2.2.1, ()), (g6_0 x0).2.2.1, (g6_0 x0).2.2.2.1, ((g6_0 x0).2.2.2.2.1.1, (g6_0 x0).2.2.2.2.1.2.1, (g6_0 x0).2.2.2.2.1.2.2.1, ()), ((g6_0 x0).2.2.2.2.2.1.1, (g6_0 x0).2.2.2.2.2.1.2.1, (g6_0 x0).2.2.2.2.2.1.2.2.1, ()), (g6_0 x0).2.2.2.2.2.2.1, ((g6_0 x0).2.2.2.2.2.2.2.1.1, (g6_0 x0).2.2.2.2.2.2.2.1.2.1, (g6_0 x0).2.2.2.2.2.2.2.1.2.2.1, (g6_0 x0).2.2.2.2.2.2.2.1.2.2.2.1, ()), (g6_0 x0).2.2.2.2.2.2.2.2.1, (g6_0 x0).2.2.2.2.2.2.2.2.2.1, (g6_0 x0).2.2.2.2.2.2.2.2.2.2.1, (g6_0 x0).2.2.2.2.2.2.2.2.2.2.2.1, ())) 1) 1) ∧ True))))))))))))))))
def g3_0 (x0 : TyA0) : Bool := (if (decide (g4_0 x0 1048576 < 0)) = true then true else (if (!g8_0 (g7_0 ((g6_0 x0).1, ((g6_0 x0).2.1.1, (g6_0 x0).2.1.2.1, (g6_0 x0).2.1.2.2.1, (g6_0 x0).2.1.2.2.2.1, ()), (g6_0 x0).2.2.1, (g6_0 x0).2.2.2.1, ((g6_0 x0).2.2.2.2.1.1, (g6_0 x0).2.2.2.2.1.2.1, (g6_0 x0).2.2.2.2.1.2.2.1, ()), ((g6_0 x0).2.2.2.2.2.1.1, (g6_0 x0).2.2.2.2.2.1.2.1, (g6_0 x0).2.2.2.2.2.1.2.2.1, ()), (g6_0 x0).2.2.2.2.2.2.1, ((g6_0 x0).2.2.2.2.2.2.2.1.1, (g6_0 x0).2.2.2.2.2.2.2.1.2.1, (g6_0 x0).2.2.2.2.2.2.2.1.2.2.1, (g6_0 x0).2.2.2.2.2.2.2.1.2.2.2.1, ()), (g6_0 x0).2.2.2.2.2.2.2.2.1, (g6_0 x0).2.2.2.2.2.2.2.2.2.1, (g6_0 x0).2.2.2.2.2.2.2.2.2.2.1, (g6_0 x0).2.2.2.2.2.2.2.2.2.2.2.1, ())) (g5_0 ((g6_0 x0).1, ((g6_0 x0).2.1.1, (g6_0 x0).2.1.2.1, (g6_0 x0).2.1.2.2.1, (g6_0 x0).2.1.2.2.2.1, ()), (g6_0 x0).2.2.1, (g6_0 x0).2.2.2.1, ((g6_0 x0).2.2.2.2.1.1, (g6_0 x0).2.2.2.2.1.2.1, (g6_0 x0).2.2.2.2.1.2.2.1, ()), ((g6_0 x0).2.2.2.2.2.1.1, (g6_0 x0).2.2.2.2.2.1.2.1, (g6_0 x0).2.2.2.2.2.1.2.2.1, ()), (g6_0 x0).2.2.2.2.2.2.1, ((g6_0 x0).2.2.2.2.2.2.2.1.1, (g6_0 x0).2.2.2.2.2.2.2.1.2.1, (g6_0 x0).2.2.2.2.2.2.2.1.2.2.1, (g6_0 x0).2.2.2.2.2.2.2.1.2.2.2.1, ()), (g6_0 x0).2.2.2.2.2.2.2.2.1, (g6_0 x0).2.2.2.2.2.2.2.2.2.1, (g6_0 x0).2.2.2.2.2.2.2.2.2.2.1, (g6_0 x0).2.2.2.2.2.2.2.2.2.2.2.1, ()))) = true then false else (if (g7_1 ((g6_0 x0).1, ((g6_0 x0).2.1.1, (g6_0 x0).2.1.2.1, (g6_0 x0).2.1.2.2.1, (g6_0 x0).2.1.2.2.2.1, ()), (g6_0 x0).2.2.1, (g6_0 x0).2.2.2.1, ((g6_0 x0).2.2.2.2.1.1, (g6_0 x0).2.2.2.2.1.2.1, (g6_0 x0).2.2.2.2.1.2.2.1, ()), ((g6_0 x0).2.2.2.2.2.1.1, (g6_0 x0).2.2.2.2.2.1.2.1, (g6_0 x0).2.2.2.2.2.1.2.2.1, ()), (g6_0 x0).2.2.2.2.2.2.1, ((g6_0 x0).2.2.2.2.2.2.2.1.1, (g6_0 x0).2.2.2.2.2.2.2.1.2.1, (g6_0 x0).2.2.2.2.2.2.2.1.2.2.1, (g6_0 x0).2.2.2.2.2.2.2.1.2.2.2.1, ()), (g6_0 x0).2.2.2.2.2.2.2.2.1, (g6_0 x0).2.2.2.2.2.2.2.2.2.1, (g6_0 x0).2.2.2.2.2.2.2.2.2.2.1, (g6_0 x0).2.2.2.2.2.2.2.2.2.2.2.1, ()) != g5_1 ((g6_0 x0).1, ((g6_0 x0).2.1.1, (g6_0 x0).2.1.2.1, (g6_0 x0).2.1.2.2.1, (g6_0 x0).2.1.2.2.2.1, ()), (g6_0 x0).2.2.1, (g6_0 x0).2.2.2.1, ((g6_0 x0).2.2.2.2.1.1, (g6_0 x0).2.2.2.2.1.2.1, (g6_0 x0).2.2.2.2.1.2.2.1, ()), ((g6_0 x0).2.2.2.2.2.1.1, (g6_0 x0).2.2.2.2.2.1.2.1, (g6_0 x0).2.2.2.2.2.1.2.2.1, ()), (g6_0 x0).2.2.2.2.2.2.1, ((g6_0 x0).2.2.2.2.2.2.2.1.1, (g6_0 x0).2.2.2.2.2.2.2.1.2.1, (g6_0 x0).2.2.2.2.2.2.2.1.2.2.1, (g6_0 x0).2.2.2.2.2.2.2.1.2.2.2.1, ()), (g6_0 x0).2.2.2.2.2.2.2.2.1, (g6_0 x0).2.2.2.2.2.2.2.2.2.1, (g6_0 x0).2.2.2.2.2.2.2.2.2.2.1, (g6_0 x0).2.2.2.2.2.2.2.2.2.2.2.1, ())) = true then false else (if (!g9_0 ((g6_0 x0).1, ((g6_0 x0).2.1.1, (g6_0 x0).2.1.2.1, (g6_0 x0).2.1.2.2.1, (g6_0 x0).2.1.2.2.2.1, ()), (g6_0 x0).2.2.1, (g6_0 x0).2.2.2.1, ((g6_0 x0).2.2.2.2.1.1, (g6_0 x0).2.2.2.2.1.2.1, (g6_0 x0).2.2.2.2.1.2.2.1, ()), ((g6_0 x0).2.2.2.2.2.1.1, (g6_0 x0).2.2.2.2.2.1.2.1, (g6_0 x0).2.2.2.2.2.1.2.2.1, ()), (g6_0 x0).2.2.2.2.2.2.1, ((g6_0 x0).2.2.2.2.2.2.2.1.1, (g6_0 x0).2.2.2.2.2.2.2.1.2.1, (g6_0 x0).2.2.2.2.2.2.2.1.2.2.1, (g6_0 x0).2.2.2.2.2.2.2.1.2.2.2.1, ()), (g6_0 x0).2.2.2.2.2.2.2.2.1, (g6_0 x0).2.2.2.2.2.2.2.2.2.1, (g6_0 x0).2.2.2.2.2.2.2.2.2.2.1, (g6_0 x0).2.2.2.2.2.2.2.2.2.2.2.1, ()) ((g6_0 x0).1, ((g6_0 x0).2.1.1, (g6_0 x0).2.1.2.1, (g6_0 x0).2.1.2.2.1, (g6_0 x0).2.1.2.2.2.1, ()), (g6_0 x0).2.2.1, (g6_0 x0).2.2.2.1, ((g6_0 x0).2.2.2.2.1.1, (g6_0 x0).2.2.2.2.1.2.1, (g6_0 x0).2.2.2.2.1.2.2.1, ()), ((g6_0 x0).2.2.2.2.2.1.1, (g6_0 x0).2.2.2.2.2.1.2.1, (g6_0 x0).2.2.2.2.2.1.2.2.1, ()), (g6_0 x0).2.2.2.2.2.2.1, ((g6_0 x0).2.2.2.2.2.2.2.1.1, (g6_0 x0).2.2.2.2.2.2.2.1.2.1, (g6_0 x0).2.2.2.2.2.2.2.1.2.2.1, (g6_0 x0).2.2.2.2.2.2.2.1.2.2.2.1, ()), (g6_0 x0).2.2.2.2.2.2.2.2.1, (g6_0 x0).2.2.2.2.2.2.2.2.2.1, (g6_0 x0).2.2.2.2.2.2.2.2.2.2.1, (g6_0 x0).2.2.2.2.2.2.2.2.2.2.2.1, ())) = true then false else (if (decide (g10_0 ((g6_0 x0).1, ((g6_0 x0).2.1.1, (g6_0 x0).2.1.2.1, (g6_0 x0).2.1.2.2.1, (g6_0 x0).2.1.2.2.2.1, ()), (g6_0 x0).2.2.1, (g6_0 x0).2.2.2.1, ((g6_0 x0).2.2.2.2.1.1, (g6_0 x0).2.2.2.2.1.2.1, (g6_0 x0).2.2.2.2.1.2.2.1, ()), ((g6_0 x0).2.2.2.2.2.1.1, (g6_0 x0).2.2.2.2.2.1.2.1, (g6_0 x0).2.2.2.2.2.1.2.2.1, ()), (g6_0 x0).2.2.2.2.2.2.1, ((g6_0 x0).2.2.2.2.2.2.2.1.1, (g6_0 x0).2.2.2.2.2.2.2.1.2.1, (g6_0 x0).2.2.2.2.2.2.2.1.2.2.1, (g6_0 x0).2.2.2.2.2.2.2.1.2.2.2.1, ()), (g6_0 x0).2.2.2.2.2.2.2.2.1, (g6_0 x0).2.2.2.2.2.2.2.2.2.1, (g6_0 x0).2.2.2.2.2.2.2.2.2.2.1, (g6_0 x0).2.2.2.2.2.2.2.2.2.2.2.1, ()) 1 < 0)) = true then false else (if (decide (g12_0 (u11_0 (g7_0 ((g6_0 x0).1, ((g6_0 x0).2.1.1, (g6_0 x0).2.1.2.1, (g6_0 x0).2.1.2.2.1, (g6_0 x0).2.1.2.2.2.1, ()), (g6_0 x0).2.2.1, (g6_0 x0).2.2.2.1, ((g6_0 x0).2.2.2.2.1.1, (g6_0 x0).2.2.2.2.1.2.1, (g6_0 x0).2.2.2.2.1.2.2.1, ()), ((g6_0 x0).2.2.2.2.2.1.1, (g6_0 x0).2.2.2.2.2.1.2.1, (g6_0 x0).2.2.2.2.2.1.2.2.1, ()), (g6_0 x0).2.2.2.2.2.2.1, ((g6_0 x0).2.2.2.2.2.2.2.1.1, (g6_0 x0).2.2.2.2.2.2.2.1.2.1, (g6_0 x0).2.2.2.2.2.2.2.1.2.2.1, (g6_0 x0).2.2.2.2.2.2.2.1.2.2.2.1, ()), (g6_0 x0).2.2.2.2.2.2.2.2.1, (g6_0 x0).2.2.2.2.2.2.2.2.2.1, (g6_0 x0).2.2.2.2.2.2.2.2.2.2.1, (g6_0 x0).2.2.2.2.2.2.2.2.2.2.2.1, ())) 1) 1 < 0)) = true then false else (if (g12_0 (u11_0 (g7_0 ((g6_0 x0).1, ((g6_0 x0).2.1.1, (g6_0 x0).2.1.2.1, (g6_0 x0).2.1.2.2.1, (g6_0 x0).2.1.2.2.2.1, ()), (g6_0 x0).2.2.1, (g6_0 x0).2.2.2.1, ((g6_0 x0).2.2.2.2.1.1, (g6_0 x0).2.2.2.2.1.2.1, (g6_0 x0).2.2.2.2.1.2.2.1, ()), ((g6_0 x0).2.2.2.2.2.1.1, (g6_0 x0).2.2.2.2.2.1.2.1, (g6_0 x0).2.2.2.2.2.1.2.2.1, ()), (g6_0 x0).2.2.2.2.2.2.1, ((g6_0 x0).2.2.2.2.2.2.2.1.1, (g6_0 x0).2.2.2.2.2.2.2.1.2.1, (g6_0 x0).2.2.2.2.2.2.2.1.2.2.1, (g6_0 x0).2.2.2.2.2.2.2.1.2.2.2.1, ()), (g6_0 x0).2.2.2.2.2.2.2.2.1, (g6_0 x0).2.2.2.2.2.2.2.2.2.1, (g6_0 x0).2.2.2.2.2.2.2.2.2.2.1, (g6_0 x0).2.2.2.2.2.2.2.2.2.2.2.1, ())) 1) 1 != g11_0 (g7_0 ((g6_0 x0).1, ((g6_0 x0).2.1.1, (g6_0 x0).2.1.2.1, (g6_0 x0).2.1.2.2.1, (g6_0 x0).2.1.2.2.2.1, ()), (g6_0 x0).2.2.1, (g6_0 x0).2.2.2.1, ((g6_0 x0).2.2.2.2.1.1, (g6_0 x0).2.2.2.2.1.2.1, (g6_0 x0).2.2.2.2.1.2.2.1, ()), ((g6_0 x0).2.2.2.2.2.1.1, (g6_0 x0).2.2.2.2.2.1.2.1, (g6_0 x0).2.2.2.2.2.1.2.2.1, ()), (g6_0 x0).2.2.2.2.2.2.1, ((g6_0 x0).2.2.2.2.2.2.2.1.1, (g6_0 x0).2.2.2.2.2.2.2.1.2.1, (g6_0 x0).2.2.2.2.2.2.2.1.2.2.1, (g6_0 x0).2.2.2.2.2.2.2.1.2.2.2.1, ()), (g6_0 x0).2.2.2.2.2.2.2.2.1, (g6_0 x0).2.2.2.2.2.2.2.2.2.1, (g6_0 x0).2.2.2.2.2.2.2.2.2.2.1, (g6_0 x0).2.2.2.2.2.2.2.2.2.2.2.1, ())) 1) = true then false else true)))))))
theorem at3 (x0 : TyA0) (h : P3 x0) (K : Ctx) (q : Nat → Value) : AtV Tryz.prog 3 (PostR kds3 oks3 [⟨Ty.bool, g3_0 x0⟩] [] [] q K) 96 K q [] [.code b3] (entE 0 0 sig3 (x0, ())) (entL sig3 (x0, ())) := by
  unfold P3 at h
  unfold g3_0
  obtain ⟨s0, h⟩ := h
  by_cases b0 : (decide (g4_0 x0 1048576 < 0)) = true
  · try simp only [if_pos b0] at h ⊢
    exact AtV.ret Tryz.func3 tabOk ext3Ok mixed false [] tys3 [true] (a1 s0 (a1 b0 trivial)) (by kernel_rfl)
  · try simp only [if_neg b0] at h ⊢
    replace b0 := Bool.eq_false_iff.2 b0
    obtain ⟨s1, h⟩ := h
    obtain ⟨s2, h⟩ := h
    by_cases b1 : (!g8_0 (g7_0 ((g6_0 x0).1, ((g6_0 x0).2.1.1, (g6_0 x0).2.1.2.1, (g6_0 x0).2.1.2.2.1, (g6_0 x0).2.1.2.2.2.1, ()), (g6_0 x0).2.2.1, (g6_0 x0).2.2.2.1, ((g6_0 x0).2.2.2.2.1.1, (g6_0 x0).2.2.2.2.1.2.1, (g6_0 x0).2.2.2.2.1.2.2.1, ()), ((g6_0 x0).2.2.2.2.2.1.1, (g6_0 x0).2.2.2.2.2.1.2.1, (g6_0 x0).2.2.2.2.2.1.2.2.1, ()), (g6_0 x0).2.2.2.2.2.2.1, ((g6_0 x0).2.2.2.2.2.2.2.1.1, (g6_0 x0).2.2.2.2.2.2.2.1.2.1, (g6_0 x0).2.2.2.2.2.2.2.1.2.2.1, (g6_0 x0).2.2.2.2.2.2.2.1.2.2.2.1, ()), (g6_0 x0).2.2.2.2.2.2.2.2.1, (g6_0 x0).2.2.2.2.2.2.2.2.2.1, (g6_0 x0).2.2.2.2.2.2.2.2.2.2.1, (g6_0 x0).2.2.2.2.2.2.2.2.2.2.2.1, ())) (g5_0 ((g6_0 x0).1, ((g6_0 x0).2.1.1, (g6_0 x0).2.1.2.1, (g6_0 x0).2.1.2.2.1, (g6_0 x0).2.1.2.2.2.1, ()), (g6_0 x0).2.2.1, (g6_0 x0).2.2.2.1, ((g6_0 x0).2.2.2.2.1.1, (g6_0 x0).2.2.2.2.1.2.1, (g6_0 x0).2.2.2.2.1.2.2.1, ()), ((g6_0 x0).2.2.2.2.2.1.1, (g6_0 x0).2.2.2.2.2.1.2.1, (g6_0 x0).2.2.2.2.2.1.2.2.1, ()), (g6_0 x0).2.2.2.2.2.2.1, ((g6_0 x0).2.2.2.2.2.2.2.1.1, (g6_0 x0).2.2.2.2.2.2.2.1.2.1, (g6_0 x0).2.2.2.2.2.2.2.1.2.2.1, (g6_0 x0).2.2.2.2.2.2.2.1.2.2.2.1, ()), (g6_0 x0).2.2.2.2.2.2.2.2.1, (g6_0 x0).2.2.2.2.2.2.2.2.2.1, (g6_0 x0).2.2.2.2.2.2.2.2.2.2.1, (g6_0 x0).2.2.2.2.2.2.2.2.2.2.2.1, ()))) = true
    · try simp only [if_pos b1] at h ⊢
      exact AtV.ret Tryz.func3 tabOk ext3Ok mixed false [] tys3 [false, true, true] (a1 s0 (a1 b0 (a1 s1 (a1 trivial (a1 s2 (a1 trivial (a1 trivial (a1 b1 (a1 (rfl : true = true) trivial))))))))) (by kernel_rfl)
    · try simp only [if_neg b1] at h ⊢
      replace b1 := Bool.eq_false_iff.2 b1
      by_cases b2 : (g7_1 ((g6_0 x0).1, ((g6_0 x0).2.1.1, (g6_0 x0).2.1.2.1, (g6_0 x0).2.1.2.2.1, (g6_0 x0).2.1.2.2.2.1, ()), (g6_0 x0).2.2.1, (g6_0 x0).2.2.2.1, ((g6_0 x0).2.2.2.2.1.1, (g6_0 x0).2.2.2.2.1.2.1, (g6_0 x0).2.2.2.2.1.2.2.1, ()), ((g6_0 x0).2.2.2.2.2.1.1, (g6_0 x0).2.2.2.2.2.1.2.1, (g6_0 x0).2.2.2.2.2.1.2.2.1, ()), (g6_0 x0).2.2.2.2.2.2.1, ((g6_0 x0).2.2.2.2.2.2.2.1.1, (g6_0 x0).2.2.2.2.2.2.2.1.2.1, (g6_0 x0).2.2.2.2.2.2.2.1.2.2.1, (g6_0 x0).2.2.2.2.2.2.2.1.2.2.2.1, ()), (g6_0 x0).2.2.2.2.2.2.2.2.1, (g6_0 x0).2.2.2.2.2.2.2.2.2.1, (g6_0 x0).2.2.2.2.2.2.2.2.2.2.1, (g6_0 x0).2.2.2.2.2.2.2.2.2.2.2.1, ()) != g5_1 ((g6_0 x0).1, ((g6_0 x0).2.1.1, (g6_0 x0).2.1.2.1, (g6_0 x0).2.1.2.2.1, (g6_0 x0).2.1.2.2.2.1, ()), (g6_0 x0).2.2.1, (g6_0 x0).2.2.2.1, ((g6_0 x0).2.2.2.2.1.1, (g6_0 x0).2.2.2.2.1.2.1, (g6_0 x0).2.2.2.2.1.2.2.1, ()), ((g6_0 x0).2.2.2.2.2.1.1, (g6_0 x0).2.2.2.2.2.1.2.1, (g6_0 x0).2.2.2.2.2.1.2.2.1, ()), (g6_0 x0).2.2.2.2.2.2.1, ((g6_0 x0).2.2.2.2.2.2.2.1.1, (g6_0 x0).2.2.2.2.2.2.2.1.2.1, (g6_0 x0).2.2.2.2.2.2.2.1.2.2.1, (g6_0 x0).2.2.2.2.2.2.2.1.2.2.2.1, ()), (g6_0 x0).2.2.2.2.2.2.2.2.1, (g6_0 x0).2.2.2.2.2.2.2.2.2.1, (g6_0 x0).2.2.2.2.2.2.2.2.2.2.1, (g6_0 x0).2.2.2.2.2.2.2.2.2.2.2.1, ())) = true
      · try simp only [if_pos b2] at h ⊢
        exact AtV.ret Tryz.func3 tabOk ext3Ok mixed false [] tys3 [false, false, true] (a1 s0 (a1 b0 (a1 s1 (a1 trivial (a1 s2 (a1 trivial (a1 trivial (a1 b1 (a1 b2 trivial))))))))) (by kernel_rfl)
      · try simp only [if_neg b2] at h ⊢
        replace b2 := Bool.eq_false_iff.2 b2
        obtain ⟨s3, h⟩ := h
        by_cases b3 : (!g9_0 ((g6_0 x0).1, ((g6_0 x0).2.1.1, (g6_0 x0).2.1.2.1, (g6_0 x0).2.1.2.2.1, (g6_0 x0).2.1.2.2.2.1, ()), (g6_0 x0).2.2.1, (g6_0 x0).2.2.2.1, ((g6_0 x0).2.2.2.2.1.1, (g6_0 x0).2.2.2.2.1.2.1, (g6_0 x0).2.2.2.2.1.2.2.1, ()), ((g6_0 x0).2.2.2.2.2.1.1, (g6_0 x0).2.2.2.2.2.1.2.1, (g6_0 x0).2.2.2.2.2.1.2.2.1, ()), (g6_0 x0).2.2.2.2.2.2.1, ((g6_0 x0).2.2.2.2.2.2.2.1.1, (g6_0 x0).2.2.2.2.2.2.2.1.2.1, (g6_0 x0).2.2.2.2.2.2.2.1.2.2.1, (g6_0 x0).2.2.2.2.2.2.2.1.2.2.2.1, ()), (g6_0 x0).2.2.2.2.2.2.2.2.1, (g6_0 x0).2.2.2.2.2.2.2.2.2.1, (g6_0 x0).2.2.2.2.2.2.2.2.2.2.1, (g6_0 x0).2.2.2.2.2.2.2.2.2.2.2.1, ()) ((g6_0 x0).1, ((g6_0 x0).2.1.1, (g6_0 x0).2.1.2.1, (g6_0 x0).2.1.2.2.1, (g6_0 x0).2.1.2.2.2.1, ()), (g6_0 x0).2.2.1, (g6_0 x0).2.2.2.1, ((g6_0 x0).2.2.2.2.1.1, (g6_0 x0).2.2.2.2.1.2.1, (g6_0 x0).2.2.2.2.1.2.2.1, ()), ((g6_0 x0).2.2.2.2.2.1.1, (g6_0 x0).2.2.2.2.2.1.2.1, (g6_0 x0).2.2.2.2.2.1.2.2.1, ()), (g6_0 x0).2.2.2.2.2.2.1, ((g6_0 x0).2.2.2.2.2.2.2.1.1, (g6_0 x0).2.2.2.2.2.2.2.1.2.1, (g6_0 x0).2.2.2.2.2.2.2.1.2.2.1, (g6_0 x0).2.2.2.2.2.2.2.1.2.2.2.1, ()), (g6_0 x0).2.2.2.2.2.2.2.2.1, (g6_0 x0).2.2.2.2.2.2.2.2.2.1, (g6_0 x0).2.2.2.2.2.2.2.2.2.2.1, (g6_0 x0).2.2.2.2.2.2.2.2.2.2.2.1, ())) = true
        · try simp only [if_pos b3] at h ⊢
          exact AtV.ret Tryz.func3 tabOk ext3Ok mixed false [] tys3 [false, false, false, true] (a1 s0 (a1 b0 (a1 s1 (a1 trivial (a1 s2 (a1 trivial (a1 trivial (a1 b1 (a1 b2 (a1 s3 (a1 trivial (a1 b3 trivial)))))))))))) (by kernel_rfl)
        · try simp only [if_neg b3] at h ⊢
          replace b3 := Bool.eq_false_iff.2 b3
          obtain ⟨s4, s5, s6, s7, s8, s9, s10, s11, s12, h⟩ := h
          by_cases b4 : (decide (g10_0 ((g6_0 x0).1, ((g6_0 x0).2.1.1, (g6_0 x0).2.1.2.1, (g6_0 x0).2.1.2.2.1, (g6_0 x0).2.1.2.2.2.1, ()), (g6_0 x0).2.2.1, (g6_0 x0).2.2.2.1, ((g6_0 x0).2.2.2.2.1.1, (g6_0 x0).2.2.2.2.1.2.1, (g6_0 x0).2.2.2.2.1.2.2.1, ()), ((g6_0 x0).2.2.2.2.2.1.1, (g6_0 x0).2.2.2.2.2.1.2.1, (g6_0 x0).2.2.2.2.2.1.2.2.1, ()), (g6_0 x0).2.2.2.2.2.2.1, ((g6_0 x0).2.2.2.2.2.2.2.1.1, (g6_0 x0).2.2.2.2.2.2.2.1.2.1, (g6_0 x0).2.2.2.2.2.2.2.1.2.2.1, (g6_0 x0).2.2.2.2.2.2.2.1.2.2.2.1, ()), (g6_0 x0).2.2.2.2.2.2.2.2.1, (g6_0 x0).2.2.2.2.2.2.2.2.2.1, (g6_0 x0).2.2.2.2.2.2.2.2.2.2.1, (g6_0 x0).2.2.2.2.2.2.2.2.2.2.2.1, ()) 1 < 0)) = true
          · try simp only [if_pos b4] at h ⊢
            exact AtV.ret Tryz.func3 tabOk ext3Ok mixed false [] tys3 [false, false, false, false, true, true, true] (a1 s0 (a1 b0 (a1 s1 (a1 trivial (a1 s2 (a1 trivial (a1 trivial (a1 b1 (a1 b2 (a1 s3 (a1 trivial (a1 b3 (a1 s4 (a1 s5 (a1 s6 (a1 s7 (a1 s8 (a1 s9 (a1 s10 (a1 s11 (a1 s12 (a1 b4 (a1 (rfl : true = true) (a1 (rfl : true = true) trivial)))))))))))))))))))))))) (by kernel_rfl)
          · try simp only [if_neg b4] at h ⊢
            replace b4 := Bool.eq_false_iff.2 b4
            obtain ⟨s13, s14, h⟩ := h
            obtain ⟨s15, h⟩ := h
            by_cases b5 : (decide (g12_0 (u11_0 (g7_0 ((g6_0 x0).1, ((g6_0 x0).2.1.1, (g6_0 x0).2.1.2.1, (g6_0 x0).2.1.2.2.1, (g6_0 x0).2.1.2.2.2.1, ()), (g6_0 x0).2.2.1, (g6_0 x0).2.2.2.1, ((g6_0 x0).2.2.2.2.1.1, (g6_0 x0).2.2.2.2.1.2.1, (g6_0 x0).2.2.2.2.1.2.2.1, ()), ((g6_0 x0).2.2.2.2.2.1.1, (g6_0 x0).2.2.2.2.2.1.2.1, (g6_0 x0).2.2.2.2.2.1.2.2.1, ()), (g6_0 x0).2.2.2.2.2.2.1, ((g6_0 x0).2.2.2.2.2.2.2.1.1, (g6_0 x0).2.2.2.2.2.2.2.1.2.1, (g6_0 x0).2.2.2.2.2.2.2.1.2.2.1, (g6_0 x0).2.2.2.2.2.2.2.1.2.2.2.1, ()), (g6_0 x0).2.2.2.2.2.2.2.2.1, (g6_0 x0).2.2.2.2.2.2.2.2.2.1, (g6_0 x0).2.2.2.2.2.2.2.2.2.2.1, (g6_0 x0).2.2.2.2.2.2.2.2.2.2.2.1, ())) 1) 1 < 0)) = true
            · try simp only [if_pos b5] at h ⊢
              exact AtV.ret Tryz.func3 tabOk ext3Ok mixed false [] tys3 [false, false, false, false, false, false, false, true] (a1 s0 (a1 b0 (a1 s1 (a1 trivial (a1 s2 (a1 trivial (a1 trivial (a1 b1 (a1 b2 (a1 s3 (a1 trivial (a1 b3 (a1 s4 (a1 s5 (a1 s6 (a1 s7 (a1 s8 (a1 s9 (a1 s10 (a1 s11 (a1 s12 (a1 b4 (a1 trivial (a1 b1 (a1 b2 (a1 s13 (a1 s14 (a1 s15 (a1 b5 trivial))))))))))))))))))))))))))))) (by kernel_rfl)
            · try simp only [if_neg b5] at h ⊢
              replace b5 := Bool.eq_false_iff.2 b5
              by_cases b6 : (g12_0 (u11_0 (g7_0 ((g6_0 x0).1, ((g6_0 x0).2.1.1, (g6_0 x0).2.1.2.1, (g6_0 x0).2.1.2.2.1, (g6_0 x0).2.1.2.2.2.1, ()), (g6_0 x0).2.2.1, (g6_0 x0).2.2.2.1, ((g6_0 x0).2.2.2.2.1.1, (g6_0 x0).2.2.2.2.1.2.1, (g6_0 x0).2.2.2.2.1.2.2.1, ()), ((g6_0 x0).2.2.2.2.2.1.1, (g6_0 x0).2.2.2.2.2.1.2.1, (g6_0 x0).2.2.2.2.2.1.2.2.1, ()), (g6_0 x0).2.2.2.2.2.2.1, ((g6_0 x0).2.2.2.2.2.2.2.1.1, (g6_0 x0).2.2.2.2.2.2.2.1.2.1, (g6_0 x0).2.2.2.2.2.2.2.1.2.2.1, (g6_0 x0).2.2.2.2.2.2.2.1.2.2.2.1, ()), (g6_0 x0).2.2.2.2.2.2.2.2.1, (g6_0 x0).2.2.2.2.2.2.2.2.2.1, (g6_0 x0).2.2.2.2.2.2.2.2.2.2.1, (g6_0 x0).2.2.2.2.2.2.2.2.2.2.2.1, ())) 1) 1 != g11_0 (g7_0 ((g6_0 x0).1, ((g6_0 x0).2.1.1, (g6_0 x0).2.1.2.1, (g6_0 x0).2.1.2.2.1, (g6_0 x0).2.1.2.2.2.1, ()), (g6_0 x0).2.2.1, (g6_0 x0).2.2.2.1, ((g6_0 x0).2.2.2.2.1.1, (g6_0 x0).2.2.2.2.1.2.1, (g6_0 x0).2.2.2.2.1.2.2.1, ()), ((g6_0 x0).2.2.2.2.2.1.1, (g6_0 x0).2.2.2.2.2.1.2.1, (g6_0 x0).2.2.2.2.2.1.2.2.1, ()), (g6_0 x0).2.2.2.2.2.2.1, ((g6_0 x0).2.2.2.2.2.2.2.1.1, (g6_0 x0).2.2.2.2.2.2.2.1.2.1, (g6_0 x0).2.2.2.2.2.2.2.1.2.2.1, (g6_0 x0).2.2.2.2.2.2.2.1.2.2.2.1, ()), (g6_0 x0).2.2.2.2.2.2.2.2.1, (g6_0 x0).2.2.2.2.2.2.2.2.2.1, (g6_0 x0).2.2.2.2.2.2.2.2.2.2.1, (g6_0 x0).2.2.2.2.2.2.2.2.2.2.2.1, ())) 1) = true
              · try simp only [if_pos b6] at h ⊢
                exact AtV.ret Tryz.func3 tabOk ext3Ok mixed false [] tys3 [false, false, false, false, false, false, false, false, true] (a1 s0 (a1 b0 (a1 s1 (a1 trivial (a1 s2 (a1 trivial (a1 trivial (a1 b1 (a1 b2 (a1 s3 (a1 trivial (a1 b3 (a1 s4 (a1 s5 (a1 s6 (a1 s7 (a1 s8 (a1 s9 (a1 s10 (a1 s11 (a1 s12 (a1 b4 (a1 trivial (a1 b1 (a1 b2 (a1 s13 (a1 s14 (a1 s15 (a1 b5 (a1 b6 trivial)))))))))))))))))))))))))))))) (by kernel_rfl)
              · try simp only [if_neg b6] at h ⊢
                replace b6 := Bool.eq_false_iff.2 b6
                obtain ⟨s16, h⟩ := h
                obtain ⟨s17, h⟩ := h
                exact AtV.ret Tryz.func3 tabOk ext3Ok mixed false [] tys3 [false, false, false, false, false, false, false, false, false, false, false, false, false] (a1 s0 (a1 b0 (a1 s1 (a1 trivial (a1 s2 (a1 trivial (a1 trivial (a1 b1 (a1 b2 (a1 s3 (a1 trivial (a1 b3 (a1 s4 (a1 s5 (a1 s6 (a1 s7 (a1 s8 (a1 s9 (a1 s10 (a1 s11 (a1 s12 (a1 b4 (a1 trivial (a1 b1 (a1 b2 (a1 s13 (a1 s14 (a1 s15 (a1 b5 (a1 b6 (a1 s16 (a1 trivial (a1 trivial (a1 b1 (a1 b2 (a1 s17 (a1 b5 (a1 b6 trivial)))))))))))))))))))))))))))))))))))))) (by kernel_rfl)
def S3 : Am.Spec := { sig := sig3, pre := fun ⟨x0, _⟩ => P3 x0, res := fun ⟨x0, _⟩ => [⟨Ty.bool, g3_0 x0⟩], kds := kds3 }
theorem con3 : Contract Tryz.prog 3 S3 := contract_of Tryz.func3 hb3 (Nat.le_of_ble_eq_true (by kernel_rfl)) (fun ⟨x0, _⟩ h _ K q => at3 x0 h K q)
end
theorem szs_Bend (xs : List TyB0) (l : Int) (h0 : 0 ≤ l) (hi : l ≤ 1048576) (hw : Wf (.sl (.cons .str (.cons (.int .i64) (.cons (.int .i64) (.cons (.int .i64) .unit))))) xs) : P13 xs l ∧ (¬ g13_0 xs l < 0 → g13_0 xs l ≤ l - xs.length) := by
  have hi' : InR .i64 l := by rw [i64_iff]; omega
  exact ⟨h0, fun hg => g13_le xs l h0 hi' hw hg⟩
theorem szs_Hour (xs : List TyB2) (l : Int) (h0 : 0 ≤ l) (hi : l ≤ 1048576) (hw : Wf (.sl (.cons (.int .i64) (.cons (.int .i64) (.cons (.int .i64) .unit)))) xs) : P14 xs l ∧ (¬ g14_0 xs l < 0 → g14_0 xs l ≤ l - xs.length) := by
  have hi' : InR .i64 l := by rw [i64_iff]; omega
  have hm : xs.length ≤ 9223372036854775807 := hw.1
  refine ⟨⟨by rw [i64_iff]; omega, trivial⟩, fun hg => (g14_le xs l h0 hi' hw hg).2⟩
theorem szs_Limit (xs : List TyB2) (l : Int) (h0 : 0 ≤ l) (hi : l ≤ 1048576) (hw : Wf (.sl (.cons (.int .i64) (.cons (.int .i64) (.cons (.int .i64) .unit)))) xs) : P15 xs l ∧ (¬ g15_0 xs l < 0 → g15_0 xs l ≤ l - xs.length) := by
  have hi' : InR .i64 l := by rw [i64_iff]; omega
  have hm : xs.length ≤ 9223372036854775807 := hw.1
  refine ⟨⟨by rw [i64_iff]; omega, trivial⟩, fun hg => (g15_le xs l h0 hi' hw hg).2⟩
theorem szs_Worker (xs : List TyB1) (l : Int) (h0 : 0 ≤ l) (hi : l ≤ 1048576) (hw : Wf (.sl (.cons .str (.cons (.int .i64) (.cons (.int .i64) .unit)))) xs) : P16 xs l ∧ (¬ g16_0 xs l < 0 → g16_0 xs l ≤ l - xs.length) := by
  have hi' : InR .i64 l := by rw [i64_iff]; omega
  exact ⟨h0, fun hg => g16_le xs l h0 hi' hw hg⟩
theorem szs_Fare (xs : List TyB0) (l : Int) (h0 : 0 ≤ l) (hi : l ≤ 1048576) (hw : Wf (.sl (.cons .str (.cons (.int .i64) (.cons (.int .i64) (.cons (.int .i64) .unit))))) xs) : P17 xs l ∧ (¬ g17_0 xs l < 0 → g17_0 xs l ≤ l - xs.length) := by
  have hi' : InR .i64 l := by rw [i64_iff]; omega
  exact ⟨h0, fun hg => g17_le xs l h0 hi' hw hg⟩
theorem szs_Test (xs : List TyB2) (l : Int) (h0 : 0 ≤ l) (hi : l ≤ 1048576) (hw : Wf (.sl (.cons (.int .i64) (.cons (.int .i64) (.cons (.int .i64) .unit)))) xs) : P18 xs l ∧ (¬ g18_0 xs l < 0 → g18_0 xs l ≤ l - xs.length) := by
  have hi' : InR .i64 l := by rw [i64_iff]; omega
  have hm : xs.length ≤ 9223372036854775807 := hw.1
  refine ⟨⟨by rw [i64_iff]; omega, trivial⟩, fun hg => (g18_le xs l h0 hi' hw hg).2⟩
theorem szs_Helper (xs : List TyB1) (l : Int) (h0 : 0 ≤ l) (hi : l ≤ 1048576) (hw : Wf (.sl (.cons .str (.cons (.int .i64) (.cons (.int .i64) .unit)))) xs) : P19 xs l ∧ (¬ g19_0 xs l < 0 → g19_0 xs l ≤ l - xs.length) := by
  have hi' : InR .i64 l := by rw [i64_iff]; omega
  exact ⟨h0, fun hg => g19_le xs l h0 hi' hw hg⟩
theorem szs_Task (xs : List TyB1) (l : Int) (h0 : 0 ≤ l) (hi : l ≤ 1048576) (hw : Wf (.sl (.cons .str (.cons (.int .i64) (.cons (.int .i64) .unit)))) xs) : P20 xs l ∧ (¬ g20_0 xs l < 0 → g20_0 xs l ≤ l - xs.length) := by
  have hi' : InR .i64 l := by rw [i64_iff]; omega
  exact ⟨h0, fun hg => g20_le xs l h0 hi' hw hg⟩
theorem sz_desk (x : (TyA0)) (l : Int) (h0 : 0 ≤ l) (hi : l ≤ 1048576) (hw : Wf (.cons (.sl (.cons .str (.cons (.int .i64) (.cons (.int .i64) (.cons (.int .i64) .unit))))) (.cons (.cons (.int .i64) (.cons (.int .i64) (.cons (.int .i64) (.cons (.int .i64) .unit)))) (.cons (.sl (.cons (.int .i64) (.cons (.int .i64) (.cons (.int .i64) .unit)))) (.cons (.sl (.cons (.int .i64) (.cons (.int .i64) (.cons (.int .i64) .unit)))) (.cons (.cons (.int .i64) (.cons (.int .i64) (.cons (.int .i64) .unit))) (.cons (.cons (.int .i64) (.cons (.int .i64) (.cons (.int .i64) .unit))) (.cons (.sl (.cons .str (.cons (.int .i64) (.cons (.int .i64) .unit)))) (.cons (.cons (.int .i64) (.cons (.int .i64) (.cons (.int .i64) (.cons (.int .i64) .unit)))) (.cons (.sl (.cons .str (.cons (.int .i64) (.cons (.int .i64) (.cons (.int .i64) .unit))))) (.cons (.sl (.cons (.int .i64) (.cons (.int .i64) (.cons (.int .i64) .unit)))) (.cons (.sl (.cons .str (.cons (.int .i64) (.cons (.int .i64) .unit)))) (.cons (.sl (.cons .str (.cons (.int .i64) (.cons (.int .i64) .unit)))) .unit)))))))))))) x) : P4 x l ∧ (¬ g4_0 x l < 0 → 0 ≤ g4_0 x l ∧ g4_0 x l ≤ l ∧ (x.1.length : Int) ≤ l ∧ (x.2.2.1.length : Int) ≤ l ∧ (x.2.2.2.1.length : Int) ≤ l ∧ (x.2.2.2.2.2.2.1.length : Int) ≤ l ∧ (x.2.2.2.2.2.2.2.2.1.length : Int) ≤ l ∧ (x.2.2.2.2.2.2.2.2.2.1.length : Int) ≤ l ∧ (x.2.2.2.2.2.2.2.2.2.2.1.length : Int) ≤ l ∧ (x.2.2.2.2.2.2.2.2.2.2.2.1.length : Int) ≤ l) := by
  unfold P4 g4_0
  obtain ⟨p0, q0⟩ := szs_Bend x.1 l (by omega) (by omega) hw.1
  by_cases c0 : (g13_0 x.1 l) < 0
  · simp only [c0, p0, decide_true, decide_false, Bool.false_eq_true, if_true, if_false, and_true, true_and]
    try exact ⟨trivial, fun h => absurd (show (-1 : Int) < 0 by decide) h⟩
    try exact fun h => absurd (show (-1 : Int) < 0 by decide) h
  have r0 := q0 c0
  obtain ⟨p1, q1⟩ := szs_Hour x.2.2.1 (g13_0 x.1 l) (by omega) (by omega) hw.2.2.1
  by_cases c1 : (g14_0 x.2.2.1 (g13_0 x.1 l)) < 0
  · simp only [c0, p0, c1, p1, decide_true, decide_false, Bool.false_eq_true, if_true, if_false, and_true, true_and]
    try exact ⟨trivial, fun h => absurd (show (-1 : Int) < 0 by decide) h⟩
    try exact fun h => absurd (show (-1 : Int) < 0 by decide) h
  have r1 := q1 c1
  obtain ⟨p2, q2⟩ := szs_Limit x.2.2.2.1 (g14_0 x.2.2.1 (g13_0 x.1 l)) (by omega) (by omega) hw.2.2.2.1
  by_cases c2 : (g15_0 x.2.2.2.1 (g14_0 x.2.2.1 (g13_0 x.1 l))) < 0
  · simp only [c0, p0, c1, p1, c2, p2, decide_true, decide_false, Bool.false_eq_true, if_true, if_false, and_true, true_and]
    try exact ⟨trivial, fun h => absurd (show (-1 : Int) < 0 by decide) h⟩
    try exact fun h => absurd (show (-1 : Int) < 0 by decide) h
  have r2 := q2 c2
  obtain ⟨p3, q3⟩ := szs_Worker x.2.2.2.2.2.2.1 (g15_0 x.2.2.2.1 (g14_0 x.2.2.1 (g13_0 x.1 l))) (by omega) (by omega) hw.2.2.2.2.2.2.1
  by_cases c3 : (g16_0 x.2.2.2.2.2.2.1 (g15_0 x.2.2.2.1 (g14_0 x.2.2.1 (g13_0 x.1 l)))) < 0
  · simp only [c0, p0, c1, p1, c2, p2, c3, p3, decide_true, decide_false, Bool.false_eq_true, if_true, if_false, and_true, true_and]
    try exact ⟨trivial, fun h => absurd (show (-1 : Int) < 0 by decide) h⟩
    try exact fun h => absurd (show (-1 : Int) < 0 by decide) h
  have r3 := q3 c3
  obtain ⟨p4, q4⟩ := szs_Fare x.2.2.2.2.2.2.2.2.1 (g16_0 x.2.2.2.2.2.2.1 (g15_0 x.2.2.2.1 (g14_0 x.2.2.1 (g13_0 x.1 l)))) (by omega) (by omega) hw.2.2.2.2.2.2.2.2.1
  by_cases c4 : (g17_0 x.2.2.2.2.2.2.2.2.1 (g16_0 x.2.2.2.2.2.2.1 (g15_0 x.2.2.2.1 (g14_0 x.2.2.1 (g13_0 x.1 l))))) < 0
  · simp only [c0, p0, c1, p1, c2, p2, c3, p3, c4, p4, decide_true, decide_false, Bool.false_eq_true, if_true, if_false, and_true, true_and]
    try exact ⟨trivial, fun h => absurd (show (-1 : Int) < 0 by decide) h⟩
    try exact fun h => absurd (show (-1 : Int) < 0 by decide) h
  have r4 := q4 c4
  obtain ⟨p5, q5⟩ := szs_Test x.2.2.2.2.2.2.2.2.2.1 (g17_0 x.2.2.2.2.2.2.2.2.1 (g16_0 x.2.2.2.2.2.2.1 (g15_0 x.2.2.2.1 (g14_0 x.2.2.1 (g13_0 x.1 l))))) (by omega) (by omega) hw.2.2.2.2.2.2.2.2.2.1
  by_cases c5 : (g18_0 x.2.2.2.2.2.2.2.2.2.1 (g17_0 x.2.2.2.2.2.2.2.2.1 (g16_0 x.2.2.2.2.2.2.1 (g15_0 x.2.2.2.1 (g14_0 x.2.2.1 (g13_0 x.1 l)))))) < 0
  · simp only [c0, p0, c1, p1, c2, p2, c3, p3, c4, p4, c5, p5, decide_true, decide_false, Bool.false_eq_true, if_true, if_false, and_true, true_and]
    try exact ⟨trivial, fun h => absurd (show (-1 : Int) < 0 by decide) h⟩
    try exact fun h => absurd (show (-1 : Int) < 0 by decide) h
  have r5 := q5 c5
  obtain ⟨p6, q6⟩ := szs_Helper x.2.2.2.2.2.2.2.2.2.2.1 (g18_0 x.2.2.2.2.2.2.2.2.2.1 (g17_0 x.2.2.2.2.2.2.2.2.1 (g16_0 x.2.2.2.2.2.2.1 (g15_0 x.2.2.2.1 (g14_0 x.2.2.1 (g13_0 x.1 l)))))) (by omega) (by omega) hw.2.2.2.2.2.2.2.2.2.2.1
  by_cases c6 : (g19_0 x.2.2.2.2.2.2.2.2.2.2.1 (g18_0 x.2.2.2.2.2.2.2.2.2.1 (g17_0 x.2.2.2.2.2.2.2.2.1 (g16_0 x.2.2.2.2.2.2.1 (g15_0 x.2.2.2.1 (g14_0 x.2.2.1 (g13_0 x.1 l))))))) < 0
  · simp only [c0, p0, c1, p1, c2, p2, c3, p3, c4, p4, c5, p5, c6, p6, decide_true, decide_false, Bool.false_eq_true, if_true, if_false, and_true, true_and]
    try exact ⟨trivial, fun h => absurd (show (-1 : Int) < 0 by decide) h⟩
    try exact fun h => absurd (show (-1 : Int) < 0 by decide) h
  have r6 := q6 c6
  obtain ⟨p7, q7⟩ := szs_Task x.2.2.2.2.2.2.2.2.2.2.2.1 (g19_0 x.2.2.2.2.2.2.2.2.2.2.1 (g18_0 x.2.2.2.2.2.2.2.2.2.1 (g17_0 x.2.2.2.2.2.2.2.2.1 (g16_0 x.2.2.2.2.2.2.1 (g15_0 x.2.2.2.1 (g14_0 x.2.2.1 (g13_0 x.1 l))))))) (by omega) (by omega) hw.2.2.2.2.2.2.2.2.2.2.2.1
  by_cases c7 : (g20_0 x.2.2.2.2.2.2.2.2.2.2.2.1 (g19_0 x.2.2.2.2.2.2.2.2.2.2.1 (g18_0 x.2.2.2.2.2.2.2.2.2.1 (g17_0 x.2.2.2.2.2.2.2.2.1 (g16_0 x.2.2.2.2.2.2.1 (g15_0 x.2.2.2.1 (g14_0 x.2.2.1 (g13_0 x.1 l)))))))) < 0
  · simp only [c0, p0, c1, p1, c2, p2, c3, p3, c4, p4, c5, p5, c6, p6, c7, p7, decide_true, decide_false, Bool.false_eq_true, if_true, if_false, and_true, true_and]
    try exact ⟨trivial, fun h => absurd (show (-1 : Int) < 0 by decide) h⟩
    try exact fun h => absurd (show (-1 : Int) < 0 by decide) h
  have r7 := q7 c7
  simp only [c0, p0, c1, p1, c2, p2, c3, p3, c4, p4, c5, p5, c6, p6, c7, p7, decide_false, Bool.false_eq_true, if_false, and_true, true_and]
  intro _
  omega
theorem to_desk (x : (TyA0)) (h : (x.1.length : Int) ≤ 1048576 ∧ (x.2.2.1.length : Int) ≤ 1048576 ∧ (x.2.2.2.1.length : Int) ≤ 1048576 ∧ (x.2.2.2.2.2.2.1.length : Int) ≤ 1048576 ∧ (x.2.2.2.2.2.2.2.2.1.length : Int) ≤ 1048576 ∧ (x.2.2.2.2.2.2.2.2.2.1.length : Int) ≤ 1048576 ∧ (x.2.2.2.2.2.2.2.2.2.2.1.length : Int) ≤ 1048576 ∧ (x.2.2.2.2.2.2.2.2.2.2.2.1.length : Int) ≤ 1048576) : P6 x ∧ g6_0 x = x := by
  obtain ⟨l0, l1, l2, l3, l4, l5, l6, l7⟩ := h
  refine ⟨?_, rfl⟩
  unfold P6 P23 P25 P26 P29 P31 P32 P33 P34
  refine ⟨by omega, by omega, by omega, by omega, by omega, by omega, by omega, by omega, trivial⟩
theorem eq_desk (x : (TyA0)) : g9_0 x x = true := by
  simp [g9_0, g45_0, g47_0, g48_0, g51_0, g53_0, g54_0, g55_0, g56_0, g46_0, g49_0, g50_0, g52_0]
theorem name_eq (s : ByteArray) : g143_0 s = g137_0 s := by
  have hs : ∀ c, g157_0 c = (decide (97 ≤ c) && decide (c ≤ 122)) := fun c => by
    unfold g157_0
    by_cases h1 : (97 : Int) ≤ c <;> simp [h1]
  have hd : ∀ c, g158_0 c = (decide (48 ≤ c) && decide (c ≤ 57)) := fun c => by
    unfold g158_0
    by_cases h1 : (48 : Int) ≤ c <;> simp [h1]
  unfold g143_0 g137_0
  have hl := bytesOf_length s
  by_cases h1 : 1 ≤ s.size
  · cases hb : bytesOf s with
    | nil => rw [hb] at hl; simp at hl; omega
    | cons c r =>
      have hr : allI ok143 1 r = r.all fun b => g157_0 b || g158_0 b := by
        rw [← allI_plain (fun b => g157_0 b || g158_0 b) r 1]
        refine allI_congr r 1 fun j x hj => ?_
        have : (j == 0) = false := by simp; omega
        simp only [ok143, this, hs, hd, Bool.not_false, Bool.true_and]
      have h0 : ok143 0 c = g157_0 c := by simp [ok143, hs]
      simp only [allI, hr, h0, List.all_cons, List.getD_cons_zero]
      cases g157_0 c <;> simp
  · simp [h1]
theorem bl_asym {x y : List UInt8} (h : Op.bytesLess x y = true) : Op.bytesLess y x = false := by
  cases h2 : Op.bytesLess y x with
  | false => rfl
  | true =>
    have := bl_trans x y x h h2
    rw [bl_irrefl] at this
    cases this
theorem le_not (a b : ByteArray) : (!(Op.bytesLess (ByteArray.toList a) (ByteArray.toList b) || ByteArray.toList a == ByteArray.toList b)) = Op.bytesLess (ByteArray.toList b) (ByteArray.toList a) := by
  generalize ByteArray.toList a = x
  generalize ByteArray.toList b = y
  cases h1 : Op.bytesLess x y with
  | true => rw [bl_asym h1]; rfl
  | false =>
    cases h2 : (x == y) with
    | true =>
      have : x = y := by simpa using h2
      subst this
      rw [bl_irrefl]; rfl
    | false =>
      cases h3 : Op.bytesLess y x with
      | true => rfl
      | false =>
        have := bl_tri x y h1 h3
        subst this
        simp at h2
theorem one_Bend (x : TyB0) : g121_0 x = g112_0 x := by
  unfold g121_0 g112_0
  rw [name_eq]
  rfl
theorem list_Bend (xs : List TyB0) : g91_0 xs = g71_0 xs := by
  unfold g91_0 g71_0
  congr 1
  refine allI_congr xs 0 fun j y _ => ?_
  unfold ok91 ok71
  rw [one_Bend, le_not]
theorem one_Fare (x : TyB0) : g132_0 x = g117_0 x := by
  unfold g132_0 g117_0
  rw [name_eq]
  rfl
theorem list_Fare (xs : List TyB0) : g99_0 xs = g79_0 xs := by
  unfold g99_0 g79_0
  congr 1
  refine allI_congr xs 0 fun j y _ => ?_
  unfold ok99 ok79
  rw [one_Fare, le_not]
theorem one_Worker (x : TyB1) : g130_0 x = g116_0 x := by
  unfold g130_0 g116_0
  rw [name_eq]
  rfl
theorem list_Worker (xs : List TyB1) : g97_0 xs = g77_0 xs := by
  unfold g97_0 g77_0
  congr 1
  refine allI_congr xs 0 fun j y _ => ?_
  unfold ok97 ok77
  rw [one_Worker, le_not]
theorem one_Helper (x : TyB1) : g134_0 x = g119_0 x := by
  unfold g134_0 g119_0
  rw [name_eq]
  rfl
theorem list_Helper (xs : List TyB1) : g101_0 xs = g81_0 xs := by
  unfold g101_0 g81_0
  congr 1
  refine allI_congr xs 0 fun j y _ => ?_
  unfold ok101 ok81
  rw [one_Helper, le_not]
theorem one_Task (x : TyB1) : g135_0 x = g120_0 x := by
  unfold g135_0 g120_0
  rw [name_eq]
  rfl
theorem list_Task (xs : List TyB1) : g102_0 xs = g82_0 xs := by
  unfold g102_0 g82_0
  congr 1
  refine allI_congr xs 0 fun j y _ => ?_
  unfold ok102 ok82
  rw [one_Task, le_not]
theorem one_Test (x : Int × Int × Int × Unit) : g150_0 x = g140_0 x := by
  unfold g150_0 g140_0
  rfl
theorem order_Test (xs : List TyB2) : g133_0 xs = g118_0 xs := by
  unfold g133_0 g118_0
  refine allI_congr xs 0 fun j y _ => ?_
  unfold ok133 ok118
  rw [one_Test]
  rfl
theorem list_Test (xs : List TyB2) : g100_0 xs = g80_0 xs := by
  unfold g100_0 g80_0
  rw [order_Test]
  cases g118_0 xs <;> cases decide ((xs.length : Int) ≤ 24) <;> rfl
theorem one_Hour (x : Int × Int × Int × Unit) : g125_0 x = g114_0 x := by
  unfold g125_0 g114_0
  rfl
theorem list_Hour (xs : List TyB2) : g93_0 xs = g73_0 xs := by
  unfold g93_0 g73_0 g123c124_0
  rw [any145c124]
  have hq : (!xs.any g124_0) = xs.all g114_0 := by
    rw [List.not_any_eq_all_not]
    congr 1
    funext b
    simp only [g124_0, one_Hour, Bool.not_not]
  rw [hq]
  by_cases h : ((xs.length : Nat) : Int) ≤ 48
  · have h' : xs.length ≤ 48 := by omega
    simp [h, h']
  · have h' : ¬ xs.length ≤ 48 := by omega
    simp [h, h']
theorem one_Limit (x : Int × Int × Int × Unit) : g128_0 x = lim74 x := by
  unfold g128_0 lim74
  have e1 : g147_0 x.1 = g113_0 x.1 1 4 := rfl
  have e2 : g122_0 x.2.1 0 1000 = g113_0 x.2.1 0 1000 := rfl
  have e3 : g148_0 x.2.2.1 = g115_0 x.2.2.1 := rfl
  rw [e1, e2, e3]
  cases g113_0 x.1 1 4 <;> cases g113_0 x.2.1 0 1000 <;> cases g115_0 x.2.2.1 <;> rfl
theorem list_Limit (xs : List TyB2) : g94_0 xs = g74_0 xs := by
  unfold g94_0 g74_0 g126c127_0
  rw [any146c127]
  have hq : (!xs.any g127_0) = xs.all lim74 := by
    rw [List.not_any_eq_all_not]
    congr 1
    funext b
    simp only [g127_0, one_Limit, Bool.not_not]
  rw [hq]
  by_cases h : ((xs.length : Nat) : Int) ≤ 8
  · have h' : xs.length ≤ 8 := by omega
    simp [h, h']
  · have h' : ¬ xs.length ≤ 8 := by omega
    simp [h, h']
theorem rope_eq (x : Int × Int × Int × Int × Unit) : g92_0 x = g72_0 x := rfl
theorem motor_eq (x : Int × Int × Int × Unit) : g95_0 x = g75_0 x := rfl
theorem basin_eq (x : Int × Int × Int × Int × Unit) : g98_0 x = g78_0 x := rfl
theorem in_iff {x a b : Int} : g122_0 x a b = decide (a ≤ x ∧ x ≤ b) := by
  unfold g122_0
  by_cases c1 : x ≥ a
  · by_cases c2 : x ≤ b
    · have : a ≤ x ∧ x ≤ b := ⟨c1, c2⟩
      simp [c1, c2, this]
    · have : ¬ (a ≤ x ∧ x ≤ b) := fun h => c2 h.2
      simp [c1, c2]
  · have : ¬ (a ≤ x ∧ x ≤ b) := fun h => c1 h.1
    simp [c1, this]
theorem in_same (x a b : Int) : g113_0 x a b = g122_0 x a b := rfl
theorem door_eq (x : Int × Int × Int × Unit) : g96_0 x = g76_0 x := by
  unfold g96_0 g76_0 g129_0
  simp only [in_same, in_iff]
  obtain ⟨p, t, r, u⟩ := x
  simp only
  by_cases h0 : p = 0
  · subst h0; simp
  by_cases h1 : p = 1
  · subst h1; simp
  by_cases h2 : p = 2
  · subst h2; simp
  by_cases h3 : p = 3
  · subst h3; simp
  have : ¬ (0 ≤ p ∧ p ≤ 3) := by omega
  simp [h0, h1, h2, h3, this]
theorem valid_desk (x : (TyA0)) : g35_0 x = g21_0 x := by
  unfold g35_0 g21_0
  rw [list_Bend, list_Fare, list_Worker, list_Helper, list_Task, list_Test, list_Hour, list_Limit, rope_eq, motor_eq, basin_eq, door_eq]
  cases g75_0 x.2.2.2.2.1 <;> simp
theorem mk_Bend (xs : List TyB0) (k : Int) (h0 : 0 ≤ k) (h1 : k ≤ 100000000) (hl : xs.length ≤ 1048576) : P57 xs k ∧ (u57_0 xs k).length = xs.length ∧ 0 ≤ g57_0 xs k ∧ g57_0 xs k ≤ k + 6000000 := by
  refine ⟨⟨by omega, by omega⟩, by rw [u57_0, M57_len], ?_⟩
  unfold g57_0
  omega
theorem mk_Hour (xs : List TyB2) (k : Int) (h0 : 0 ≤ k) (h1 : k ≤ 100000000) (hl : xs.length ≤ 1048576) : P58 xs k ∧ (u58_0 xs k).length = xs.length ∧ 0 ≤ g58_0 xs k ∧ g58_0 xs k ≤ k + 6000000 := by
  refine ⟨⟨by omega, by omega⟩, by rw [u58_0, M58_len], ?_⟩
  unfold g58_0
  omega
theorem mk_Limit (xs : List TyB2) (k : Int) (h0 : 0 ≤ k) (h1 : k ≤ 100000000) (hl : xs.length ≤ 1048576) : P59 xs k ∧ (u59_0 xs k).length = xs.length ∧ 0 ≤ g59_0 xs k ∧ g59_0 xs k ≤ k + 6000000 := by
  refine ⟨⟨by omega, by omega⟩, by rw [u59_0, M59_len], ?_⟩
  unfold g59_0
  omega
theorem mk_Worker (xs : List TyB1) (k : Int) (h0 : 0 ≤ k) (h1 : k ≤ 100000000) (hl : xs.length ≤ 1048576) : P60 xs k ∧ (u60_0 xs k).length = xs.length ∧ 0 ≤ g60_0 xs k ∧ g60_0 xs k ≤ k + 6000000 := by
  refine ⟨⟨by omega, by omega⟩, by rw [u60_0, M60_len], ?_⟩
  unfold g60_0
  omega
theorem mk_Fare (xs : List TyB0) (k : Int) (h0 : 0 ≤ k) (h1 : k ≤ 100000000) (hl : xs.length ≤ 1048576) : P61 xs k ∧ (u61_0 xs k).length = xs.length ∧ 0 ≤ g61_0 xs k ∧ g61_0 xs k ≤ k + 6000000 := by
  refine ⟨⟨by omega, by omega⟩, by rw [u61_0, M61_len], ?_⟩
  unfold g61_0
  omega
theorem mk_Test (xs : List TyB2) (k : Int) (h0 : 0 ≤ k) (h1 : k ≤ 100000000) (hl : xs.length ≤ 1048576) : P62 xs k ∧ (u62_0 xs k).length = xs.length ∧ 0 ≤ g62_0 xs k ∧ g62_0 xs k ≤ k + 6000000 := by
  refine ⟨⟨by omega, by omega⟩, by rw [u62_0, M62_len], ?_⟩
  unfold g62_0
  omega
theorem mk_Helper (xs : List TyB1) (k : Int) (h0 : 0 ≤ k) (h1 : k ≤ 100000000) (hl : xs.length ≤ 1048576) : P63 xs k ∧ (u63_0 xs k).length = xs.length ∧ 0 ≤ g63_0 xs k ∧ g63_0 xs k ≤ k + 6000000 := by
  refine ⟨⟨by omega, by omega⟩, by rw [u63_0, M63_len], ?_⟩
  unfold g63_0
  omega
theorem mk_Task (xs : List TyB1) (k : Int) (h0 : 0 ≤ k) (h1 : k ≤ 100000000) (hl : xs.length ≤ 1048576) : P64 xs k ∧ (u64_0 xs k).length = xs.length ∧ 0 ≤ g64_0 xs k ∧ g64_0 xs k ≤ k + 6000000 := by
  refine ⟨⟨by omega, by omega⟩, by rw [u64_0, M64_len], ?_⟩
  unfold g64_0
  omega
theorem marked_desk (x : (TyA0)) (h : (x.1.length : Int) ≤ 1048576 ∧ (x.2.2.1.length : Int) ≤ 1048576 ∧ (x.2.2.2.1.length : Int) ≤ 1048576 ∧ (x.2.2.2.2.2.2.1.length : Int) ≤ 1048576 ∧ (x.2.2.2.2.2.2.2.2.1.length : Int) ≤ 1048576 ∧ (x.2.2.2.2.2.2.2.2.2.1.length : Int) ≤ 1048576 ∧ (x.2.2.2.2.2.2.2.2.2.2.1.length : Int) ≤ 1048576 ∧ (x.2.2.2.2.2.2.2.2.2.2.2.1.length : Int) ≤ 1048576) : P10 x 1 ∧ ¬ g10_0 x 1 < 0 ∧ ((u10_0 x 1).1.length = x.1.length ∧ (u10_0 x 1).2.2.1.length = x.2.2.1.length ∧ (u10_0 x 1).2.2.2.1.length = x.2.2.2.1.length ∧ (u10_0 x 1).2.2.2.2.2.2.1.length = x.2.2.2.2.2.2.1.length ∧ (u10_0 x 1).2.2.2.2.2.2.2.2.1.length = x.2.2.2.2.2.2.2.2.1.length ∧ (u10_0 x 1).2.2.2.2.2.2.2.2.2.1.length = x.2.2.2.2.2.2.2.2.2.1.length ∧ (u10_0 x 1).2.2.2.2.2.2.2.2.2.2.1.length = x.2.2.2.2.2.2.2.2.2.2.1.length ∧ (u10_0 x 1).2.2.2.2.2.2.2.2.2.2.2.1.length = x.2.2.2.2.2.2.2.2.2.2.2.1.length) := by
  obtain ⟨l0, l1, l2, l3, l4, l5, l6, l7⟩ := h
  unfold P10 g10_0
  obtain ⟨p0, u0, a0, b0⟩ := mk_Bend x.1 1 (by omega) (by omega) (by omega)
  obtain ⟨p1, u1, a1, b1⟩ := mk_Hour x.2.2.1 (g57_0 x.1 1) (by omega) (by omega) (by omega)
  obtain ⟨p2, u2, a2, b2⟩ := mk_Limit x.2.2.2.1 (g58_0 x.2.2.1 (g57_0 x.1 1)) (by omega) (by omega) (by omega)
  obtain ⟨p3, u3, a3, b3⟩ := mk_Worker x.2.2.2.2.2.2.1 (g59_0 x.2.2.2.1 (g58_0 x.2.2.1 (g57_0 x.1 1))) (by omega) (by omega) (by omega)
  obtain ⟨p4, u4, a4, b4⟩ := mk_Fare x.2.2.2.2.2.2.2.2.1 (g60_0 x.2.2.2.2.2.2.1 (g59_0 x.2.2.2.1 (g58_0 x.2.2.1 (g57_0 x.1 1)))) (by omega) (by omega) (by omega)
  obtain ⟨p5, u5, a5, b5⟩ := mk_Test x.2.2.2.2.2.2.2.2.2.1 (g61_0 x.2.2.2.2.2.2.2.2.1 (g60_0 x.2.2.2.2.2.2.1 (g59_0 x.2.2.2.1 (g58_0 x.2.2.1 (g57_0 x.1 1))))) (by omega) (by omega) (by omega)
  obtain ⟨p6, u6, a6, b6⟩ := mk_Helper x.2.2.2.2.2.2.2.2.2.2.1 (g62_0 x.2.2.2.2.2.2.2.2.2.1 (g61_0 x.2.2.2.2.2.2.2.2.1 (g60_0 x.2.2.2.2.2.2.1 (g59_0 x.2.2.2.1 (g58_0 x.2.2.1 (g57_0 x.1 1)))))) (by omega) (by omega) (by omega)
  obtain ⟨p7, u7, a7, b7⟩ := mk_Task x.2.2.2.2.2.2.2.2.2.2.2.1 (g63_0 x.2.2.2.2.2.2.2.2.2.2.1 (g62_0 x.2.2.2.2.2.2.2.2.2.1 (g61_0 x.2.2.2.2.2.2.2.2.1 (g60_0 x.2.2.2.2.2.2.1 (g59_0 x.2.2.2.1 (g58_0 x.2.2.1 (g57_0 x.1 1))))))) (by omega) (by omega) (by omega)
  exact ⟨⟨p0, u0, p1, u1, p2, u2, p3, u3, p4, u4, p5, u5, p6, u6, p7, u7, trivial⟩, by omega, u0, u1, u2, u3, u4, u5, u6, u7⟩
theorem marked_strs (xs : List ByteArray) (h : xs.length ≤ 1048576) : P11 xs 1 ∧ (u11_0 xs 1).length = xs.length ∧ ¬ g11_0 xs 1 < 0 := by
  have hl : (u11_0 xs 1).length = xs.length := by rw [u11_0, M11_len]
  refine ⟨⟨by omega, by omega⟩, hl, ?_⟩
  unfold g11_0
  omega
theorem held_strs (xs : List ByteArray) (h : xs.length ≤ 1048576) : P12 (u11_0 xs 1) 1 ∧ g12_0 (u11_0 xs 1) 1 = g11_0 xs 1 := by
  have hl : (u11_0 xs 1).length = xs.length := by rw [u11_0, M11_len]
  refine ⟨⟨⟨by omega, by rw [hl]; omega⟩, fun i hi => ?_⟩, ?_⟩
  · rw [hl] at hi
    rw [getD_lt _ _ _ (by rw [hl]; exact hi)]
    simp [u11_0, M11]
  · unfold g12_0 g11_0
    rw [hl]
theorem rep_eq (x : (TyA0)) : g7_0 x = g5_0 x ∧ g7_1 x = g5_1 x ∧ (g5_0 x).length ≤ 9 := by
  have e : ln7 = ln5 := rfl
  have e1 : W7 = W5 := rfl
  have e2 : N7 x = N5 x := rfl
  unfold g7_0 g7_1 g5_0 g5_1
  rw [valid_desk, e, e1, e2]
  refine ⟨rfl, rfl, ?_⟩
  split
  · rw [List.length_zipWith]
    exact Nat.le_refl _
  · exact Nat.zero_le _
theorem law3 (x : (TyA0)) (hx : Wf (.cons (.sl (.cons .str (.cons (.int .i64) (.cons (.int .i64) (.cons (.int .i64) .unit))))) (.cons (.cons (.int .i64) (.cons (.int .i64) (.cons (.int .i64) (.cons (.int .i64) .unit)))) (.cons (.sl (.cons (.int .i64) (.cons (.int .i64) (.cons (.int .i64) .unit)))) (.cons (.sl (.cons (.int .i64) (.cons (.int .i64) (.cons (.int .i64) .unit)))) (.cons (.cons (.int .i64) (.cons (.int .i64) (.cons (.int .i64) .unit))) (.cons (.cons (.int .i64) (.cons (.int .i64) (.cons (.int .i64) .unit))) (.cons (.sl (.cons .str (.cons (.int .i64) (.cons (.int .i64) .unit)))) (.cons (.cons (.int .i64) (.cons (.int .i64) (.cons (.int .i64) (.cons (.int .i64) .unit)))) (.cons (.sl (.cons .str (.cons (.int .i64) (.cons (.int .i64) (.cons (.int .i64) .unit))))) (.cons (.sl (.cons (.int .i64) (.cons (.int .i64) (.cons (.int .i64) .unit)))) (.cons (.sl (.cons .str (.cons (.int .i64) (.cons (.int .i64) .unit)))) (.cons (.sl (.cons .str (.cons (.int .i64) (.cons (.int .i64) .unit)))) .unit)))))))))))) x) : P3 x ∧ g3_0 x = true := by
  obtain ⟨p1, q1⟩ := sz_desk x 1048576 (by decide) (by decide) hx
  by_cases c1 : g4_0 x 1048576 < 0
  · unfold P3 g3_0
    simp only [c1, p1, decide_true, if_true, and_self]
  obtain ⟨r1, s1, t1⟩ := q1 c1
  obtain ⟨a1, e1⟩ := to_desk x (by omega)
  obtain ⟨m1, m2, m3⟩ := marked_desk x (by omega)
  have f1 := eq_desk x
  obtain ⟨k1, k2, k3⟩ := rep_eq x
  have p2 : P7 x := trivial
  have p3 : P5 x := trivial
  obtain ⟨c2, c3, c4⟩ := marked_strs (g5_0 x) (by omega)
  obtain ⟨d1, d2⟩ := held_strs (g5_0 x) (by omega)
  unfold P3 g3_0
  clear q1 hx r1 s1 t1
  simp only [e1, c1, p1, a1, f1, k1, k2, p2, p3, m1, m2, c2, c3, c4, d1, d2, g8_0, decide_true, decide_false, Bool.false_eq_true, if_false, true_and, and_true, Bool.not_true, bne_self_eq_false, beq_self_eq_true, and_self]
  exact m3
end Go.Proofs.YtiddfgaccfnofaaGreatDoor
