/- Several texts in one: the functions that this law reaches, and their laws. -/
import Derived.Test.YtiddfgaccfnofaaGreatDoorZ3A
import Derived.Test.YtiddfgaccfnofaaGreatDoorZ3B
import Derived.Test.YtiddfgaccfnofaaGreatDoorZ3C
import Derived.Test.YtiddfgaccfnofaaGreatDoorZ3D
import Derived.Lib.ItoaNum
set_option linter.unusedVariables false
set_option linter.unusedSimpArgs false
set_option maxRecDepth 100000
namespace Go.Proofs.YtiddfgaccfnofaaGreatDoor
open Go Go.Am Go.Proofs
noncomputable section
def ext21 : Ext := [(71, S71), (72, S72), (73, S73), (74, S74), (75, S75), (76, S76), (77, S77), (78, S78), (79, S79), (80, S80), (81, S81), (82, S82)]
theorem ext21Ok : ExtOk Tryz.prog ext21 := ⟨⟨ca71, con71⟩, ⟨ca72, con72⟩, ⟨ca73, con73⟩, ⟨ca74, con74⟩, ⟨ca75, con75⟩, ⟨ca76, con76⟩, ⟨ca77, con77⟩, ⟨ca78, con78⟩, ⟨ca79, con79⟩, ⟨ca80, con80⟩, ⟨ca81, con81⟩, ⟨ca82, con82⟩, trivial⟩
noncomputable def b21 : Code := bodyOf Tryz.f21
theorem hb21 : Tryz.f21.body = some b21 := by kernel_rfl
def sig21 : List AT := [AT.p YA0]
def tys21 : List Ty := [Ty.bool]
def kds21 : List RK := []
def oks21 : List AT := owns sig21
def P21 (x0 : TyA0) : Prop := True
def g21_0 (x0 : TyA0) : Bool := (if (g71_0 x0.1) = true then (if (g72_0 x0.2.1) = true then (if (g73_0 x0.2.2.1) = true then (if (g74_0 x0.2.2.2.1) = true then (if (g75_0 x0.2.2.2.2.1) = true then (if (g76_0 x0.2.2.2.2.2.1) = true then (if (g77_0 x0.2.2.2.2.2.2.1) = true then (if (g78_0 x0.2.2.2.2.2.2.2.1) = true then (if (g79_0 x0.2.2.2.2.2.2.2.2.1) = true then (if (g80_0 x0.2.2.2.2.2.2.2.2.2.1) = true then (if (g81_0 x0.2.2.2.2.2.2.2.2.2.2.1) = true then g82_0 x0.2.2.2.2.2.2.2.2.2.2.2.1 else false) else false) else false) else false) else false) else false) else false) else false) else false) else false) else false)
theorem at21 (x0 : TyA0) (h : P21 x0) (K : Ctx) (q : Nat → Value) : AtV Tryz.prog 21 (PostR kds21 oks21 [⟨Ty.bool, g21_0 x0⟩] [] [] q K) 81 K q [] [.code b21] (entE 0 0 sig21 (x0, ())) (entL sig21 (x0, ())) := by
  unfold P21 at h
  unfold g21_0
  by_cases b0 : (g71_0 x0.1) = true
  · try simp only [if_pos b0] at h ⊢
    by_cases b1 : (g72_0 x0.2.1) = true
    · try simp only [if_pos b1] at h ⊢
      by_cases b2 : (g73_0 x0.2.2.1) = true
      · try simp only [if_pos b2] at h ⊢
        by_cases b3 : (g74_0 x0.2.2.2.1) = true
        · try simp only [if_pos b3] at h ⊢
          by_cases b4 : (g75_0 x0.2.2.2.2.1) = true
          · try simp only [if_pos b4] at h ⊢
            by_cases b5 : (g76_0 x0.2.2.2.2.2.1) = true
            · try simp only [if_pos b5] at h ⊢
              by_cases b6 : (g77_0 x0.2.2.2.2.2.2.1) = true
              · try simp only [if_pos b6] at h ⊢
                by_cases b7 : (g78_0 x0.2.2.2.2.2.2.2.1) = true
                · try simp only [if_pos b7] at h ⊢
                  by_cases b8 : (g79_0 x0.2.2.2.2.2.2.2.2.1) = true
                  · try simp only [if_pos b8] at h ⊢
                    by_cases b9 : (g80_0 x0.2.2.2.2.2.2.2.2.2.1) = true
                    · try simp only [if_pos b9] at h ⊢
                      by_cases b10 : (g81_0 x0.2.2.2.2.2.2.2.2.2.2.1) = true
                      · try simp only [if_pos b10] at h ⊢
                        exact AtV.ret Tryz.func21 tabOk ext21Ok mixed false [] tys21 [true, true, true, true, true, true, true, true, true, true, true] (a1 trivial (a1 b0 (a1 trivial (a1 b1 (a1 trivial (a1 b2 (a1 trivial (a1 b3 (a1 trivial (a1 b4 (a1 trivial (a1 b5 (a1 trivial (a1 b6 (a1 trivial (a1 b7 (a1 trivial (a1 b8 (a1 trivial (a1 b9 (a1 trivial (a1 b10 (a1 trivial trivial))))))))))))))))))))))) (by kernel_rfl)
                      · try simp only [if_neg b10] at h ⊢
                        replace b10 := Bool.eq_false_iff.2 b10
                        exact AtV.ret Tryz.func21 tabOk ext21Ok mixed false [] tys21 [true, true, true, true, true, true, true, true, true, true, false] (a1 trivial (a1 b0 (a1 trivial (a1 b1 (a1 trivial (a1 b2 (a1 trivial (a1 b3 (a1 trivial (a1 b4 (a1 trivial (a1 b5 (a1 trivial (a1 b6 (a1 trivial (a1 b7 (a1 trivial (a1 b8 (a1 trivial (a1 b9 (a1 trivial (a1 b10 trivial)))))))))))))))))))))) (by kernel_rfl)
                    · try simp only [if_neg b9] at h ⊢
                      replace b9 := Bool.eq_false_iff.2 b9
                      exact AtV.ret Tryz.func21 tabOk ext21Ok mixed false [] tys21 [true, true, true, true, true, true, true, true, true, false, false] (a1 trivial (a1 b0 (a1 trivial (a1 b1 (a1 trivial (a1 b2 (a1 trivial (a1 b3 (a1 trivial (a1 b4 (a1 trivial (a1 b5 (a1 trivial (a1 b6 (a1 trivial (a1 b7 (a1 trivial (a1 b8 (a1 trivial (a1 b9 (a1 (rfl : false = false) trivial))))))))))))))))))))) (by kernel_rfl)
                  · try simp only [if_neg b8] at h ⊢
                    replace b8 := Bool.eq_false_iff.2 b8
                    exact AtV.ret Tryz.func21 tabOk ext21Ok mixed false [] tys21 [true, true, true, true, true, true, true, true, false, false, false] (a1 trivial (a1 b0 (a1 trivial (a1 b1 (a1 trivial (a1 b2 (a1 trivial (a1 b3 (a1 trivial (a1 b4 (a1 trivial (a1 b5 (a1 trivial (a1 b6 (a1 trivial (a1 b7 (a1 trivial (a1 b8 (a1 (rfl : false = false) (a1 (rfl : false = false) trivial)))))))))))))))))))) (by kernel_rfl)
                · try simp only [if_neg b7] at h ⊢
                  replace b7 := Bool.eq_false_iff.2 b7
                  exact AtV.ret Tryz.func21 tabOk ext21Ok mixed false [] tys21 [true, true, true, true, true, true, true, false, false, false, false] (a1 trivial (a1 b0 (a1 trivial (a1 b1 (a1 trivial (a1 b2 (a1 trivial (a1 b3 (a1 trivial (a1 b4 (a1 trivial (a1 b5 (a1 trivial (a1 b6 (a1 trivial (a1 b7 (a1 (rfl : false = false) (a1 (rfl : false = false) (a1 (rfl : false = false) trivial))))))))))))))))))) (by kernel_rfl)
              · try simp only [if_neg b6] at h ⊢
                replace b6 := Bool.eq_false_iff.2 b6
                exact AtV.ret Tryz.func21 tabOk ext21Ok mixed false [] tys21 [true, true, true, true, true, true, false, false, false, false, false] (a1 trivial (a1 b0 (a1 trivial (a1 b1 (a1 trivial (a1 b2 (a1 trivial (a1 b3 (a1 trivial (a1 b4 (a1 trivial (a1 b5 (a1 trivial (a1 b6 (a1 (rfl : false = false) (a1 (rfl : false = false) (a1 (rfl : false = false) (a1 (rfl : false = false) trivial)))))))))))))))))) (by kernel_rfl)
            · try simp only [if_neg b5] at h ⊢
              replace b5 := Bool.eq_false_iff.2 b5
              exact AtV.ret Tryz.func21 tabOk ext21Ok mixed false [] tys21 [true, true, true, true, true, false, false, false, false, false, false] (a1 trivial (a1 b0 (a1 trivial (a1 b1 (a1 trivial (a1 b2 (a1 trivial (a1 b3 (a1 trivial (a1 b4 (a1 trivial (a1 b5 (a1 (rfl : false = false) (a1 (rfl : false = false) (a1 (rfl : false = false) (a1 (rfl : false = false) (a1 (rfl : false = false) trivial))))))))))))))))) (by kernel_rfl)
          · try simp only [if_neg b4] at h ⊢
            replace b4 := Bool.eq_false_iff.2 b4
            exact AtV.ret Tryz.func21 tabOk ext21Ok mixed false [] tys21 [true, true, true, true, false, false, false, false, false, false, false] (a1 trivial (a1 b0 (a1 trivial (a1 b1 (a1 trivial (a1 b2 (a1 trivial (a1 b3 (a1 trivial (a1 b4 (a1 (rfl : false = false) (a1 (rfl : false = false) (a1 (rfl : false = false) (a1 (rfl : false = false) (a1 (rfl : false = false) (a1 (rfl : false = false) trivial)))))))))))))))) (by kernel_rfl)
        · try simp only [if_neg b3] at h ⊢
          replace b3 := Bool.eq_false_iff.2 b3
          exact AtV.ret Tryz.func21 tabOk ext21Ok mixed false [] tys21 [true, true, true, false, false, false, false, false, false, false, false] (a1 trivial (a1 b0 (a1 trivial (a1 b1 (a1 trivial (a1 b2 (a1 trivial (a1 b3 (a1 (rfl : false = false) (a1 (rfl : false = false) (a1 (rfl : false = false) (a1 (rfl : false = false) (a1 (rfl : false = false) (a1 (rfl : false = false) (a1 (rfl : false = false) trivial))))))))))))))) (by kernel_rfl)
      · try simp only [if_neg b2] at h ⊢
        replace b2 := Bool.eq_false_iff.2 b2
        exact AtV.ret Tryz.func21 tabOk ext21Ok mixed false [] tys21 [true, true, false, false, false, false, false, false, false, false, false] (a1 trivial (a1 b0 (a1 trivial (a1 b1 (a1 trivial (a1 b2 (a1 (rfl : false = false) (a1 (rfl : false = false) (a1 (rfl : false = false) (a1 (rfl : false = false) (a1 (rfl : false = false) (a1 (rfl : false = false) (a1 (rfl : false = false) (a1 (rfl : false = false) trivial)))))))))))))) (by kernel_rfl)
    · try simp only [if_neg b1] at h ⊢
      replace b1 := Bool.eq_false_iff.2 b1
      exact AtV.ret Tryz.func21 tabOk ext21Ok mixed false [] tys21 [true, false, false, false, false, false, false, false, false, false, false] (a1 trivial (a1 b0 (a1 trivial (a1 b1 (a1 (rfl : false = false) (a1 (rfl : false = false) (a1 (rfl : false = false) (a1 (rfl : false = false) (a1 (rfl : false = false) (a1 (rfl : false = false) (a1 (rfl : false = false) (a1 (rfl : false = false) (a1 (rfl : false = false) trivial))))))))))))) (by kernel_rfl)
  · try simp only [if_neg b0] at h ⊢
    replace b0 := Bool.eq_false_iff.2 b0
    exact AtV.ret Tryz.func21 tabOk ext21Ok mixed false [] tys21 [false, false, false, false, false, false, false, false, false, false, false] (a1 trivial (a1 b0 (a1 (rfl : false = false) (a1 (rfl : false = false) (a1 (rfl : false = false) (a1 (rfl : false = false) (a1 (rfl : false = false) (a1 (rfl : false = false) (a1 (rfl : false = false) (a1 (rfl : false = false) (a1 (rfl : false = false) (a1 (rfl : false = false) trivial)))))))))))) (by kernel_rfl)
def S21 : Am.Spec := { sig := sig21, pre := fun ⟨x0, _⟩ => P21 x0, res := fun ⟨x0, _⟩ => [⟨Ty.bool, g21_0 x0⟩], kds := kds21 }
theorem con21 : Contract Tryz.prog 21 S21 := contract_of Tryz.func21 hb21 (Nat.le_of_ble_eq_true (by kernel_rfl)) (fun ⟨x0, _⟩ h _ K q => at21 x0 h K q)
end
noncomputable section
def ext22 : Ext := []
theorem ext22Ok : ExtOk Tryz.prog ext22 := trivial
noncomputable def b22 : Code := bodyOf Tryz.f22
theorem hb22 : Tryz.f22.body = some b22 := by kernel_rfl
def sig22 : List AT := [AT.v (Ty.int .i64)]
def tys22 : List Ty := [Ty.str]
def kds22 : List RK := []
def oks22 : List AT := owns sig22
def E22_5 (v4 : Int) (h0 : List Int) (x0 : Int) : Env := [(0, PV.a (Atom.val (Value.int .i64 x0))), (3, PV.a (Atom.osl 0 Option.none)), (4, PV.a (Atom.val (Value.int .i64 v4)))]
def L22_5 (v4 : Int) (h0 : List Int) (x0 : Int) : Heap := [Option.some (Arr.mk (Ty.int .u8) h0 false Option.none Option.none)]
def E22_15 (v7 : Int) (h0 : List Int) (h1 : List Int) : Env := [(3, PV.a (Atom.osl 0 Option.none)), (6, PV.a (Atom.osl 1 Option.none)), (7, PV.a (Atom.val (Value.int .i64 v7)))]
def L22_15 (v7 : Int) (h0 : List Int) (h1 : List Int) : Heap := [Option.some (Arr.mk (Ty.int .u8) h0 false Option.none Option.none), Option.some (Arr.mk (Ty.int .u8) h1 false Option.none Option.none)]
mutual
def R22 : Nat → Int → List Dyn → Prop
  | 0, _, _ => False
  | n + 1, x0, ds => (if (x0 == 0) = true then (ds = [Dyn.mk Ty.str (ByteArray.mk #[48])]) else (R22_5 n (x0) ([]) (x0) ds))
def R22_5 : Nat → Int → List Int → Int → List Dyn → Prop
  | 0, _, _, _, _ => False
  | n + 1, v4, h0, x0, ds => (if (v4 != 0) = true then ((InR .i64 (Int.tmod v4 10)) ∧ (if (decide (Int.tmod v4 10 < 0)) = true then ((InR .i64 (0 - Int.tmod v4 10)) ∧ ((InR .i64 (48 + (0 - Int.tmod v4 10))) ∧ ((InR .u8 (48 + (0 - Int.tmod v4 10))) ∧ (((List.length h0 + 1) * 1 ≤ 140737488355328) ∧ ((InR .i64 (Int.tdiv v4 10)) ∧ (R22_5 n (Int.tdiv v4 10) (h0 ++ [48 + (0 - Int.tmod v4 10)]) (x0) ds)))))) else ((InR .i64 (48 + Int.tmod v4 10)) ∧ ((InR .u8 (48 + Int.tmod v4 10)) ∧ (((List.length h0 + 1) * 1 ≤ 140737488355328) ∧ ((InR .i64 (Int.tdiv v4 10)) ∧ (R22_5 n (Int.tdiv v4 10) (h0 ++ [48 + Int.tmod v4 10]) (x0) ds))))))) else (if (decide (x0 < 0)) = true then (((List.length h0 + 1) * 1 ≤ 140737488355328) ∧ ((InR .i64 ((↑(List.length (h0 ++ [45])) : Int) - 1)) ∧ (R22_15 n ((↑(List.length (h0 ++ [45])) : Int) - 1) (h0 ++ [45]) ([]) ds))) else ((InR .i64 ((↑(List.length h0) : Int) - 1)) ∧ (R22_15 n ((↑(List.length h0) : Int) - 1) (h0) ([]) ds))))
def R22_15 : Nat → Int → List Int → List Int → List Dyn → Prop
  | 0, _, _, _, _ => False
  | n + 1, v7, h0, h1, ds => (if (decide (v7 ≥ 0)) = true then ((0 ≤ v7) ∧ (v7 < (↑(List.length h0) : Int)) ∧ (((List.length h1 + 1) * 1 ≤ 140737488355328) ∧ ((InR .i64 (v7 - 1)) ∧ (R22_15 n (v7 - 1) (h0) (h1 ++ [List.getD h0 (Int.toNat v7) 0]) ds)))) else (ds = [Dyn.mk Ty.str (bytesStr h1)]))
end
theorem snd22 : ∀ n, (∀ (x0 : Int) ds, R22 n x0 ds → ∀ K q, AtV Tryz.prog 22 (PostR kds22 oks22 ds [] [] q K) 50 K q [] [.code b22] (entE 0 0 sig22 (x0, ())) (entL sig22 (x0, ()))) ∧ (∀ (v4 : Int) (h0 : List Int) (x0 : Int) ds, R22_5 n v4 h0 x0 ds → ∀ K q, AtV Tryz.prog 22 (PostR kds22 oks22 ds [] [] q K) 50 K q [] (cutAt b22 5) (E22_5 v4 h0 x0) (L22_5 v4 h0 x0)) ∧ (∀ (v7 : Int) (h0 : List Int) (h1 : List Int) ds, R22_15 n v7 h0 h1 ds → ∀ K q, AtV Tryz.prog 22 (PostR kds22 oks22 ds [] [] q K) 50 K q [] (cutAt b22 15) (E22_15 v7 h0 h1) (L22_15 v7 h0 h1)) := by
  intro n
  induction n with
  | zero => exact ⟨fun _ _ h => by simp only [R22] at h, fun _ _ _ _ h => by simp only [R22_5] at h, fun _ _ _ _ h => by simp only [R22_15] at h⟩
  | succ n ih =>
  obtain ⟨ih, ih5, ih15⟩ := ih
  refine ⟨?_, ?_, ?_⟩
  · intro x0 ds h K q
    rw [R22] at h
    by_cases b0 : (x0 == 0) = true
    · rw [if_pos b0] at h
      subst h
      exact AtV.ret Tryz.func22 tabOk ext22Ok mixed false [] tys22 [true] (a1 b0 trivial) (by kernel_rfl)
    · rw [if_neg b0] at h
      replace b0 := Bool.eq_false_iff.2 b0
      exact AtV.go tabOk ext22Ok mixed false [] [] [0, 3, 4] [0] [false] (a1 b0 trivial) (ih5 _ _ _ _ h K q) (by kernel_rfl)
  · intro v4 h0 x0 ds h K q
    rw [R22_5] at h
    by_cases b0 : (v4 != 0) = true
    · rw [if_pos b0] at h
      obtain ⟨s0, h⟩ := h
      by_cases b1 : (decide (Int.tmod v4 10 < 0)) = true
      · rw [if_pos b1] at h
        obtain ⟨s1, h⟩ := h
        obtain ⟨s2, h⟩ := h
        obtain ⟨s3, h⟩ := h
        obtain ⟨s4, h⟩ := h
        obtain ⟨s5, h⟩ := h
        exact AtV.go tabOk ext22Ok mixed false [] [] [0, 3, 4] [0] [true, true] (a1 b0 (a1 ((by decide) : (10 : Int) ≠ (0 : Int)) (a1 s0 (a1 b1 (a1 s1 (a1 s2 (a1 s3 (a1 s4 (a1 ((by decide) : (10 : Int) ≠ (0 : Int)) (a1 s5 trivial)))))))))) (ih5 _ _ _ _ h K q) (by kernel_rfl)
      · rw [if_neg b1] at h
        replace b1 := Bool.eq_false_iff.2 b1
        obtain ⟨s1, h⟩ := h
        obtain ⟨s2, h⟩ := h
        obtain ⟨s3, h⟩ := h
        obtain ⟨s4, h⟩ := h
        exact AtV.go tabOk ext22Ok mixed false [] [] [0, 3, 4] [0] [true, false] (a1 b0 (a1 ((by decide) : (10 : Int) ≠ (0 : Int)) (a1 s0 (a1 b1 (a1 s1 (a1 s2 (a1 s3 (a1 ((by decide) : (10 : Int) ≠ (0 : Int)) (a1 s4 trivial))))))))) (ih5 _ _ _ _ h K q) (by kernel_rfl)
    · rw [if_neg b0] at h
      replace b0 := Bool.eq_false_iff.2 b0
      by_cases b1 : (decide (x0 < 0)) = true
      · rw [if_pos b1] at h
        obtain ⟨s0, h⟩ := h
        obtain ⟨s1, h⟩ := h
        exact AtV.go tabOk ext22Ok mixed false [] [] [3, 6, 7] [0, 2] [false, true] (a1 b0 (a1 b1 (a1 s0 (a1 s1 trivial)))) (ih15 _ _ _ _ h K q) (by kernel_rfl)
      · rw [if_neg b1] at h
        replace b1 := Bool.eq_false_iff.2 b1
        obtain ⟨s0, h⟩ := h
        exact AtV.go tabOk ext22Ok mixed false [] [] [3, 6, 7] [0, 1] [false, false] (a1 b0 (a1 b1 (a1 s0 trivial))) (ih15 _ _ _ _ h K q) (by kernel_rfl)
  · intro v7 h0 h1 ds h K q
    rw [R22_15] at h
    by_cases b0 : (decide (v7 ≥ 0)) = true
    · rw [if_pos b0] at h
      obtain ⟨s0, s1, h⟩ := h
      obtain ⟨s2, h⟩ := h
      obtain ⟨s3, h⟩ := h
      exact AtV.go tabOk ext22Ok mixed false [] [] [3, 6, 7] [0, 1] [true] (a1 b0 (a1 s0 (a1 s1 (a1 s2 (a1 s3 trivial))))) (ih15 _ _ _ _ h K q) (by kernel_rfl)
    · rw [if_neg b0] at h
      replace b0 := Bool.eq_false_iff.2 b0
      subst h
      exact AtV.ret Tryz.func22 tabOk ext22Ok mixed false [] tys22 [false] (a1 b0 trivial) (by kernel_rfl)
def g22_0 (x0 : Int) : ByteArray := numB x0
def P22 (x0 : Int) : Prop := True
theorem bstr22 (xs : List Int) : bytesStr xs = ⟨⟨xs.map fun n => UInt8.ofNat n.toNat⟩⟩ := by
  have key : ∀ (xs : List Int) (s : ByteArray), (xs.foldl (fun r n => r.push (UInt8.ofNat n.toNat)) s).data.toList = s.data.toList ++ xs.map fun n => UInt8.ofNat n.toNat := by
    intro xs
    induction xs with
    | nil => intro s; simp
    | cons a r ih =>
      intro s
      rw [List.foldl_cons, ih]
      show (s.data.push _).toList ++ _ = _
      rw [Array.toList_push]
      simp
  apply ByteArray.ext
  apply Array.ext'
  have := key xs ByteArray.empty
  unfold bytesStr
  rw [this]
  rfl
theorem bstrB22 (l : List UInt8) : bytesStr (l.map fun b => (b.toNat : Int)) = ⟨⟨l⟩⟩ := by
  rw [bstr22, List.map_map]
  congr 2
  conv => rhs; rw [← List.map_id l]
  refine List.map_congr_left fun b _ => ?_
  show UInt8.ofNat ((b.toNat : Int)).toNat = b
  rw [Int.toNat_natCast, UInt8.ofNat_toNat]
def rd22 (m : Nat) : List Int := if h : m = 0 then [] else ((48 + m % 10 : Nat) : Int) :: rd22 (m / 10)
termination_by m
decreasing_by omega
theorem rd022 : rd22 0 = [] := by rw [rd22, dif_pos rfl]
theorem rds22 {m : Nat} (h : m ≠ 0) : rd22 m = ((48 + m % 10 : Nat) : Int) :: rd22 (m / 10) := by rw [rd22, dif_neg h]
theorem rdl22 : ∀ (k m : Nat), m < 10 ^ k → (rd22 m).length ≤ k
  | 0, m, h => by obtain rfl : m = 0 := by simpa using h
                  rw [rd022]; exact Nat.le_refl _
  | k + 1, m, h => by
    by_cases h0 : m = 0
    · rw [h0, rd022]; exact Nat.zero_le _
    · rw [rds22 h0, List.length_cons]
      have := rdl22 k (m / 10) (by rw [Nat.pow_succ] at h; omega)
      omega
theorem rdd22 (m : Nat) (h : m ≠ 0) : bytesStr (rd22 m).reverse = ⟨⟨Lib.decDigits m⟩⟩ := by
  have key : ∀ m : Nat, m ≠ 0 → (rd22 m).reverse = (Lib.decDigits m).map fun b => (b.toNat : Int) := by
    intro m
    induction m using Nat.strongRecOn with
    | _ m ih =>
      intro h
      rw [rds22 h, List.reverse_cons, Lib.decDigits]
      have e : (UInt8.ofNat (48 + m % 10)).toNat = 48 + m % 10 := by rw [UInt8.toNat_ofNat']; omega
      split
      · rename_i hs
        rw [show m / 10 = 0 by omega, rd022]
        have e' : (UInt8.ofNat (48 + m)).toNat = 48 + m % 10 := by rw [UInt8.toNat_ofNat']; omega
        rw [List.map_singleton, e']
        rfl
      · rw [ih (m / 10) (by omega) (by omega), List.map_append, List.map_singleton, e]
  rw [key m h]
  exact bstrB22 _
theorem back22 (h0 : List Int) : ∀ (j : Nat) (h1 : List Int), j ≤ h0.length → h1.length + j ≤ 64 → R22_15 (j + 1) ((j : Int) - 1) h0 h1 [⟨.str, bytesStr (h1 ++ (h0.take j).reverse)⟩]
  | 0, h1, _, _ => by
    rw [R22_15, if_neg (by decide)]
    simp
  | j + 1, h1, hj, hl => by
    have ih := back22 h0 j (h1 ++ [h0.getD j 0]) (by omega) (by rw [List.length_append, List.length_singleton]; omega)
    have e : ((j + 1 : Nat) : Int) - 1 = (j : Int) := by omega
    rw [R22_15, e, if_pos (by simp only [decide_eq_true_eq]; omega), Int.toNat_natCast]
    refine ⟨by omega, by omega, by omega, by rw [i64_iff]; omega, ?_⟩
    have et : (h0.take (j + 1)).reverse = h0.getD j 0 :: (h0.take j).reverse := by
      have hlt : j < h0.length := by omega
      rw [List.take_add_one, List.getElem?_eq_getElem hlt, List.reverse_append, List.getD_eq_getElem?_getD, List.getElem?_eq_getElem hlt]
      rfl
    rw [et]
    rw [List.append_assoc] at ih
    exact ih
theorem last22 (x0 : Int) (h0 : List Int) (hl : h0.length ≤ 20) : R22_5 ((if x0 < 0 then h0.length + 1 else h0.length) + 1 + 1) 0 h0 x0 [⟨.str, bytesStr ((if x0 < 0 then h0 ++ [45] else h0)).reverse⟩] := by
  rw [R22_5, if_neg (by decide)]
  by_cases hx : x0 < 0
  · have b := back22 (h0 ++ [45]) (h0.length + 1) [] (by rw [List.length_append, List.length_singleton]; omega) (by simp; omega)
    have e : (h0 ++ [(45 : Int)]).length = h0.length + 1 := by rw [List.length_append, List.length_singleton]
    rw [List.take_of_length_le (by omega)] at b
    simp only [hx, decide_true, if_true]
    rw [e]
    exact ⟨by omega, by rw [i64_iff]; omega, b⟩
  · have b := back22 h0 h0.length [] (Nat.le_refl _) (by simp; omega)
    rw [List.take_of_length_le (Nat.le_refl _)] at b
    simp only [hx, decide_false, Bool.false_eq_true, if_false]
    exact ⟨by rw [i64_iff]; omega, b⟩
theorem run22 (x0 : Int) (ds : List Dyn) (F : List Int) (K : Nat) (hF : R22_5 K 0 F x0 ds) : ∀ (m : Nat) (v : Int) (h0 : List Int), (v = (m : Int) ∨ v = -(m : Int)) → m ≤ 9223372036854775808 → InR .i64 v → h0.length + (rd22 m).length ≤ 20 → h0 ++ rd22 m = F → R22_5 ((rd22 m).length + K) v h0 x0 ds := by
  intro m
  induction m using Nat.strongRecOn with
  | _ m ih =>
    intro v h0 hv hm hi hl he
    by_cases h : m = 0
    · subst h
      obtain rfl : v = 0 := by omega
      rw [rd022] at he ⊢
      rw [List.append_nil] at he
      rw [he, List.length_nil, Nat.zero_add]
      exact hF
    · have hr := rds22 h
      rw [hr] at he hl ⊢
      rw [List.length_cons] at hl ⊢
      have hne : (v != 0) = true := by
        have : v ≠ 0 := by omega
        simpa using this
      rw [i64_iff] at hi
      have e1 : (rd22 (m / 10)).length + 1 + K = ((rd22 (m / 10)).length + K) + 1 := by omega
      have next : ∀ v', (v' = ((m / 10 : Nat) : Int) ∨ v' = -((m / 10 : Nat) : Int)) → R22_5 ((rd22 (m / 10)).length + K) v' (h0 ++ [((48 + m % 10 : Nat) : Int)]) x0 ds := fun v' hv' =>
        ih (m / 10) (by omega) v' _ hv' (by omega) (by rw [i64_iff]; omega) (by rw [List.length_append, List.length_singleton]; omega) (by rw [List.append_assoc]; exact he)
      rw [e1, R22_5, if_pos hne]
      rcases hv with rfl | rfl
      · have t1 : Int.tmod (m : Int) 10 = ((m % 10 : Nat) : Int) := rfl
        have t2 : Int.tdiv (m : Int) 10 = ((m / 10 : Nat) : Int) := rfl
        rw [t1, t2]
        refine ⟨by rw [i64_iff]; omega, ?_⟩
        rw [if_neg (by simp only [decide_eq_true_eq]; omega)]
        have e2 : 48 + ((m % 10 : Nat) : Int) = ((48 + m % 10 : Nat) : Int) := by omega
        rw [e2]
        exact ⟨by rw [i64_iff]; omega, by rw [u8_iff]; omega, by omega, by rw [i64_iff]; omega, next _ (.inl rfl)⟩
      · have t1 : Int.tmod (-(m : Int)) 10 = -((m % 10 : Nat) : Int) := by rw [Int.neg_tmod]; rfl
        have t2 : Int.tdiv (-(m : Int)) 10 = -((m / 10 : Nat) : Int) := by rw [Int.neg_tdiv]; rfl
        rw [t1, t2]
        refine ⟨by rw [i64_iff]; omega, ?_⟩
        by_cases hz : m % 10 = 0
        · rw [if_neg (by simp only [decide_eq_true_eq]; omega)]
          have e2 : 48 + -((m % 10 : Nat) : Int) = ((48 + m % 10 : Nat) : Int) := by omega
          rw [e2]
          exact ⟨by rw [i64_iff]; omega, by rw [u8_iff]; omega, by omega, by rw [i64_iff]; omega, next _ (.inr rfl)⟩
        · rw [if_pos (by simp only [decide_eq_true_eq]; omega)]
          have e2 : 48 + (0 - -((m % 10 : Nat) : Int)) = ((48 + m % 10 : Nat) : Int) := by omega
          rw [e2]
          exact ⟨by rw [i64_iff]; omega, by rw [i64_iff]; omega, by rw [u8_iff]; omega, by omega, by rw [i64_iff]; omega, next _ (.inr rfl)⟩
theorem top22 (x0 : Int) (hi : InR .i64 x0) : ∃ n, R22 n x0 [⟨.str, g22_0 x0⟩] := by
  unfold g22_0 numB Lib.itoa
  by_cases h : x0 = 0
  · subst h
    refine ⟨1, ?_⟩
    rw [R22, if_pos (by rfl), if_neg (by decide)]
    have e : Lib.decDigits (Int.toNat 0) = [48] := by rw [Lib.decDigits, dif_pos (by decide)]; rfl
    rw [e]
  · have hi' := hi
    rw [i64_iff] at hi'
    have hn : x0.natAbs ≠ 0 := by omega
    have hl := rdl22 19 x0.natAbs (by omega)
    refine ⟨(rd22 x0.natAbs).length + ((if x0 < 0 then (rd22 x0.natAbs).length + 1 else (rd22 x0.natAbs).length) + 1 + 1) + 1, ?_⟩
    rw [R22, if_neg (by simpa using h)]
    have hlast := last22 x0 (rd22 x0.natAbs) (by omega)
    have hrun := run22 x0 _ (rd22 x0.natAbs) _ hlast x0.natAbs x0 [] (by omega) (by omega) hi (by simp; omega) rfl
    have e : bytesStr (if x0 < 0 then rd22 x0.natAbs ++ [45] else rd22 x0.natAbs).reverse = ⟨(if x0 < 0 then 45 :: Lib.decDigits x0.natAbs else Lib.decDigits x0.toNat).toArray⟩ := by
      by_cases hx : x0 < 0
      · rw [if_pos hx, if_pos hx, List.reverse_append]
        show bytesStr ((45 : Int) :: (rd22 x0.natAbs).reverse) = _
        have := rdd22 x0.natAbs hn
        have e0 : bytesStr ((45 : Int) :: (rd22 x0.natAbs).reverse) = ⟨⟨45 :: (bytesStr (rd22 x0.natAbs).reverse).data.toList⟩⟩ := by rw [bstr22, bstr22]; rfl
        rw [e0, this]
      · rw [if_neg hx, if_neg hx, rdd22 x0.natAbs hn, show x0.natAbs = x0.toNat by omega]
    rw [e] at hrun
    exact hrun
def S22 : Am.Spec := { sig := sig22, pre := fun ⟨x0, _⟩ => P22 x0, res := fun ⟨x0, _⟩ => [⟨.str, g22_0 x0⟩] }
theorem con22 : Contract Tryz.prog 22 S22 := contract_of Tryz.func22 hb22 (Nat.le_of_ble_eq_true (by kernel_rfl)) (fun ⟨x0, _⟩ h hwf K q => by
  obtain ⟨n, hn⟩ := top22 x0 hwf.1
  exact (snd22 n).1 x0 _ hn K q)
end
noncomputable section
def ext5 : Ext := [(21, S21), (22, S22)]
theorem ext5Ok : ExtOk Tryz.prog ext5 := ⟨⟨ca21, con21⟩, ⟨ca22, con22⟩, trivial⟩
noncomputable def b5 : Code := bodyOf Tryz.f5
theorem hb5 : Tryz.f5.body = some b5 := by kernel_rfl
def sig5 : List AT := [AT.v YA0]
def tys5 : List Ty := [Ty.sl Ty.str, Ty.int .i64]
def kds5 : List RK := []
def oks5 : List AT := owns sig5
def E5_7 (v7 : Int) (h2 : List ByteArray) (x0 : TyA0) : Env := [(4, PV.a (Atom.osl 0 Option.none)), (5, PV.a (Atom.osl 1 Option.none)), (6, PV.a (Atom.osl 2 Option.none)), (7, PV.a (Atom.val (Value.int .i64 v7)))]
def L5_7 (v7 : Int) (h2 : List ByteArray) (x0 : TyA0) : Heap := [Option.some (Arr.mk Ty.str [ByteArray.mk #[98, 101, 110, 100, 115], ByteArray.mk #[104, 111, 117, 114, 115], ByteArray.mk #[108, 105, 109, 105, 116, 115], ByteArray.mk #[119, 111, 114, 107, 101, 114, 115], ByteArray.mk #[108, 105, 116, 114, 101, 115], ByteArray.mk #[102, 97, 114, 101, 115], ByteArray.mk #[116, 101, 115, 116, 115], ByteArray.mk #[104, 101, 108, 112, 101, 114, 115], ByteArray.mk #[116, 97, 115, 107, 115]] false Option.none Option.none), Option.some (Arr.mk (Ty.int .i64) [(↑(List.length x0.1) : Int), (↑(List.length x0.2.2.1) : Int), (↑(List.length x0.2.2.2.1) : Int), (↑(List.length x0.2.2.2.2.2.2.1) : Int), x0.2.2.2.2.2.2.2.1.2.2.1, (↑(List.length x0.2.2.2.2.2.2.2.2.1) : Int), (↑(List.length x0.2.2.2.2.2.2.2.2.2.1) : Int), (↑(List.length x0.2.2.2.2.2.2.2.2.2.2.1) : Int), (↑(List.length x0.2.2.2.2.2.2.2.2.2.2.2.1) : Int)] false Option.none Option.none), Option.some (Arr.mk Ty.str h2 false Option.none Option.none)]
mutual
def R5 : Nat → TyA0 → List Dyn → Prop
  | 0, _, _ => False
  | n + 1, x0, ds => (if (!g21_0 x0) = true then (ds = [Dyn.mk (Ty.sl Ty.str) [], Dyn.mk (Ty.int .i64) 1]) else (R5_7 n (0) ([]) (x0) ds))
def R5_7 : Nat → Int → List ByteArray → TyA0 → List Dyn → Prop
  | 0, _, _, _, _ => False
  | n + 1, v7, h2, x0, ds => (if (decide (v7 < 9)) = true then ((0 ≤ v7) ∧ (v7 < 9) ∧ ((ByteArray.size (List.getD [ByteArray.mk #[98, 101, 110, 100, 115], ByteArray.mk #[104, 111, 117, 114, 115], ByteArray.mk #[108, 105, 109, 105, 116, 115], ByteArray.mk #[119, 111, 114, 107, 101, 114, 115], ByteArray.mk #[108, 105, 116, 114, 101, 115], ByteArray.mk #[102, 97, 114, 101, 115], ByteArray.mk #[116, 101, 115, 116, 115], ByteArray.mk #[104, 101, 108, 112, 101, 114, 115], ByteArray.mk #[116, 97, 115, 107, 115]] (Int.toNat v7) ByteArray.empty) + 1 ≤ 9223372036854775807) ∧ ((0 ≤ v7) ∧ (v7 < (↑9 : Int)) ∧ ((ByteArray.size (List.getD [ByteArray.mk #[98, 101, 110, 100, 115], ByteArray.mk #[104, 111, 117, 114, 115], ByteArray.mk #[108, 105, 109, 105, 116, 115], ByteArray.mk #[119, 111, 114, 107, 101, 114, 115], ByteArray.mk #[108, 105, 116, 114, 101, 115], ByteArray.mk #[102, 97, 114, 101, 115], ByteArray.mk #[116, 101, 115, 116, 115], ByteArray.mk #[104, 101, 108, 112, 101, 114, 115], ByteArray.mk #[116, 97, 115, 107, 115]] (Int.toNat v7) ByteArray.empty ++ ByteArray.mk #[32]) + ByteArray.size (g22_0 (List.getD [(↑(List.length x0.1) : Int), (↑(List.length x0.2.2.1) : Int), (↑(List.length x0.2.2.2.1) : Int), (↑(List.length x0.2.2.2.2.2.2.1) : Int), x0.2.2.2.2.2.2.2.1.2.2.1, (↑(List.length x0.2.2.2.2.2.2.2.2.1) : Int), (↑(List.length x0.2.2.2.2.2.2.2.2.2.1) : Int), (↑(List.length x0.2.2.2.2.2.2.2.2.2.2.1) : Int), (↑(List.length x0.2.2.2.2.2.2.2.2.2.2.2.1) : Int)] (Int.toNat v7) 0)) ≤ 9223372036854775807) ∧ (((List.length h2 + 1) * 16 ≤ 140737488355328) ∧ ((InR .i64 (v7 + 1)) ∧ (R5_7 n (v7 + 1) (h2 ++ [List.getD [ByteArray.mk #[98, 101, 110, 100, 115], ByteArray.mk #[104, 111, 117, 114, 115], ByteArray.mk #[108, 105, 109, 105, 116, 115], ByteArray.mk #[119, 111, 114, 107, 101, 114, 115], ByteArray.mk #[108, 105, 116, 114, 101, 115], ByteArray.mk #[102, 97, 114, 101, 115], ByteArray.mk #[116, 101, 115, 116, 115], ByteArray.mk #[104, 101, 108, 112, 101, 114, 115], ByteArray.mk #[116, 97, 115, 107, 115]] (Int.toNat v7) ByteArray.empty ++ ByteArray.mk #[32] ++ g22_0 (List.getD [(↑(List.length x0.1) : Int), (↑(List.length x0.2.2.1) : Int), (↑(List.length x0.2.2.2.1) : Int), (↑(List.length x0.2.2.2.2.2.2.1) : Int), x0.2.2.2.2.2.2.2.1.2.2.1, (↑(List.length x0.2.2.2.2.2.2.2.2.1) : Int), (↑(List.length x0.2.2.2.2.2.2.2.2.2.1) : Int), (↑(List.length x0.2.2.2.2.2.2.2.2.2.2.1) : Int), (↑(List.length x0.2.2.2.2.2.2.2.2.2.2.2.1) : Int)] (Int.toNat v7) 0)]) (x0) ds))))))) else (ds = [Dyn.mk (Ty.sl Ty.str) h2, Dyn.mk (Ty.int .i64) 0]))
end
theorem snd5 : ∀ n, (∀ (x0 : TyA0) ds, R5 n x0 ds → ∀ K q, AtV Tryz.prog 5 (PostR kds5 oks5 ds [] [] q K) 61 K q [] [.code b5] (entE 0 0 sig5 (x0, ())) (entL sig5 (x0, ()))) ∧ (∀ (v7 : Int) (h2 : List ByteArray) (x0 : TyA0) ds, R5_7 n v7 h2 x0 ds → ∀ K q, AtV Tryz.prog 5 (PostR kds5 oks5 ds [] [] q K) 61 K q [] (cutAt b5 7) (E5_7 v7 h2 x0) (L5_7 v7 h2 x0)) := by
  intro n
  induction n with
  | zero => exact ⟨fun _ _ h => by simp only [R5] at h, fun _ _ _ _ h => by simp only [R5_7] at h⟩
  | succ n ih =>
  obtain ⟨ih, ih7⟩ := ih
  refine ⟨?_, ?_⟩
  · intro x0 ds h K q
    rw [R5] at h
    by_cases b0 : (!g21_0 x0) = true
    · rw [if_pos b0] at h
      subst h
      exact AtV.ret Tryz.func5 tabOk ext5Ok mixed false [] tys5 [true] (a1 trivial (a1 b0 trivial)) (by kernel_rfl)
    · rw [if_neg b0] at h
      replace b0 := Bool.eq_false_iff.2 b0
      exact AtV.go tabOk ext5Ok mixed false [] [] [4, 5, 6, 7] [1, 2, 3] [false] (a1 trivial (a1 b0 trivial)) (ih7 _ _ _ _ h K q) (by kernel_rfl)
  · intro v7 h2 x0 ds h K q
    rw [R5_7] at h
    by_cases b0 : (decide (v7 < 9)) = true
    · rw [if_pos b0] at h
      obtain ⟨s0, s1, h⟩ := h
      obtain ⟨s2, h⟩ := h
      obtain ⟨s3, s4, h⟩ := h
      obtain ⟨s5, h⟩ := h
      obtain ⟨s6, h⟩ := h
      obtain ⟨s7, h⟩ := h
      exact AtV.go tabOk ext5Ok mixed false [] [] [4, 5, 6, 7] [0, 1, 2] [true] (a1 b0 (a1 s0 (a1 s1 (a1 s2 (a1 s3 (a1 s4 (a1 trivial (a1 s5 (a1 s6 (a1 s7 trivial)))))))))) (ih7 _ _ _ _ h K q) (by kernel_rfl)
    · rw [if_neg b0] at h
      replace b0 := Bool.eq_false_iff.2 b0
      subst h
      exact AtV.ret Tryz.func5 tabOk ext5Ok mixed false [] tys5 [false] (a1 b0 trivial) (by kernel_rfl)
def W5 : List ByteArray := [ByteArray.mk #[98, 101, 110, 100, 115], ByteArray.mk #[104, 111, 117, 114, 115], ByteArray.mk #[108, 105, 109, 105, 116, 115], ByteArray.mk #[119, 111, 114, 107, 101, 114, 115], ByteArray.mk #[108, 105, 116, 114, 101, 115], ByteArray.mk #[102, 97, 114, 101, 115], ByteArray.mk #[116, 101, 115, 116, 115], ByteArray.mk #[104, 101, 108, 112, 101, 114, 115], ByteArray.mk #[116, 97, 115, 107, 115]]
def N5 (x0 : (TyA0)) : List Int := [((x0.1.length : Nat) : Int), ((x0.2.2.1.length : Nat) : Int), ((x0.2.2.2.1.length : Nat) : Int), ((x0.2.2.2.2.2.2.1.length : Nat) : Int), x0.2.2.2.2.2.2.2.1.2.2.1, ((x0.2.2.2.2.2.2.2.2.1.length : Nat) : Int), ((x0.2.2.2.2.2.2.2.2.2.1.length : Nat) : Int), ((x0.2.2.2.2.2.2.2.2.2.2.1.length : Nat) : Int), ((x0.2.2.2.2.2.2.2.2.2.2.2.1.length : Nat) : Int)]
def ln5 (w : ByteArray) (n : Int) : ByteArray := w ++ ByteArray.mk #[32] ++ g22_0 n
def g5_0 (x0 : (TyA0)) : List ByteArray := if g21_0 x0 = true then List.zipWith ln5 W5 (N5 x0) else []
def g5_1 (x0 : (TyA0)) : Int := if g21_0 x0 = true then 0 else 1
def P5 (x0 : (TyA0)) : Prop := True
theorem nn5 (x0 : (TyA0)) (hw : Wf (.cons (.sl (.cons .str (.cons (.int .i64) (.cons (.int .i64) (.cons (.int .i64) .unit))))) (.cons (.cons (.int .i64) (.cons (.int .i64) (.cons (.int .i64) (.cons (.int .i64) .unit)))) (.cons (.sl (.cons (.int .i64) (.cons (.int .i64) (.cons (.int .i64) .unit)))) (.cons (.sl (.cons (.int .i64) (.cons (.int .i64) (.cons (.int .i64) .unit)))) (.cons (.cons (.int .i64) (.cons (.int .i64) (.cons (.int .i64) .unit))) (.cons (.cons (.int .i64) (.cons (.int .i64) (.cons (.int .i64) .unit))) (.cons (.sl (.cons .str (.cons (.int .i64) (.cons (.int .i64) .unit)))) (.cons (.cons (.int .i64) (.cons (.int .i64) (.cons (.int .i64) (.cons (.int .i64) .unit)))) (.cons (.sl (.cons .str (.cons (.int .i64) (.cons (.int .i64) (.cons (.int .i64) .unit))))) (.cons (.sl (.cons (.int .i64) (.cons (.int .i64) (.cons (.int .i64) .unit)))) (.cons (.sl (.cons .str (.cons (.int .i64) (.cons (.int .i64) .unit)))) (.cons (.sl (.cons .str (.cons (.int .i64) (.cons (.int .i64) .unit)))) .unit)))))))))))) x0) : ∀ n ∈ N5 x0, -9223372036854775808 ≤ n ∧ n ≤ 9223372036854775807 := by
  have hmx : maxLen ≤ 9223372036854775807 := by decide
  have a0 : x0.1.length ≤ maxLen := hw.1.1
  have a2 : x0.2.2.1.length ≤ maxLen := hw.2.2.1.1
  have a3 : x0.2.2.2.1.length ≤ maxLen := hw.2.2.2.1.1
  have a6 : x0.2.2.2.2.2.2.1.length ≤ maxLen := hw.2.2.2.2.2.2.1.1
  have a8 : x0.2.2.2.2.2.2.2.2.1.length ≤ maxLen := hw.2.2.2.2.2.2.2.2.1.1
  have a9 : x0.2.2.2.2.2.2.2.2.2.1.length ≤ maxLen := hw.2.2.2.2.2.2.2.2.2.1.1
  have aa : x0.2.2.2.2.2.2.2.2.2.2.1.length ≤ maxLen := hw.2.2.2.2.2.2.2.2.2.2.1.1
  have ab : x0.2.2.2.2.2.2.2.2.2.2.2.1.length ≤ maxLen := hw.2.2.2.2.2.2.2.2.2.2.2.1.1
  have a7 : InR .i64 x0.2.2.2.2.2.2.2.1.2.2.1 := hw.2.2.2.2.2.2.2.1.2.2.1
  rw [i64_iff] at a7
  intro n hn
  unfold N5 at hn
  simp only [List.mem_cons, List.mem_nil_iff, or_false] at hn
  rcases hn with rfl | rfl | rfl | rfl | rfl | rfl | rfl | rfl | rfl <;> omega
theorem ws5 : ∀ w ∈ W5, w.size ≤ 7 := by
  intro w hw
  unfold W5 at hw
  simp only [List.mem_cons, List.mem_nil_iff, or_false] at hw
  rcases hw with rfl | rfl | rfl | rfl | rfl | rfl | rfl | rfl | rfl <;> decide
theorem run5 (x0 : (TyA0)) (hn : ∀ n ∈ N5 x0, -9223372036854775808 ≤ n ∧ n ≤ 9223372036854775807) : ∀ (k i : Nat) (h : List ByteArray), i + k = 9 → h.length = i →
    R5_7 (k + 1) (i : Int) h x0 [⟨.sl .str, h ++ List.zipWith ln5 (W5.drop i) ((N5 x0).drop i)⟩, ⟨.int .i64, 0⟩] := by
  intro k
  induction k with
  | zero =>
    intro i h hi hl
    obtain rfl : i = 9 := by omega
    rw [R5_7, if_neg (by decide)]
    have e : List.zipWith ln5 (W5.drop 9) ((N5 x0).drop 9) = [] := rfl
    rw [e, List.append_nil]
  | succ k ih =>
    intro i h hi hl
    have lW : W5.length = 9 := rfl
    have lN : (N5 x0).length = 9 := rfl
    have mw := ws5 _ (mem_getD W5 i ByteArray.empty (by omega))
    have mn := hn _ (mem_getD (N5 x0) i 0 (by omega))
    have hz := numB_size _ mn.1 mn.2
    have hnext := ih (i + 1) (h ++ [ln5 (W5.getD i ByteArray.empty) ((N5 x0).getD i 0)]) (by omega) (by rw [List.length_append, hl]; rfl)
    have e1 : (((i + 1 : Nat)) : Int) = (i : Int) + 1 := by omega
    rw [e1] at hnext
    rw [drop_get W5 i ByteArray.empty (by omega), drop_get (N5 x0) i 0 (by omega), List.zipWith_cons_cons]
    rw [List.append_assoc] at hnext
    rw [R5_7, if_pos (by simp only [decide_eq_true_eq]; omega)]
    have s1 : (ByteArray.mk #[32]).size = 1 := rfl
    have hws : (W5.getD i ByteArray.empty).size + 1 ≤ 9223372036854775807 := by omega
    have hsum : (W5.getD i ByteArray.empty ++ ByteArray.mk #[32]).size + (numB ((N5 x0).getD i 0)).size ≤ 9223372036854775807 := by
      rw [ByteArray.size_append, s1]; omega
    simp only [Int.toNat_natCast]
    exact ⟨by omega, by omega, hws, by omega, by omega, hsum, by omega, by rw [i64_iff]; omega, hnext⟩
theorem top5 (x0 : (TyA0)) (hw : Wf (.cons (.sl (.cons .str (.cons (.int .i64) (.cons (.int .i64) (.cons (.int .i64) .unit))))) (.cons (.cons (.int .i64) (.cons (.int .i64) (.cons (.int .i64) (.cons (.int .i64) .unit)))) (.cons (.sl (.cons (.int .i64) (.cons (.int .i64) (.cons (.int .i64) .unit)))) (.cons (.sl (.cons (.int .i64) (.cons (.int .i64) (.cons (.int .i64) .unit)))) (.cons (.cons (.int .i64) (.cons (.int .i64) (.cons (.int .i64) .unit))) (.cons (.cons (.int .i64) (.cons (.int .i64) (.cons (.int .i64) .unit))) (.cons (.sl (.cons .str (.cons (.int .i64) (.cons (.int .i64) .unit)))) (.cons (.cons (.int .i64) (.cons (.int .i64) (.cons (.int .i64) (.cons (.int .i64) .unit)))) (.cons (.sl (.cons .str (.cons (.int .i64) (.cons (.int .i64) (.cons (.int .i64) .unit))))) (.cons (.sl (.cons (.int .i64) (.cons (.int .i64) (.cons (.int .i64) .unit)))) (.cons (.sl (.cons .str (.cons (.int .i64) (.cons (.int .i64) .unit)))) (.cons (.sl (.cons .str (.cons (.int .i64) (.cons (.int .i64) .unit)))) .unit)))))))))))) x0) : ∃ n, R5 n x0 [⟨.sl .str, g5_0 x0⟩, ⟨.int .i64, g5_1 x0⟩] := by
  unfold g5_0 g5_1
  cases hv : g21_0 x0 with
  | false =>
    refine ⟨1, ?_⟩
    rw [R5, if_pos (by rw [hv]; rfl)]
    rfl
  | true =>
    refine ⟨9 + 1 + 1, ?_⟩
    rw [R5, if_neg (by rw [hv]; simp)]
    exact run5 x0 (nn5 x0 hw) 9 0 [] (by omega) rfl
def S5 : Am.Spec := { sig := sig5, pre := fun ⟨x0, _⟩ => P5 x0, res := fun ⟨x0, _⟩ => [⟨.sl .str, g5_0 x0⟩, ⟨.int .i64, g5_1 x0⟩] }
theorem con5 : Contract Tryz.prog 5 S5 := contract_of Tryz.func5 hb5 (Nat.le_of_ble_eq_true (by kernel_rfl)) (fun ⟨x0, _⟩ h hwf K q =>
  let ⟨n, hn⟩ := top5 x0 hwf.1
  (snd5 n).1 x0 _ hn K q)
end
noncomputable section
def ext66 : Ext := []
theorem ext66Ok : ExtOk Tryz.prog ext66 := trivial
noncomputable def b66 : Code := bodyOf Tryz.f66
theorem hb66 : Tryz.f66.body = some b66 := by kernel_rfl
def sig66 : List AT := [AT.v YA3, AT.v (Ty.int .i64)]
def tys66 : List Ty := [Ty.int .i64]
def kds66 : List RK := []
def oks66 : List AT := owns sig66
def P66 (x0 : ByteArray × Int × Int × Int × Unit) (x1 : Int) : Prop := ((InR .i64 (x1 - (↑(ByteArray.size x0.1) : Int))) ∧ True)
def g66_0 (x0 : ByteArray × Int × Int × Int × Unit) (x1 : Int) : Int := (if (decide (x1 - (↑(ByteArray.size x0.1) : Int) < 0)) = true then -1 else x1 - (↑(ByteArray.size x0.1) : Int))
theorem at66 (x0 : ByteArray × Int × Int × Int × Unit) (x1 : Int) (h : P66 x0 x1) (K : Ctx) (q : Nat → Value) : AtV Tryz.prog 66 (PostR kds66 oks66 [⟨Ty.int .i64, g66_0 x0 x1⟩] [] [] q K) 13 K q [] [.code b66] (entE 0 0 sig66 (x0, x1, ())) (entL sig66 (x0, x1, ())) := by
  unfold P66 at h
  unfold g66_0
  obtain ⟨s0, h⟩ := h
  by_cases b0 : (decide (x1 - (↑(ByteArray.size x0.1) : Int) < 0)) = true
  · try simp only [if_pos b0] at h ⊢
    exact AtV.ret Tryz.func66 tabOk ext66Ok mixed false [] tys66 [true] (a1 s0 (a1 b0 trivial)) (by kernel_rfl)
  · try simp only [if_neg b0] at h ⊢
    replace b0 := Bool.eq_false_iff.2 b0
    exact AtV.ret Tryz.func66 tabOk ext66Ok mixed false [] tys66 [false] (a1 s0 (a1 b0 trivial)) (by kernel_rfl)
def S66 : Am.Spec := { sig := sig66, pre := fun ⟨x0, x1, _⟩ => P66 x0 x1, res := fun ⟨x0, x1, _⟩ => [⟨Ty.int .i64, g66_0 x0 x1⟩], kds := kds66 }
theorem con66 : Contract Tryz.prog 66 S66 := contract_of Tryz.func66 hb66 (Nat.le_of_ble_eq_true (by kernel_rfl)) (fun ⟨x0, x1, _⟩ h _ K q => at66 x0 x1 h K q)
theorem sz66 (x0 : TyB0) (x1 : Int) (h : 0 ≤ x1) (hi : InR .i64 x1) (hw : Wf (.cons .str (.cons (.int .i64) (.cons (.int .i64) (.cons (.int .i64) .unit)))) x0) :
    P66 x0 x1 ∧ -1 ≤ g66_0 x0 x1 ∧ g66_0 x0 x1 ≤ x1 := by
  have h0 : x0.1.size ≤ 9223372036854775807 := hw.1
  rw [i64_iff] at hi
  unfold P66 g66_0
  simp only [decide_eq_true_eq, i64_iff]
  repeat' (first | apply And.intro | split)
  all_goals first | trivial | omega
end
noncomputable section
def ext13 : Ext := [(66, S66)]
theorem ext13Ok : ExtOk Tryz.prog ext13 := ⟨⟨ca66, con66⟩, trivial⟩
noncomputable def b13 : Code := bodyOf Tryz.f13
theorem hb13 : Tryz.f13.body = some b13 := by kernel_rfl
def sig13 : List AT := [AT.v (Ty.sl YA3), AT.v (Ty.int .i64)]
def tys13 : List Ty := [Ty.int .i64]
def kds13 : List RK := []
def oks13 : List AT := owns sig13
def E13_5 (v1 : Int) (v5 : Int) (x0 : List TyB0) : Env := [(0, PV.a (Atom.sl YA3 x0)), (1, PV.a (Atom.val (Value.int .i64 v1))), (5, PV.a (Atom.val (Value.int .i64 v5)))]
def L13_5 (v1 : Int) (v5 : Int) (x0 : List TyB0) : Heap := []
mutual
def R13 : Nat → List TyB0 → Int → List Dyn → Prop
  | 0, _, _, _ => False
  | n + 1, x0, x1, ds => ((InR .i64 (x1 - (↑(List.length x0) : Int))) ∧ (if (decide (x1 - (↑(List.length x0) : Int) < 0)) = true then (ds = [Dyn.mk (Ty.int .i64) (-1)]) else (R13_5 n (x1 - (↑(List.length x0) : Int)) (0) (x0) ds)))
def R13_5 : Nat → Int → Int → List TyB0 → List Dyn → Prop
  | 0, _, _, _, _ => False
  | n + 1, v1, v5, x0, ds => (if (decide (v5 < (↑(List.length x0) : Int))) = true then ((0 ≤ v5) ∧ (v5 < (↑(List.length x0) : Int)) ∧ ((P66 (List.getD x0 (Int.toNat v5) (ByteArray.empty, 0, 0, 0, ())) v1) ∧ (if (decide (g66_0 (List.getD x0 (Int.toNat v5) (ByteArray.empty, 0, 0, 0, ())) v1 < 0)) = true then (ds = [Dyn.mk (Ty.int .i64) (-1)]) else ((InR .i64 (v5 + 1)) ∧ (R13_5 n (g66_0 (List.getD x0 (Int.toNat v5) (ByteArray.empty, 0, 0, 0, ())) v1) (v5 + 1) (x0) ds))))) else (ds = [Dyn.mk (Ty.int .i64) v1]))
end
theorem snd13 : ∀ n, (∀ (x0 : List TyB0) (x1 : Int) ds, R13 n x0 x1 ds → ∀ K q, AtV Tryz.prog 13 (PostR kds13 oks13 ds [] [] q K) 27 K q [] [.code b13] (entE 0 0 sig13 (x0, x1, ())) (entL sig13 (x0, x1, ()))) ∧ (∀ (v1 : Int) (v5 : Int) (x0 : List TyB0) ds, R13_5 n v1 v5 x0 ds → ∀ K q, AtV Tryz.prog 13 (PostR kds13 oks13 ds [] [] q K) 27 K q [] (cutAt b13 5) (E13_5 v1 v5 x0) (L13_5 v1 v5 x0)) := by
  intro n
  induction n with
  | zero => exact ⟨fun _ _ _ h => by simp only [R13] at h, fun _ _ _ _ h => by simp only [R13_5] at h⟩
  | succ n ih =>
  obtain ⟨ih, ih5⟩ := ih
  refine ⟨?_, ?_⟩
  · intro x0 x1 ds h K q
    rw [R13] at h
    obtain ⟨s0, h⟩ := h
    by_cases b0 : (decide (x1 - (↑(List.length x0) : Int) < 0)) = true
    · rw [if_pos b0] at h
      subst h
      exact AtV.ret Tryz.func13 tabOk ext13Ok mixed false [] tys13 [true] (a1 s0 (a1 b0 trivial)) (by kernel_rfl)
    · rw [if_neg b0] at h
      replace b0 := Bool.eq_false_iff.2 b0
      exact AtV.go tabOk ext13Ok mixed false [] [] [0, 1, 5] [] [false] (a1 s0 (a1 b0 trivial)) (ih5 _ _ _ _ h K q) (by kernel_rfl)
  · intro v1 v5 x0 ds h K q
    rw [R13_5] at h
    by_cases b0 : (decide (v5 < (↑(List.length x0) : Int))) = true
    · rw [if_pos b0] at h
      obtain ⟨s0, s1, h⟩ := h
      obtain ⟨s2, h⟩ := h
      by_cases b1 : (decide (g66_0 (List.getD x0 (Int.toNat v5) (ByteArray.empty, 0, 0, 0, ())) v1 < 0)) = true
      · rw [if_pos b1] at h
        subst h
        exact AtV.ret Tryz.func13 tabOk ext13Ok mixed false [] tys13 [true, true] (a1 b0 (a1 s0 (a1 s1 (a1 s2 (a1 b1 trivial))))) (by kernel_rfl)
      · rw [if_neg b1] at h
        replace b1 := Bool.eq_false_iff.2 b1
        obtain ⟨s3, h⟩ := h
        exact AtV.go tabOk ext13Ok mixed false [] [] [0, 1, 5] [] [true, false] (a1 b0 (a1 s0 (a1 s1 (a1 s2 (a1 b1 (a1 s3 trivial)))))) (ih5 _ _ _ _ h K q) (by kernel_rfl)
    · rw [if_neg b0] at h
      replace b0 := Bool.eq_false_iff.2 b0
      subst h
      exact AtV.ret Tryz.func13 tabOk ext13Ok mixed false [] tys13 [false] (a1 b0 trivial) (by kernel_rfl)
def szL13 : List TyB0 → Int → Int
  | [], l => l
  | x :: r, l => if g66_0 x l < 0 then -1 else szL13 r (g66_0 x l)
theorem szL13_ok : ∀ (x0 : List TyB0) (l : Int), 0 ≤ l → InR .i64 l → (∀ x ∈ x0, Wf (.cons .str (.cons (.int .i64) (.cons (.int .i64) (.cons (.int .i64) .unit)))) x) → szL13 x0 l ≤ l
  | [], l, _, _, _ => Int.le_refl _
  | x :: r, l, h, hi, hw => by
    obtain ⟨_, h2, h3⟩ := sz66 x l h hi (hw x (List.mem_cons_self ..))
    simp only [szL13]
    rw [i64_iff] at hi
    split
    · omega
    · have := szL13_ok r (g66_0 x l) (by omega) (by rw [i64_iff]; omega) (fun y hy => hw y (List.mem_cons_of_mem _ hy))
      omega
theorem run13 (x0 : List TyB0) (hm : x0.length ≤ maxLen) (hw : ∀ x ∈ x0, Wf (.cons .str (.cons (.int .i64) (.cons (.int .i64) (.cons (.int .i64) .unit)))) x) : ∀ (k i : Nat) (l : Int), i + k = x0.length → 0 ≤ l → InR .i64 l →
    R13_5 (k + 1) l (i : Int) x0 [⟨.int .i64, szL13 (x0.drop i) l⟩] := by
  intro k
  induction k with
  | zero =>
    intro i l hi _ _
    rw [R13_5, if_neg (by simp; omega), drop_end x0 i (by omega)]
    rfl
  | succ k ih =>
    intro i l hi h0 hl
    rw [R13_5, if_pos (by simp; omega)]
    simp only [Int.toNat_natCast]
    have hmem : x0.getD i (ByteArray.empty, (0 : Int), (0 : Int), (0 : Int), ()) ∈ x0 := by rw [getD_lt _ _ _ (by omega)]; exact List.getElem_mem _
    obtain ⟨h1, h2, h3⟩ := sz66 _ l h0 hl (hw _ hmem)
    refine ⟨by omega, by omega, h1, ?_⟩
    rw [drop_get x0 i (ByteArray.empty, (0 : Int), (0 : Int), (0 : Int), ()) (by omega)]
    simp only [szL13]
    have hl' := hl
    rw [i64_iff] at hl'
    by_cases hn : g66_0 (x0.getD i (ByteArray.empty, (0 : Int), (0 : Int), (0 : Int), ())) l < 0
    · rw [if_pos (by simpa using hn), if_pos hn]
    · rw [if_neg (by simpa using hn), if_neg hn]
      exact ⟨inR_up hm (by omega), ih (i + 1) _ (by omega) (by omega) (by rw [i64_iff]; omega)⟩
def g13_0 (x0 : List TyB0) (x1 : Int) : Int := if x1 - x0.length < 0 then -1 else szL13 x0 (x1 - x0.length)
def P13 (x0 : List TyB0) (x1 : Int) : Prop := 0 ≤ x1
theorem g13_le (x0 : List TyB0) (x1 : Int) (h : 0 ≤ x1) (hi : InR .i64 x1) (hw : Wf (.sl (.cons .str (.cons (.int .i64) (.cons (.int .i64) (.cons (.int .i64) .unit))))) x0) (hg : ¬ g13_0 x0 x1 < 0) : g13_0 x0 x1 ≤ x1 - x0.length := by
  unfold g13_0 at hg ⊢
  rw [i64_iff] at hi
  split
  · rename_i h1
    rw [if_pos h1] at hg
    omega
  · exact szL13_ok x0 _ (by omega) (by rw [i64_iff]; omega) hw.2
theorem top13 (x0 : List TyB0) (x1 : Int) (hw : Wf (.sl (.cons .str (.cons (.int .i64) (.cons (.int .i64) (.cons (.int .i64) .unit))))) x0) (hi : InR .i64 x1) (h : 0 ≤ x1) : R13 (x0.length + 1 + 1) x0 x1 [⟨Ty.int .i64, g13_0 x0 x1⟩] := by
  have hm : x0.length ≤ maxLen := hw.1
  have hm' : x0.length ≤ 9223372036854775807 := hm
  rw [i64_iff] at hi
  rw [R13]
  refine ⟨by rw [i64_iff]; omega, ?_⟩
  unfold g13_0
  by_cases hn : x1 - (x0.length : Int) < 0
  · rw [if_pos (by simpa using hn), if_pos hn]
  · rw [if_neg (by simpa using hn), if_neg hn]
    have := run13 x0 hm hw.2 x0.length 0 (x1 - x0.length) (by omega) (by omega) (by rw [i64_iff]; omega)
    simpa using this
def S13 : Am.Spec := { sig := sig13, pre := fun ⟨x0, x1, _⟩ => P13 x0 x1, res := fun ⟨x0, x1, _⟩ => [⟨Ty.int .i64, g13_0 x0 x1⟩] }
theorem con13 : Contract Tryz.prog 13 S13 := contract_of Tryz.func13 hb13 (Nat.le_of_ble_eq_true (by kernel_rfl)) (fun ⟨x0, x1, _⟩ h hwf K q =>
  (snd13 _).1 x0 x1 _ (top13 x0 x1 hwf.1 hwf.2.1 h) K q)
end
noncomputable section
def ext14 : Ext := []
theorem ext14Ok : ExtOk Tryz.prog ext14 := trivial
noncomputable def b14 : Code := bodyOf Tryz.f14
theorem hb14 : Tryz.f14.body = some b14 := by kernel_rfl
def sig14 : List AT := [AT.v (Ty.sl YA4), AT.v (Ty.int .i64)]
def tys14 : List Ty := [Ty.int .i64]
def kds14 : List RK := []
def oks14 : List AT := owns sig14
def P14 (x0 : List TyB2) (x1 : Int) : Prop := ((InR .i64 (x1 - (↑(List.length x0) : Int))) ∧ True)
def g14_0 (x0 : List TyB2) (x1 : Int) : Int := (if (decide (x1 - (↑(List.length x0) : Int) < 0)) = true then -1 else x1 - (↑(List.length x0) : Int))
theorem at14 (x0 : List TyB2) (x1 : Int) (h : P14 x0 x1) (K : Ctx) (q : Nat → Value) : AtV Tryz.prog 14 (PostR kds14 oks14 [⟨Ty.int .i64, g14_0 x0 x1⟩] [] [] q K) 12 K q [] [.code b14] (entE 0 0 sig14 (x0, x1, ())) (entL sig14 (x0, x1, ())) := by
  unfold P14 at h
  unfold g14_0
  obtain ⟨s0, h⟩ := h
  by_cases b0 : (decide (x1 - (↑(List.length x0) : Int) < 0)) = true
  · try simp only [if_pos b0] at h ⊢
    exact AtV.ret Tryz.func14 tabOk ext14Ok mixed false [] tys14 [true] (a1 s0 (a1 b0 trivial)) (by kernel_rfl)
  · try simp only [if_neg b0] at h ⊢
    replace b0 := Bool.eq_false_iff.2 b0
    exact AtV.ret Tryz.func14 tabOk ext14Ok mixed false [] tys14 [false] (a1 s0 (a1 b0 trivial)) (by kernel_rfl)
def S14 : Am.Spec := { sig := sig14, pre := fun ⟨x0, x1, _⟩ => P14 x0 x1, res := fun ⟨x0, x1, _⟩ => [⟨Ty.int .i64, g14_0 x0 x1⟩], kds := kds14 }
theorem con14 : Contract Tryz.prog 14 S14 := contract_of Tryz.func14 hb14 (Nat.le_of_ble_eq_true (by kernel_rfl)) (fun ⟨x0, x1, _⟩ h _ K q => at14 x0 x1 h K q)
theorem g14_le (x0 : List TyB2) (x1 : Int) (h : 0 ≤ x1) (hi : InR .i64 x1) (hw : Wf (.sl (.cons (.int .i64) (.cons (.int .i64) (.cons (.int .i64) .unit)))) x0) (hg : ¬ g14_0 x0 x1 < 0) : P14 x0 x1 ∧ g14_0 x0 x1 ≤ x1 - x0.length := by
  have hm : x0.length ≤ 9223372036854775807 := hw.1
  rw [i64_iff] at hi
  unfold g14_0 P14 at *
  simp only [decide_eq_true_eq, i64_iff] at *
  refine ⟨?_, ?_⟩
  · repeat' (first | apply And.intro | split)
    all_goals first | trivial | omega
  · split at hg <;> rename_i hc
    · omega
    · rw [if_neg hc]; omega
end
noncomputable section
def ext15 : Ext := []
theorem ext15Ok : ExtOk Tryz.prog ext15 := trivial
noncomputable def b15 : Code := bodyOf Tryz.f15
theorem hb15 : Tryz.f15.body = some b15 := by kernel_rfl
def sig15 : List AT := [AT.v (Ty.sl YA4), AT.v (Ty.int .i64)]
def tys15 : List Ty := [Ty.int .i64]
def kds15 : List RK := []
def oks15 : List AT := owns sig15
def P15 (x0 : List TyB2) (x1 : Int) : Prop := ((InR .i64 (x1 - (↑(List.length x0) : Int))) ∧ True)
def g15_0 (x0 : List TyB2) (x1 : Int) : Int := (if (decide (x1 - (↑(List.length x0) : Int) < 0)) = true then -1 else x1 - (↑(List.length x0) : Int))
theorem at15 (x0 : List TyB2) (x1 : Int) (h : P15 x0 x1) (K : Ctx) (q : Nat → Value) : AtV Tryz.prog 15 (PostR kds15 oks15 [⟨Ty.int .i64, g15_0 x0 x1⟩] [] [] q K) 12 K q [] [.code b15] (entE 0 0 sig15 (x0, x1, ())) (entL sig15 (x0, x1, ())) := by
  unfold P15 at h
  unfold g15_0
  obtain ⟨s0, h⟩ := h
  by_cases b0 : (decide (x1 - (↑(List.length x0) : Int) < 0)) = true
  · try simp only [if_pos b0] at h ⊢
    exact AtV.ret Tryz.func15 tabOk ext15Ok mixed false [] tys15 [true] (a1 s0 (a1 b0 trivial)) (by kernel_rfl)
  · try simp only [if_neg b0] at h ⊢
    replace b0 := Bool.eq_false_iff.2 b0
    exact AtV.ret Tryz.func15 tabOk ext15Ok mixed false [] tys15 [false] (a1 s0 (a1 b0 trivial)) (by kernel_rfl)
def S15 : Am.Spec := { sig := sig15, pre := fun ⟨x0, x1, _⟩ => P15 x0 x1, res := fun ⟨x0, x1, _⟩ => [⟨Ty.int .i64, g15_0 x0 x1⟩], kds := kds15 }
theorem con15 : Contract Tryz.prog 15 S15 := contract_of Tryz.func15 hb15 (Nat.le_of_ble_eq_true (by kernel_rfl)) (fun ⟨x0, x1, _⟩ h _ K q => at15 x0 x1 h K q)
theorem g15_le (x0 : List TyB2) (x1 : Int) (h : 0 ≤ x1) (hi : InR .i64 x1) (hw : Wf (.sl (.cons (.int .i64) (.cons (.int .i64) (.cons (.int .i64) .unit)))) x0) (hg : ¬ g15_0 x0 x1 < 0) : P15 x0 x1 ∧ g15_0 x0 x1 ≤ x1 - x0.length := by
  have hm : x0.length ≤ 9223372036854775807 := hw.1
  rw [i64_iff] at hi
  unfold g15_0 P15 at *
  simp only [decide_eq_true_eq, i64_iff] at *
  refine ⟨?_, ?_⟩
  · repeat' (first | apply And.intro | split)
    all_goals first | trivial | omega
  · split at hg <;> rename_i hc
    · omega
    · rw [if_neg hc]; omega
end
noncomputable section
def ext67 : Ext := []
theorem ext67Ok : ExtOk Tryz.prog ext67 := trivial
noncomputable def b67 : Code := bodyOf Tryz.f67
theorem hb67 : Tryz.f67.body = some b67 := by kernel_rfl
def sig67 : List AT := [AT.v YA5, AT.v (Ty.int .i64)]
def tys67 : List Ty := [Ty.int .i64]
def kds67 : List RK := []
def oks67 : List AT := owns sig67
def P67 (x0 : ByteArray × Int × Int × Unit) (x1 : Int) : Prop := ((InR .i64 (x1 - (↑(ByteArray.size x0.1) : Int))) ∧ True)
def g67_0 (x0 : ByteArray × Int × Int × Unit) (x1 : Int) : Int := (if (decide (x1 - (↑(ByteArray.size x0.1) : Int) < 0)) = true then -1 else x1 - (↑(ByteArray.size x0.1) : Int))
theorem at67 (x0 : ByteArray × Int × Int × Unit) (x1 : Int) (h : P67 x0 x1) (K : Ctx) (q : Nat → Value) : AtV Tryz.prog 67 (PostR kds67 oks67 [⟨Ty.int .i64, g67_0 x0 x1⟩] [] [] q K) 13 K q [] [.code b67] (entE 0 0 sig67 (x0, x1, ())) (entL sig67 (x0, x1, ())) := by
  unfold P67 at h
  unfold g67_0
  obtain ⟨s0, h⟩ := h
  by_cases b0 : (decide (x1 - (↑(ByteArray.size x0.1) : Int) < 0)) = true
  · try simp only [if_pos b0] at h ⊢
    exact AtV.ret Tryz.func67 tabOk ext67Ok mixed false [] tys67 [true] (a1 s0 (a1 b0 trivial)) (by kernel_rfl)
  · try simp only [if_neg b0] at h ⊢
    replace b0 := Bool.eq_false_iff.2 b0
    exact AtV.ret Tryz.func67 tabOk ext67Ok mixed false [] tys67 [false] (a1 s0 (a1 b0 trivial)) (by kernel_rfl)
def S67 : Am.Spec := { sig := sig67, pre := fun ⟨x0, x1, _⟩ => P67 x0 x1, res := fun ⟨x0, x1, _⟩ => [⟨Ty.int .i64, g67_0 x0 x1⟩], kds := kds67 }
theorem con67 : Contract Tryz.prog 67 S67 := contract_of Tryz.func67 hb67 (Nat.le_of_ble_eq_true (by kernel_rfl)) (fun ⟨x0, x1, _⟩ h _ K q => at67 x0 x1 h K q)
theorem sz67 (x0 : TyB1) (x1 : Int) (h : 0 ≤ x1) (hi : InR .i64 x1) (hw : Wf (.cons .str (.cons (.int .i64) (.cons (.int .i64) .unit))) x0) :
    P67 x0 x1 ∧ -1 ≤ g67_0 x0 x1 ∧ g67_0 x0 x1 ≤ x1 := by
  have h0 : x0.1.size ≤ 9223372036854775807 := hw.1
  rw [i64_iff] at hi
  unfold P67 g67_0
  simp only [decide_eq_true_eq, i64_iff]
  repeat' (first | apply And.intro | split)
  all_goals first | trivial | omega
end
noncomputable section
def ext16 : Ext := [(67, S67)]
theorem ext16Ok : ExtOk Tryz.prog ext16 := ⟨⟨ca67, con67⟩, trivial⟩
noncomputable def b16 : Code := bodyOf Tryz.f16
theorem hb16 : Tryz.f16.body = some b16 := by kernel_rfl
def sig16 : List AT := [AT.v (Ty.sl YA5), AT.v (Ty.int .i64)]
def tys16 : List Ty := [Ty.int .i64]
def kds16 : List RK := []
def oks16 : List AT := owns sig16
def E16_5 (v1 : Int) (v5 : Int) (x0 : List TyB1) : Env := [(0, PV.a (Atom.sl YA5 x0)), (1, PV.a (Atom.val (Value.int .i64 v1))), (5, PV.a (Atom.val (Value.int .i64 v5)))]
def L16_5 (v1 : Int) (v5 : Int) (x0 : List TyB1) : Heap := []
mutual
def R16 : Nat → List TyB1 → Int → List Dyn → Prop
  | 0, _, _, _ => False
  | n + 1, x0, x1, ds => ((InR .i64 (x1 - (↑(List.length x0) : Int))) ∧ (if (decide (x1 - (↑(List.length x0) : Int) < 0)) = true then (ds = [Dyn.mk (Ty.int .i64) (-1)]) else (R16_5 n (x1 - (↑(List.length x0) : Int)) (0) (x0) ds)))
def R16_5 : Nat → Int → Int → List TyB1 → List Dyn → Prop
  | 0, _, _, _, _ => False
  | n + 1, v1, v5, x0, ds => (if (decide (v5 < (↑(List.length x0) : Int))) = true then ((0 ≤ v5) ∧ (v5 < (↑(List.length x0) : Int)) ∧ ((P67 (List.getD x0 (Int.toNat v5) (ByteArray.empty, 0, 0, ())) v1) ∧ (if (decide (g67_0 (List.getD x0 (Int.toNat v5) (ByteArray.empty, 0, 0, ())) v1 < 0)) = true then (ds = [Dyn.mk (Ty.int .i64) (-1)]) else ((InR .i64 (v5 + 1)) ∧ (R16_5 n (g67_0 (List.getD x0 (Int.toNat v5) (ByteArray.empty, 0, 0, ())) v1) (v5 + 1) (x0) ds))))) else (ds = [Dyn.mk (Ty.int .i64) v1]))
end
theorem snd16 : ∀ n, (∀ (x0 : List TyB1) (x1 : Int) ds, R16 n x0 x1 ds → ∀ K q, AtV Tryz.prog 16 (PostR kds16 oks16 ds [] [] q K) 27 K q [] [.code b16] (entE 0 0 sig16 (x0, x1, ())) (entL sig16 (x0, x1, ()))) ∧ (∀ (v1 : Int) (v5 : Int) (x0 : List TyB1) ds, R16_5 n v1 v5 x0 ds → ∀ K q, AtV Tryz.prog 16 (PostR kds16 oks16 ds [] [] q K) 27 K q [] (cutAt b16 5) (E16_5 v1 v5 x0) (L16_5 v1 v5 x0)) := by
  intro n
  induction n with
  | zero => exact ⟨fun _ _ _ h => by simp only [R16] at h, fun _ _ _ _ h => by simp only [R16_5] at h⟩
  | succ n ih =>
  obtain ⟨ih, ih5⟩ := ih
  refine ⟨?_, ?_⟩
  · intro x0 x1 ds h K q
    rw [R16] at h
    obtain ⟨s0, h⟩ := h
    by_cases b0 : (decide (x1 - (↑(List.length x0) : Int) < 0)) = true
    · rw [if_pos b0] at h
      subst h
      exact AtV.ret Tryz.func16 tabOk ext16Ok mixed false [] tys16 [true] (a1 s0 (a1 b0 trivial)) (by kernel_rfl)
    · rw [if_neg b0] at h
      replace b0 := Bool.eq_false_iff.2 b0
      exact AtV.go tabOk ext16Ok mixed false [] [] [0, 1, 5] [] [false] (a1 s0 (a1 b0 trivial)) (ih5 _ _ _ _ h K q) (by kernel_rfl)
  · intro v1 v5 x0 ds h K q
    rw [R16_5] at h
    by_cases b0 : (decide (v5 < (↑(List.length x0) : Int))) = true
    · rw [if_pos b0] at h
      obtain ⟨s0, s1, h⟩ := h
      obtain ⟨s2, h⟩ := h
      by_cases b1 : (decide (g67_0 (List.getD x0 (Int.toNat v5) (ByteArray.empty, 0, 0, ())) v1 < 0)) = true
      · rw [if_pos b1] at h
        subst h
        exact AtV.ret Tryz.func16 tabOk ext16Ok mixed false [] tys16 [true, true] (a1 b0 (a1 s0 (a1 s1 (a1 s2 (a1 b1 trivial))))) (by kernel_rfl)
      · rw [if_neg b1] at h
        replace b1 := Bool.eq_false_iff.2 b1
        obtain ⟨s3, h⟩ := h
        exact AtV.go tabOk ext16Ok mixed false [] [] [0, 1, 5] [] [true, false] (a1 b0 (a1 s0 (a1 s1 (a1 s2 (a1 b1 (a1 s3 trivial)))))) (ih5 _ _ _ _ h K q) (by kernel_rfl)
    · rw [if_neg b0] at h
      replace b0 := Bool.eq_false_iff.2 b0
      subst h
      exact AtV.ret Tryz.func16 tabOk ext16Ok mixed false [] tys16 [false] (a1 b0 trivial) (by kernel_rfl)
def szL16 : List TyB1 → Int → Int
  | [], l => l
  | x :: r, l => if g67_0 x l < 0 then -1 else szL16 r (g67_0 x l)
theorem szL16_ok : ∀ (x0 : List TyB1) (l : Int), 0 ≤ l → InR .i64 l → (∀ x ∈ x0, Wf (.cons .str (.cons (.int .i64) (.cons (.int .i64) .unit))) x) → szL16 x0 l ≤ l
  | [], l, _, _, _ => Int.le_refl _
  | x :: r, l, h, hi, hw => by
    obtain ⟨_, h2, h3⟩ := sz67 x l h hi (hw x (List.mem_cons_self ..))
    simp only [szL16]
    rw [i64_iff] at hi
    split
    · omega
    · have := szL16_ok r (g67_0 x l) (by omega) (by rw [i64_iff]; omega) (fun y hy => hw y (List.mem_cons_of_mem _ hy))
      omega
theorem run16 (x0 : List TyB1) (hm : x0.length ≤ maxLen) (hw : ∀ x ∈ x0, Wf (.cons .str (.cons (.int .i64) (.cons (.int .i64) .unit))) x) : ∀ (k i : Nat) (l : Int), i + k = x0.length → 0 ≤ l → InR .i64 l →
    R16_5 (k + 1) l (i : Int) x0 [⟨.int .i64, szL16 (x0.drop i) l⟩] := by
  intro k
  induction k with
  | zero =>
    intro i l hi _ _
    rw [R16_5, if_neg (by simp; omega), drop_end x0 i (by omega)]
    rfl
  | succ k ih =>
    intro i l hi h0 hl
    rw [R16_5, if_pos (by simp; omega)]
    simp only [Int.toNat_natCast]
    have hmem : x0.getD i (ByteArray.empty, (0 : Int), (0 : Int), ()) ∈ x0 := by rw [getD_lt _ _ _ (by omega)]; exact List.getElem_mem _
    obtain ⟨h1, h2, h3⟩ := sz67 _ l h0 hl (hw _ hmem)
    refine ⟨by omega, by omega, h1, ?_⟩
    rw [drop_get x0 i (ByteArray.empty, (0 : Int), (0 : Int), ()) (by omega)]
    simp only [szL16]
    have hl' := hl
    rw [i64_iff] at hl'
    by_cases hn : g67_0 (x0.getD i (ByteArray.empty, (0 : Int), (0 : Int), ())) l < 0
    · rw [if_pos (by simpa using hn), if_pos hn]
    · rw [if_neg (by simpa using hn), if_neg hn]
      exact ⟨inR_up hm (by omega), ih (i + 1) _ (by omega) (by omega) (by rw [i64_iff]; omega)⟩
def g16_0 (x0 : List TyB1) (x1 : Int) : Int := if x1 - x0.length < 0 then -1 else szL16 x0 (x1 - x0.length)
def P16 (x0 : List TyB1) (x1 : Int) : Prop := 0 ≤ x1
theorem g16_le (x0 : List TyB1) (x1 : Int) (h : 0 ≤ x1) (hi : InR .i64 x1) (hw : Wf (.sl (.cons .str (.cons (.int .i64) (.cons (.int .i64) .unit)))) x0) (hg : ¬ g16_0 x0 x1 < 0) : g16_0 x0 x1 ≤ x1 - x0.length := by
  unfold g16_0 at hg ⊢
  rw [i64_iff] at hi
  split
  · rename_i h1
    rw [if_pos h1] at hg
    omega
  · exact szL16_ok x0 _ (by omega) (by rw [i64_iff]; omega) hw.2
theorem top16 (x0 : List TyB1) (x1 : Int) (hw : Wf (.sl (.cons .str (.cons (.int .i64) (.cons (.int .i64) .unit)))) x0) (hi : InR .i64 x1) (h : 0 ≤ x1) : R16 (x0.length + 1 + 1) x0 x1 [⟨Ty.int .i64, g16_0 x0 x1⟩] := by
  have hm : x0.length ≤ maxLen := hw.1
  have hm' : x0.length ≤ 9223372036854775807 := hm
  rw [i64_iff] at hi
  rw [R16]
  refine ⟨by rw [i64_iff]; omega, ?_⟩
  unfold g16_0
  by_cases hn : x1 - (x0.length : Int) < 0
  · rw [if_pos (by simpa using hn), if_pos hn]
  · rw [if_neg (by simpa using hn), if_neg hn]
    have := run16 x0 hm hw.2 x0.length 0 (x1 - x0.length) (by omega) (by omega) (by rw [i64_iff]; omega)
    simpa using this
def S16 : Am.Spec := { sig := sig16, pre := fun ⟨x0, x1, _⟩ => P16 x0 x1, res := fun ⟨x0, x1, _⟩ => [⟨Ty.int .i64, g16_0 x0 x1⟩] }
theorem con16 : Contract Tryz.prog 16 S16 := contract_of Tryz.func16 hb16 (Nat.le_of_ble_eq_true (by kernel_rfl)) (fun ⟨x0, x1, _⟩ h hwf K q =>
  (snd16 _).1 x0 x1 _ (top16 x0 x1 hwf.1 hwf.2.1 h) K q)
end
noncomputable section
def ext68 : Ext := []
theorem ext68Ok : ExtOk Tryz.prog ext68 := trivial
noncomputable def b68 : Code := bodyOf Tryz.f68
theorem hb68 : Tryz.f68.body = some b68 := by kernel_rfl
def sig68 : List AT := [AT.v YA3, AT.v (Ty.int .i64)]
def tys68 : List Ty := [Ty.int .i64]
def kds68 : List RK := []
def oks68 : List AT := owns sig68
def P68 (x0 : ByteArray × Int × Int × Int × Unit) (x1 : Int) : Prop := ((InR .i64 (x1 - (↑(ByteArray.size x0.1) : Int))) ∧ True)
def g68_0 (x0 : ByteArray × Int × Int × Int × Unit) (x1 : Int) : Int := (if (decide (x1 - (↑(ByteArray.size x0.1) : Int) < 0)) = true then -1 else x1 - (↑(ByteArray.size x0.1) : Int))
theorem at68 (x0 : ByteArray × Int × Int × Int × Unit) (x1 : Int) (h : P68 x0 x1) (K : Ctx) (q : Nat → Value) : AtV Tryz.prog 68 (PostR kds68 oks68 [⟨Ty.int .i64, g68_0 x0 x1⟩] [] [] q K) 13 K q [] [.code b68] (entE 0 0 sig68 (x0, x1, ())) (entL sig68 (x0, x1, ())) := by
  unfold P68 at h
  unfold g68_0
  obtain ⟨s0, h⟩ := h
  by_cases b0 : (decide (x1 - (↑(ByteArray.size x0.1) : Int) < 0)) = true
  · try simp only [if_pos b0] at h ⊢
    exact AtV.ret Tryz.func68 tabOk ext68Ok mixed false [] tys68 [true] (a1 s0 (a1 b0 trivial)) (by kernel_rfl)
  · try simp only [if_neg b0] at h ⊢
    replace b0 := Bool.eq_false_iff.2 b0
    exact AtV.ret Tryz.func68 tabOk ext68Ok mixed false [] tys68 [false] (a1 s0 (a1 b0 trivial)) (by kernel_rfl)
def S68 : Am.Spec := { sig := sig68, pre := fun ⟨x0, x1, _⟩ => P68 x0 x1, res := fun ⟨x0, x1, _⟩ => [⟨Ty.int .i64, g68_0 x0 x1⟩], kds := kds68 }
theorem con68 : Contract Tryz.prog 68 S68 := contract_of Tryz.func68 hb68 (Nat.le_of_ble_eq_true (by kernel_rfl)) (fun ⟨x0, x1, _⟩ h _ K q => at68 x0 x1 h K q)
theorem sz68 (x0 : TyB0) (x1 : Int) (h : 0 ≤ x1) (hi : InR .i64 x1) (hw : Wf (.cons .str (.cons (.int .i64) (.cons (.int .i64) (.cons (.int .i64) .unit)))) x0) :
    P68 x0 x1 ∧ -1 ≤ g68_0 x0 x1 ∧ g68_0 x0 x1 ≤ x1 := by
  have h0 : x0.1.size ≤ 9223372036854775807 := hw.1
  rw [i64_iff] at hi
  unfold P68 g68_0
  simp only [decide_eq_true_eq, i64_iff]
  repeat' (first | apply And.intro | split)
  all_goals first | trivial | omega
end
noncomputable section
def ext17 : Ext := [(68, S68)]
theorem ext17Ok : ExtOk Tryz.prog ext17 := ⟨⟨ca68, con68⟩, trivial⟩
noncomputable def b17 : Code := bodyOf Tryz.f17
theorem hb17 : Tryz.f17.body = some b17 := by kernel_rfl
def sig17 : List AT := [AT.v (Ty.sl YA3), AT.v (Ty.int .i64)]
def tys17 : List Ty := [Ty.int .i64]
def kds17 : List RK := []
def oks17 : List AT := owns sig17
def E17_5 (v1 : Int) (v5 : Int) (x0 : List TyB0) : Env := [(0, PV.a (Atom.sl YA3 x0)), (1, PV.a (Atom.val (Value.int .i64 v1))), (5, PV.a (Atom.val (Value.int .i64 v5)))]
def L17_5 (v1 : Int) (v5 : Int) (x0 : List TyB0) : Heap := []
mutual
def R17 : Nat → List TyB0 → Int → List Dyn → Prop
  | 0, _, _, _ => False
  | n + 1, x0, x1, ds => ((InR .i64 (x1 - (↑(List.length x0) : Int))) ∧ (if (decide (x1 - (↑(List.length x0) : Int) < 0)) = true then (ds = [Dyn.mk (Ty.int .i64) (-1)]) else (R17_5 n (x1 - (↑(List.length x0) : Int)) (0) (x0) ds)))
def R17_5 : Nat → Int → Int → List TyB0 → List Dyn → Prop
  | 0, _, _, _, _ => False
  | n + 1, v1, v5, x0, ds => (if (decide (v5 < (↑(List.length x0) : Int))) = true then ((0 ≤ v5) ∧ (v5 < (↑(List.length x0) : Int)) ∧ ((P68 (List.getD x0 (Int.toNat v5) (ByteArray.empty, 0, 0, 0, ())) v1) ∧ (if (decide (g68_0 (List.getD x0 (Int.toNat v5) (ByteArray.empty, 0, 0, 0, ())) v1 < 0)) = true then (ds = [Dyn.mk (Ty.int .i64) (-1)]) else ((InR .i64 (v5 + 1)) ∧ (R17_5 n (g68_0 (List.getD x0 (Int.toNat v5) (ByteArray.empty, 0, 0, 0, ())) v1) (v5 + 1) (x0) ds))))) else (ds = [Dyn.mk (Ty.int .i64) v1]))
end
theorem snd17 : ∀ n, (∀ (x0 : List TyB0) (x1 : Int) ds, R17 n x0 x1 ds → ∀ K q, AtV Tryz.prog 17 (PostR kds17 oks17 ds [] [] q K) 27 K q [] [.code b17] (entE 0 0 sig17 (x0, x1, ())) (entL sig17 (x0, x1, ()))) ∧ (∀ (v1 : Int) (v5 : Int) (x0 : List TyB0) ds, R17_5 n v1 v5 x0 ds → ∀ K q, AtV Tryz.prog 17 (PostR kds17 oks17 ds [] [] q K) 27 K q [] (cutAt b17 5) (E17_5 v1 v5 x0) (L17_5 v1 v5 x0)) := by
  intro n
  induction n with
  | zero => exact ⟨fun _ _ _ h => by simp only [R17] at h, fun _ _ _ _ h => by simp only [R17_5] at h⟩
  | succ n ih =>
  obtain ⟨ih, ih5⟩ := ih
  refine ⟨?_, ?_⟩
  · intro x0 x1 ds h K q
    rw [R17] at h
    obtain ⟨s0, h⟩ := h
    by_cases b0 : (decide (x1 - (↑(List.length x0) : Int) < 0)) = true
    · rw [if_pos b0] at h
      subst h
      exact AtV.ret Tryz.func17 tabOk ext17Ok mixed false [] tys17 [true] (a1 s0 (a1 b0 trivial)) (by kernel_rfl)
    · rw [if_neg b0] at h
      replace b0 := Bool.eq_false_iff.2 b0
      exact AtV.go tabOk ext17Ok mixed false [] [] [0, 1, 5] [] [false] (a1 s0 (a1 b0 trivial)) (ih5 _ _ _ _ h K q) (by kernel_rfl)
  · intro v1 v5 x0 ds h K q
    rw [R17_5] at h
    by_cases b0 : (decide (v5 < (↑(List.length x0) : Int))) = true
    · rw [if_pos b0] at h
      obtain ⟨s0, s1, h⟩ := h
      obtain ⟨s2, h⟩ := h
      by_cases b1 : (decide (g68_0 (List.getD x0 (Int.toNat v5) (ByteArray.empty, 0, 0, 0, ())) v1 < 0)) = true
      · rw [if_pos b1] at h
        subst h
        exact AtV.ret Tryz.func17 tabOk ext17Ok mixed false [] tys17 [true, true] (a1 b0 (a1 s0 (a1 s1 (a1 s2 (a1 b1 trivial))))) (by kernel_rfl)
      · rw [if_neg b1] at h
        replace b1 := Bool.eq_false_iff.2 b1
        obtain ⟨s3, h⟩ := h
        exact AtV.go tabOk ext17Ok mixed false [] [] [0, 1, 5] [] [true, false] (a1 b0 (a1 s0 (a1 s1 (a1 s2 (a1 b1 (a1 s3 trivial)))))) (ih5 _ _ _ _ h K q) (by kernel_rfl)
    · rw [if_neg b0] at h
      replace b0 := Bool.eq_false_iff.2 b0
      subst h
      exact AtV.ret Tryz.func17 tabOk ext17Ok mixed false [] tys17 [false] (a1 b0 trivial) (by kernel_rfl)
def szL17 : List TyB0 → Int → Int
  | [], l => l
  | x :: r, l => if g68_0 x l < 0 then -1 else szL17 r (g68_0 x l)
theorem szL17_ok : ∀ (x0 : List TyB0) (l : Int), 0 ≤ l → InR .i64 l → (∀ x ∈ x0, Wf (.cons .str (.cons (.int .i64) (.cons (.int .i64) (.cons (.int .i64) .unit)))) x) → szL17 x0 l ≤ l
  | [], l, _, _, _ => Int.le_refl _
  | x :: r, l, h, hi, hw => by
    obtain ⟨_, h2, h3⟩ := sz68 x l h hi (hw x (List.mem_cons_self ..))
    simp only [szL17]
    rw [i64_iff] at hi
    split
    · omega
    · have := szL17_ok r (g68_0 x l) (by omega) (by rw [i64_iff]; omega) (fun y hy => hw y (List.mem_cons_of_mem _ hy))
      omega
theorem run17 (x0 : List TyB0) (hm : x0.length ≤ maxLen) (hw : ∀ x ∈ x0, Wf (.cons .str (.cons (.int .i64) (.cons (.int .i64) (.cons (.int .i64) .unit)))) x) : ∀ (k i : Nat) (l : Int), i + k = x0.length → 0 ≤ l → InR .i64 l →
    R17_5 (k + 1) l (i : Int) x0 [⟨.int .i64, szL17 (x0.drop i) l⟩] := by
  intro k
  induction k with
  | zero =>
    intro i l hi _ _
    rw [R17_5, if_neg (by simp; omega), drop_end x0 i (by omega)]
    rfl
  | succ k ih =>
    intro i l hi h0 hl
    rw [R17_5, if_pos (by simp; omega)]
    simp only [Int.toNat_natCast]
    have hmem : x0.getD i (ByteArray.empty, (0 : Int), (0 : Int), (0 : Int), ()) ∈ x0 := by rw [getD_lt _ _ _ (by omega)]; exact List.getElem_mem _
    obtain ⟨h1, h2, h3⟩ := sz68 _ l h0 hl (hw _ hmem)
    refine ⟨by omega, by omega, h1, ?_⟩
    rw [drop_get x0 i (ByteArray.empty, (0 : Int), (0 : Int), (0 : Int), ()) (by omega)]
    simp only [szL17]
    have hl' := hl
    rw [i64_iff] at hl'
    by_cases hn : g68_0 (x0.getD i (ByteArray.empty, (0 : Int), (0 : Int), (0 : Int), ())) l < 0
    · rw [if_pos (by simpa using hn), if_pos hn]
    · rw [if_neg (by simpa using hn), if_neg hn]
      exact ⟨inR_up hm (by omega), ih (i + 1) _ (by omega) (by omega) (by rw [i64_iff]; omega)⟩
def g17_0 (x0 : List TyB0) (x1 : Int) : Int := if x1 - x0.length < 0 then -1 else szL17 x0 (x1 - x0.length)
def P17 (x0 : List TyB0) (x1 : Int) : Prop := 0 ≤ x1
theorem g17_le (x0 : List TyB0) (x1 : Int) (h : 0 ≤ x1) (hi : InR .i64 x1) (hw : Wf (.sl (.cons .str (.cons (.int .i64) (.cons (.int .i64) (.cons (.int .i64) .unit))))) x0) (hg : ¬ g17_0 x0 x1 < 0) : g17_0 x0 x1 ≤ x1 - x0.length := by
  unfold g17_0 at hg ⊢
  rw [i64_iff] at hi
  split
  · rename_i h1
    rw [if_pos h1] at hg
    omega
  · exact szL17_ok x0 _ (by omega) (by rw [i64_iff]; omega) hw.2
theorem top17 (x0 : List TyB0) (x1 : Int) (hw : Wf (.sl (.cons .str (.cons (.int .i64) (.cons (.int .i64) (.cons (.int .i64) .unit))))) x0) (hi : InR .i64 x1) (h : 0 ≤ x1) : R17 (x0.length + 1 + 1) x0 x1 [⟨Ty.int .i64, g17_0 x0 x1⟩] := by
  have hm : x0.length ≤ maxLen := hw.1
  have hm' : x0.length ≤ 9223372036854775807 := hm
  rw [i64_iff] at hi
  rw [R17]
  refine ⟨by rw [i64_iff]; omega, ?_⟩
  unfold g17_0
  by_cases hn : x1 - (x0.length : Int) < 0
  · rw [if_pos (by simpa using hn), if_pos hn]
  · rw [if_neg (by simpa using hn), if_neg hn]
    have := run17 x0 hm hw.2 x0.length 0 (x1 - x0.length) (by omega) (by omega) (by rw [i64_iff]; omega)
    simpa using this
def S17 : Am.Spec := { sig := sig17, pre := fun ⟨x0, x1, _⟩ => P17 x0 x1, res := fun ⟨x0, x1, _⟩ => [⟨Ty.int .i64, g17_0 x0 x1⟩] }
theorem con17 : Contract Tryz.prog 17 S17 := contract_of Tryz.func17 hb17 (Nat.le_of_ble_eq_true (by kernel_rfl)) (fun ⟨x0, x1, _⟩ h hwf K q =>
  (snd17 _).1 x0 x1 _ (top17 x0 x1 hwf.1 hwf.2.1 h) K q)
end
noncomputable section
def ext18 : Ext := []
theorem ext18Ok : ExtOk Tryz.prog ext18 := trivial
noncomputable def b18 : Code := bodyOf Tryz.f18
theorem hb18 : Tryz.f18.body = some b18 := by kernel_rfl
def sig18 : List AT := [AT.v (Ty.sl YA4), AT.v (Ty.int .i64)]
def tys18 : List Ty := [Ty.int .i64]
def kds18 : List RK := []
def oks18 : List AT := owns sig18
def P18 (x0 : List TyB2) (x1 : Int) : Prop := ((InR .i64 (x1 - (↑(List.length x0) : Int))) ∧ True)
def g18_0 (x0 : List TyB2) (x1 : Int) : Int := (if (decide (x1 - (↑(List.length x0) : Int) < 0)) = true then -1 else x1 - (↑(List.length x0) : Int))
theorem at18 (x0 : List TyB2) (x1 : Int) (h : P18 x0 x1) (K : Ctx) (q : Nat → Value) : AtV Tryz.prog 18 (PostR kds18 oks18 [⟨Ty.int .i64, g18_0 x0 x1⟩] [] [] q K) 12 K q [] [.code b18] (entE 0 0 sig18 (x0, x1, ())) (entL sig18 (x0, x1, ())) := by
  unfold P18 at h
  unfold g18_0
  obtain ⟨s0, h⟩ := h
  by_cases b0 : (decide (x1 - (↑(List.length x0) : Int) < 0)) = true
  · try simp only [if_pos b0] at h ⊢
    exact AtV.ret Tryz.func18 tabOk ext18Ok mixed false [] tys18 [true] (a1 s0 (a1 b0 trivial)) (by kernel_rfl)
  · try simp only [if_neg b0] at h ⊢
    replace b0 := Bool.eq_false_iff.2 b0
    exact AtV.ret Tryz.func18 tabOk ext18Ok mixed false [] tys18 [false] (a1 s0 (a1 b0 trivial)) (by kernel_rfl)
def S18 : Am.Spec := { sig := sig18, pre := fun ⟨x0, x1, _⟩ => P18 x0 x1, res := fun ⟨x0, x1, _⟩ => [⟨Ty.int .i64, g18_0 x0 x1⟩], kds := kds18 }
theorem con18 : Contract Tryz.prog 18 S18 := contract_of Tryz.func18 hb18 (Nat.le_of_ble_eq_true (by kernel_rfl)) (fun ⟨x0, x1, _⟩ h _ K q => at18 x0 x1 h K q)
theorem g18_le (x0 : List TyB2) (x1 : Int) (h : 0 ≤ x1) (hi : InR .i64 x1) (hw : Wf (.sl (.cons (.int .i64) (.cons (.int .i64) (.cons (.int .i64) .unit)))) x0) (hg : ¬ g18_0 x0 x1 < 0) : P18 x0 x1 ∧ g18_0 x0 x1 ≤ x1 - x0.length := by
  have hm : x0.length ≤ 9223372036854775807 := hw.1
  rw [i64_iff] at hi
  unfold g18_0 P18 at *
  simp only [decide_eq_true_eq, i64_iff] at *
  refine ⟨?_, ?_⟩
  · repeat' (first | apply And.intro | split)
    all_goals first | trivial | omega
  · split at hg <;> rename_i hc
    · omega
    · rw [if_neg hc]; omega
end
noncomputable section
def ext69 : Ext := []
theorem ext69Ok : ExtOk Tryz.prog ext69 := trivial
noncomputable def b69 : Code := bodyOf Tryz.f69
theorem hb69 : Tryz.f69.body = some b69 := by kernel_rfl
def sig69 : List AT := [AT.v YA5, AT.v (Ty.int .i64)]
def tys69 : List Ty := [Ty.int .i64]
def kds69 : List RK := []
def oks69 : List AT := owns sig69
def P69 (x0 : ByteArray × Int × Int × Unit) (x1 : Int) : Prop := ((InR .i64 (x1 - (↑(ByteArray.size x0.1) : Int))) ∧ True)
def g69_0 (x0 : ByteArray × Int × Int × Unit) (x1 : Int) : Int := (if (decide (x1 - (↑(ByteArray.size x0.1) : Int) < 0)) = true then -1 else x1 - (↑(ByteArray.size x0.1) : Int))
theorem at69 (x0 : ByteArray × Int × Int × Unit) (x1 : Int) (h : P69 x0 x1) (K : Ctx) (q : Nat → Value) : AtV Tryz.prog 69 (PostR kds69 oks69 [⟨Ty.int .i64, g69_0 x0 x1⟩] [] [] q K) 13 K q [] [.code b69] (entE 0 0 sig69 (x0, x1, ())) (entL sig69 (x0, x1, ())) := by
  unfold P69 at h
  unfold g69_0
  obtain ⟨s0, h⟩ := h
  by_cases b0 : (decide (x1 - (↑(ByteArray.size x0.1) : Int) < 0)) = true
  · try simp only [if_pos b0] at h ⊢
    exact AtV.ret Tryz.func69 tabOk ext69Ok mixed false [] tys69 [true] (a1 s0 (a1 b0 trivial)) (by kernel_rfl)
  · try simp only [if_neg b0] at h ⊢
    replace b0 := Bool.eq_false_iff.2 b0
    exact AtV.ret Tryz.func69 tabOk ext69Ok mixed false [] tys69 [false] (a1 s0 (a1 b0 trivial)) (by kernel_rfl)
def S69 : Am.Spec := { sig := sig69, pre := fun ⟨x0, x1, _⟩ => P69 x0 x1, res := fun ⟨x0, x1, _⟩ => [⟨Ty.int .i64, g69_0 x0 x1⟩], kds := kds69 }
theorem con69 : Contract Tryz.prog 69 S69 := contract_of Tryz.func69 hb69 (Nat.le_of_ble_eq_true (by kernel_rfl)) (fun ⟨x0, x1, _⟩ h _ K q => at69 x0 x1 h K q)
theorem sz69 (x0 : TyB1) (x1 : Int) (h : 0 ≤ x1) (hi : InR .i64 x1) (hw : Wf (.cons .str (.cons (.int .i64) (.cons (.int .i64) .unit))) x0) :
    P69 x0 x1 ∧ -1 ≤ g69_0 x0 x1 ∧ g69_0 x0 x1 ≤ x1 := by
  have h0 : x0.1.size ≤ 9223372036854775807 := hw.1
  rw [i64_iff] at hi
  unfold P69 g69_0
  simp only [decide_eq_true_eq, i64_iff]
  repeat' (first | apply And.intro | split)
  all_goals first | trivial | omega
end
noncomputable section
def ext19 : Ext := [(69, S69)]
theorem ext19Ok : ExtOk Tryz.prog ext19 := ⟨⟨ca69, con69⟩, trivial⟩
noncomputable def b19 : Code := bodyOf Tryz.f19
theorem hb19 : Tryz.f19.body = some b19 := by kernel_rfl
def sig19 : List AT := [AT.v (Ty.sl YA5), AT.v (Ty.int .i64)]
def tys19 : List Ty := [Ty.int .i64]
def kds19 : List RK := []
def oks19 : List AT := owns sig19
def E19_5 (v1 : Int) (v5 : Int) (x0 : List TyB1) : Env := [(0, PV.a (Atom.sl YA5 x0)), (1, PV.a (Atom.val (Value.int .i64 v1))), (5, PV.a (Atom.val (Value.int .i64 v5)))]
def L19_5 (v1 : Int) (v5 : Int) (x0 : List TyB1) : Heap := []
mutual
def R19 : Nat → List TyB1 → Int → List Dyn → Prop
  | 0, _, _, _ => False
  | n + 1, x0, x1, ds => ((InR .i64 (x1 - (↑(List.length x0) : Int))) ∧ (if (decide (x1 - (↑(List.length x0) : Int) < 0)) = true then (ds = [Dyn.mk (Ty.int .i64) (-1)]) else (R19_5 n (x1 - (↑(List.length x0) : Int)) (0) (x0) ds)))
def R19_5 : Nat → Int → Int → List TyB1 → List Dyn → Prop
  | 0, _, _, _, _ => False
  | n + 1, v1, v5, x0, ds => (if (decide (v5 < (↑(List.length x0) : Int))) = true then ((0 ≤ v5) ∧ (v5 < (↑(List.length x0) : Int)) ∧ ((P69 (List.getD x0 (Int.toNat v5) (ByteArray.empty, 0, 0, ())) v1) ∧ (if (decide (g69_0 (List.getD x0 (Int.toNat v5) (ByteArray.empty, 0, 0, ())) v1 < 0)) = true then (ds = [Dyn.mk (Ty.int .i64) (-1)]) else ((InR .i64 (v5 + 1)) ∧ (R19_5 n (g69_0 (List.getD x0 (Int.toNat v5) (ByteArray.empty, 0, 0, ())) v1) (v5 + 1) (x0) ds))))) else (ds = [Dyn.mk (Ty.int .i64) v1]))
end
theorem snd19 : ∀ n, (∀ (x0 : List TyB1) (x1 : Int) ds, R19 n x0 x1 ds → ∀ K q, AtV Tryz.prog 19 (PostR kds19 oks19 ds [] [] q K) 27 K q [] [.code b19] (entE 0 0 sig19 (x0, x1, ())) (entL sig19 (x0, x1, ()))) ∧ (∀ (v1 : Int) (v5 : Int) (x0 : List TyB1) ds, R19_5 n v1 v5 x0 ds → ∀ K q, AtV Tryz.prog 19 (PostR kds19 oks19 ds [] [] q K) 27 K q [] (cutAt b19 5) (E19_5 v1 v5 x0) (L19_5 v1 v5 x0)) := by
  intro n
  induction n with
  | zero => exact ⟨fun _ _ _ h => by simp only [R19] at h, fun _ _ _ _ h => by simp only [R19_5] at h⟩
  | succ n ih =>
  obtain ⟨ih, ih5⟩ := ih
  refine ⟨?_, ?_⟩
  · intro x0 x1 ds h K q
    rw [R19] at h
    obtain ⟨s0, h⟩ := h
    by_cases b0 : (decide (x1 - (↑(List.length x0) : Int) < 0)) = true
    · rw [if_pos b0] at h
      subst h
      exact AtV.ret Tryz.func19 tabOk ext19Ok mixed false [] tys19 [true] (a1 s0 (a1 b0 trivial)) (by kernel_rfl)
    · rw [if_neg b0] at h
      replace b0 := Bool.eq_false_iff.2 b0
      exact AtV.go tabOk ext19Ok mixed false [] [] [0, 1, 5] [] [false] (a1 s0 (a1 b0 trivial)) (ih5 _ _ _ _ h K q) (by kernel_rfl)
  · intro v1 v5 x0 ds h K q
    rw [R19_5] at h
    by_cases b0 : (decide (v5 < (↑(List.length x0) : Int))) = true
    · rw [if_pos b0] at h
      obtain ⟨s0, s1, h⟩ := h
      obtain ⟨s2, h⟩ := h
      by_cases b1 : (decide (g69_0 (List.getD x0 (Int.toNat v5) (ByteArray.empty, 0, 0, ())) v1 < 0)) = true
      · rw [if_pos b1] at h
        subst h
        exact AtV.ret Tryz.func19 tabOk ext19Ok mixed false [] tys19 [true, true] (a1 b0 (a1 s0 (a1 s1 (a1 s2 (a1 b1 trivial))))) (by kernel_rfl)
      · rw [if_neg b1] at h
        replace b1 := Bool.eq_false_iff.2 b1
        obtain ⟨s3, h⟩ := h
        exact AtV.go tabOk ext19Ok mixed false [] [] [0, 1, 5] [] [true, false] (a1 b0 (a1 s0 (a1 s1 (a1 s2 (a1 b1 (a1 s3 trivial)))))) (ih5 _ _ _ _ h K q) (by kernel_rfl)
    · rw [if_neg b0] at h
      replace b0 := Bool.eq_false_iff.2 b0
      subst h
      exact AtV.ret Tryz.func19 tabOk ext19Ok mixed false [] tys19 [false] (a1 b0 trivial) (by kernel_rfl)
def szL19 : List TyB1 → Int → Int
  | [], l => l
  | x :: r, l => if g69_0 x l < 0 then -1 else szL19 r (g69_0 x l)
theorem szL19_ok : ∀ (x0 : List TyB1) (l : Int), 0 ≤ l → InR .i64 l → (∀ x ∈ x0, Wf (.cons .str (.cons (.int .i64) (.cons (.int .i64) .unit))) x) → szL19 x0 l ≤ l
  | [], l, _, _, _ => Int.le_refl _
  | x :: r, l, h, hi, hw => by
    obtain ⟨_, h2, h3⟩ := sz69 x l h hi (hw x (List.mem_cons_self ..))
    simp only [szL19]
    rw [i64_iff] at hi
    split
    · omega
    · have := szL19_ok r (g69_0 x l) (by omega) (by rw [i64_iff]; omega) (fun y hy => hw y (List.mem_cons_of_mem _ hy))
      omega
theorem run19 (x0 : List TyB1) (hm : x0.length ≤ maxLen) (hw : ∀ x ∈ x0, Wf (.cons .str (.cons (.int .i64) (.cons (.int .i64) .unit))) x) : ∀ (k i : Nat) (l : Int), i + k = x0.length → 0 ≤ l → InR .i64 l →
    R19_5 (k + 1) l (i : Int) x0 [⟨.int .i64, szL19 (x0.drop i) l⟩] := by
  intro k
  induction k with
  | zero =>
    intro i l hi _ _
    rw [R19_5, if_neg (by simp; omega), drop_end x0 i (by omega)]
    rfl
  | succ k ih =>
    intro i l hi h0 hl
    rw [R19_5, if_pos (by simp; omega)]
    simp only [Int.toNat_natCast]
    have hmem : x0.getD i (ByteArray.empty, (0 : Int), (0 : Int), ()) ∈ x0 := by rw [getD_lt _ _ _ (by omega)]; exact List.getElem_mem _
    obtain ⟨h1, h2, h3⟩ := sz69 _ l h0 hl (hw _ hmem)
    refine ⟨by omega, by omega, h1, ?_⟩
    rw [drop_get x0 i (ByteArray.empty, (0 : Int), (0 : Int), ()) (by omega)]
    simp only [szL19]
    have hl' := hl
    rw [i64_iff] at hl'
    by_cases hn : g69_0 (x0.getD i (ByteArray.empty, (0 : Int), (0 : Int), ())) l < 0
    · rw [if_pos (by simpa using hn), if_pos hn]
    · rw [if_neg (by simpa using hn), if_neg hn]
      exact ⟨inR_up hm (by omega), ih (i + 1) _ (by omega) (by omega) (by rw [i64_iff]; omega)⟩
def g19_0 (x0 : List TyB1) (x1 : Int) : Int := if x1 - x0.length < 0 then -1 else szL19 x0 (x1 - x0.length)
def P19 (x0 : List TyB1) (x1 : Int) : Prop := 0 ≤ x1
theorem g19_le (x0 : List TyB1) (x1 : Int) (h : 0 ≤ x1) (hi : InR .i64 x1) (hw : Wf (.sl (.cons .str (.cons (.int .i64) (.cons (.int .i64) .unit)))) x0) (hg : ¬ g19_0 x0 x1 < 0) : g19_0 x0 x1 ≤ x1 - x0.length := by
  unfold g19_0 at hg ⊢
  rw [i64_iff] at hi
  split
  · rename_i h1
    rw [if_pos h1] at hg
    omega
  · exact szL19_ok x0 _ (by omega) (by rw [i64_iff]; omega) hw.2
theorem top19 (x0 : List TyB1) (x1 : Int) (hw : Wf (.sl (.cons .str (.cons (.int .i64) (.cons (.int .i64) .unit)))) x0) (hi : InR .i64 x1) (h : 0 ≤ x1) : R19 (x0.length + 1 + 1) x0 x1 [⟨Ty.int .i64, g19_0 x0 x1⟩] := by
  have hm : x0.length ≤ maxLen := hw.1
  have hm' : x0.length ≤ 9223372036854775807 := hm
  rw [i64_iff] at hi
  rw [R19]
  refine ⟨by rw [i64_iff]; omega, ?_⟩
  unfold g19_0
  by_cases hn : x1 - (x0.length : Int) < 0
  · rw [if_pos (by simpa using hn), if_pos hn]
  · rw [if_neg (by simpa using hn), if_neg hn]
    have := run19 x0 hm hw.2 x0.length 0 (x1 - x0.length) (by omega) (by omega) (by rw [i64_iff]; omega)
    simpa using this
def S19 : Am.Spec := { sig := sig19, pre := fun ⟨x0, x1, _⟩ => P19 x0 x1, res := fun ⟨x0, x1, _⟩ => [⟨Ty.int .i64, g19_0 x0 x1⟩] }
theorem con19 : Contract Tryz.prog 19 S19 := contract_of Tryz.func19 hb19 (Nat.le_of_ble_eq_true (by kernel_rfl)) (fun ⟨x0, x1, _⟩ h hwf K q =>
  (snd19 _).1 x0 x1 _ (top19 x0 x1 hwf.1 hwf.2.1 h) K q)
end
noncomputable section
def ext70 : Ext := []
theorem ext70Ok : ExtOk Tryz.prog ext70 := trivial
noncomputable def b70 : Code := bodyOf Tryz.f70
theorem hb70 : Tryz.f70.body = some b70 := by kernel_rfl
def sig70 : List AT := [AT.v YA5, AT.v (Ty.int .i64)]
def tys70 : List Ty := [Ty.int .i64]
def kds70 : List RK := []
def oks70 : List AT := owns sig70
def P70 (x0 : ByteArray × Int × Int × Unit) (x1 : Int) : Prop := ((InR .i64 (x1 - (↑(ByteArray.size x0.1) : Int))) ∧ True)
def g70_0 (x0 : ByteArray × Int × Int × Unit) (x1 : Int) : Int := (if (decide (x1 - (↑(ByteArray.size x0.1) : Int) < 0)) = true then -1 else x1 - (↑(ByteArray.size x0.1) : Int))
theorem at70 (x0 : ByteArray × Int × Int × Unit) (x1 : Int) (h : P70 x0 x1) (K : Ctx) (q : Nat → Value) : AtV Tryz.prog 70 (PostR kds70 oks70 [⟨Ty.int .i64, g70_0 x0 x1⟩] [] [] q K) 13 K q [] [.code b70] (entE 0 0 sig70 (x0, x1, ())) (entL sig70 (x0, x1, ())) := by
  unfold P70 at h
  unfold g70_0
  obtain ⟨s0, h⟩ := h
  by_cases b0 : (decide (x1 - (↑(ByteArray.size x0.1) : Int) < 0)) = true
  · try simp only [if_pos b0] at h ⊢
    exact AtV.ret Tryz.func70 tabOk ext70Ok mixed false [] tys70 [true] (a1 s0 (a1 b0 trivial)) (by kernel_rfl)
  · try simp only [if_neg b0] at h ⊢
    replace b0 := Bool.eq_false_iff.2 b0
    exact AtV.ret Tryz.func70 tabOk ext70Ok mixed false [] tys70 [false] (a1 s0 (a1 b0 trivial)) (by kernel_rfl)
def S70 : Am.Spec := { sig := sig70, pre := fun ⟨x0, x1, _⟩ => P70 x0 x1, res := fun ⟨x0, x1, _⟩ => [⟨Ty.int .i64, g70_0 x0 x1⟩], kds := kds70 }
theorem con70 : Contract Tryz.prog 70 S70 := contract_of Tryz.func70 hb70 (Nat.le_of_ble_eq_true (by kernel_rfl)) (fun ⟨x0, x1, _⟩ h _ K q => at70 x0 x1 h K q)
theorem sz70 (x0 : TyB1) (x1 : Int) (h : 0 ≤ x1) (hi : InR .i64 x1) (hw : Wf (.cons .str (.cons (.int .i64) (.cons (.int .i64) .unit))) x0) :
    P70 x0 x1 ∧ -1 ≤ g70_0 x0 x1 ∧ g70_0 x0 x1 ≤ x1 := by
  have h0 : x0.1.size ≤ 9223372036854775807 := hw.1
  rw [i64_iff] at hi
  unfold P70 g70_0
  simp only [decide_eq_true_eq, i64_iff]
  repeat' (first | apply And.intro | split)
  all_goals first | trivial | omega
end
noncomputable section
def ext20 : Ext := [(70, S70)]
theorem ext20Ok : ExtOk Tryz.prog ext20 := ⟨⟨ca70, con70⟩, trivial⟩
noncomputable def b20 : Code := bodyOf Tryz.f20
theorem hb20 : Tryz.f20.body = some b20 := by kernel_rfl
def sig20 : List AT := [AT.v (Ty.sl YA5), AT.v (Ty.int .i64)]
def tys20 : List Ty := [Ty.int .i64]
def kds20 : List RK := []
def oks20 : List AT := owns sig20
def E20_5 (v1 : Int) (v5 : Int) (x0 : List TyB1) : Env := [(0, PV.a (Atom.sl YA5 x0)), (1, PV.a (Atom.val (Value.int .i64 v1))), (5, PV.a (Atom.val (Value.int .i64 v5)))]
def L20_5 (v1 : Int) (v5 : Int) (x0 : List TyB1) : Heap := []
mutual
def R20 : Nat → List TyB1 → Int → List Dyn → Prop
  | 0, _, _, _ => False
  | n + 1, x0, x1, ds => ((InR .i64 (x1 - (↑(List.length x0) : Int))) ∧ (if (decide (x1 - (↑(List.length x0) : Int) < 0)) = true then (ds = [Dyn.mk (Ty.int .i64) (-1)]) else (R20_5 n (x1 - (↑(List.length x0) : Int)) (0) (x0) ds)))
def R20_5 : Nat → Int → Int → List TyB1 → List Dyn → Prop
  | 0, _, _, _, _ => False
  | n + 1, v1, v5, x0, ds => (if (decide (v5 < (↑(List.length x0) : Int))) = true then ((0 ≤ v5) ∧ (v5 < (↑(List.length x0) : Int)) ∧ ((P70 (List.getD x0 (Int.toNat v5) (ByteArray.empty, 0, 0, ())) v1) ∧ (if (decide (g70_0 (List.getD x0 (Int.toNat v5) (ByteArray.empty, 0, 0, ())) v1 < 0)) = true then (ds = [Dyn.mk (Ty.int .i64) (-1)]) else ((InR .i64 (v5 + 1)) ∧ (R20_5 n (g70_0 (List.getD x0 (Int.toNat v5) (ByteArray.empty, 0, 0, ())) v1) (v5 + 1) (x0) ds))))) else (ds = [Dyn.mk (Ty.int .i64) v1]))
end
theorem snd20 : ∀ n, (∀ (x0 : List TyB1) (x1 : Int) ds, R20 n x0 x1 ds → ∀ K q, AtV Tryz.prog 20 (PostR kds20 oks20 ds [] [] q K) 27 K q [] [.code b20] (entE 0 0 sig20 (x0, x1, ())) (entL sig20 (x0, x1, ()))) ∧ (∀ (v1 : Int) (v5 : Int) (x0 : List TyB1) ds, R20_5 n v1 v5 x0 ds → ∀ K q, AtV Tryz.prog 20 (PostR kds20 oks20 ds [] [] q K) 27 K q [] (cutAt b20 5) (E20_5 v1 v5 x0) (L20_5 v1 v5 x0)) := by
  intro n
  induction n with
  | zero => exact ⟨fun _ _ _ h => by simp only [R20] at h, fun _ _ _ _ h => by simp only [R20_5] at h⟩
  | succ n ih =>
  obtain ⟨ih, ih5⟩ := ih
  refine ⟨?_, ?_⟩
  · intro x0 x1 ds h K q
    rw [R20] at h
    obtain ⟨s0, h⟩ := h
    by_cases b0 : (decide (x1 - (↑(List.length x0) : Int) < 0)) = true
    · rw [if_pos b0] at h
      subst h
      exact AtV.ret Tryz.func20 tabOk ext20Ok mixed false [] tys20 [true] (a1 s0 (a1 b0 trivial)) (by kernel_rfl)
    · rw [if_neg b0] at h
      replace b0 := Bool.eq_false_iff.2 b0
      exact AtV.go tabOk ext20Ok mixed false [] [] [0, 1, 5] [] [false] (a1 s0 (a1 b0 trivial)) (ih5 _ _ _ _ h K q) (by kernel_rfl)
  · intro v1 v5 x0 ds h K q
    rw [R20_5] at h
    by_cases b0 : (decide (v5 < (↑(List.length x0) : Int))) = true
    · rw [if_pos b0] at h
      obtain ⟨s0, s1, h⟩ := h
      obtain ⟨s2, h⟩ := h
      by_cases b1 : (decide (g70_0 (List.getD x0 (Int.toNat v5) (ByteArray.empty, 0, 0, ())) v1 < 0)) = true
      · rw [if_pos b1] at h
        subst h
        exact AtV.ret Tryz.func20 tabOk ext20Ok mixed false [] tys20 [true, true] (a1 b0 (a1 s0 (a1 s1 (a1 s2 (a1 b1 trivial))))) (by kernel_rfl)
      · rw [if_neg b1] at h
        replace b1 := Bool.eq_false_iff.2 b1
        obtain ⟨s3, h⟩ := h
        exact AtV.go tabOk ext20Ok mixed false [] [] [0, 1, 5] [] [true, false] (a1 b0 (a1 s0 (a1 s1 (a1 s2 (a1 b1 (a1 s3 trivial)))))) (ih5 _ _ _ _ h K q) (by kernel_rfl)
    · rw [if_neg b0] at h
      replace b0 := Bool.eq_false_iff.2 b0
      subst h
      exact AtV.ret Tryz.func20 tabOk ext20Ok mixed false [] tys20 [false] (a1 b0 trivial) (by kernel_rfl)
def szL20 : List TyB1 → Int → Int
  | [], l => l
  | x :: r, l => if g70_0 x l < 0 then -1 else szL20 r (g70_0 x l)
theorem szL20_ok : ∀ (x0 : List TyB1) (l : Int), 0 ≤ l → InR .i64 l → (∀ x ∈ x0, Wf (.cons .str (.cons (.int .i64) (.cons (.int .i64) .unit))) x) → szL20 x0 l ≤ l
  | [], l, _, _, _ => Int.le_refl _
  | x :: r, l, h, hi, hw => by
    obtain ⟨_, h2, h3⟩ := sz70 x l h hi (hw x (List.mem_cons_self ..))
    simp only [szL20]
    rw [i64_iff] at hi
    split
    · omega
    · have := szL20_ok r (g70_0 x l) (by omega) (by rw [i64_iff]; omega) (fun y hy => hw y (List.mem_cons_of_mem _ hy))
      omega
theorem run20 (x0 : List TyB1) (hm : x0.length ≤ maxLen) (hw : ∀ x ∈ x0, Wf (.cons .str (.cons (.int .i64) (.cons (.int .i64) .unit))) x) : ∀ (k i : Nat) (l : Int), i + k = x0.length → 0 ≤ l → InR .i64 l →
    R20_5 (k + 1) l (i : Int) x0 [⟨.int .i64, szL20 (x0.drop i) l⟩] := by
  intro k
  induction k with
  | zero =>
    intro i l hi _ _
    rw [R20_5, if_neg (by simp; omega), drop_end x0 i (by omega)]
    rfl
  | succ k ih =>
    intro i l hi h0 hl
    rw [R20_5, if_pos (by simp; omega)]
    simp only [Int.toNat_natCast]
    have hmem : x0.getD i (ByteArray.empty, (0 : Int), (0 : Int), ()) ∈ x0 := by rw [getD_lt _ _ _ (by omega)]; exact List.getElem_mem _
    obtain ⟨h1, h2, h3⟩ := sz70 _ l h0 hl (hw _ hmem)
    refine ⟨by omega, by omega, h1, ?_⟩
    rw [drop_get x0 i (ByteArray.empty, (0 : Int), (0 : Int), ()) (by omega)]
    simp only [szL20]
    have hl' := hl
    rw [i64_iff] at hl'
    by_cases hn : g70_0 (x0.getD i (ByteArray.empty, (0 : Int), (0 : Int), ())) l < 0
    · rw [if_pos (by simpa using hn), if_pos hn]
    · rw [if_neg (by simpa using hn), if_neg hn]
      exact ⟨inR_up hm (by omega), ih (i + 1) _ (by omega) (by omega) (by rw [i64_iff]; omega)⟩
def g20_0 (x0 : List TyB1) (x1 : Int) : Int := if x1 - x0.length < 0 then -1 else szL20 x0 (x1 - x0.length)
def P20 (x0 : List TyB1) (x1 : Int) : Prop := 0 ≤ x1
theorem g20_le (x0 : List TyB1) (x1 : Int) (h : 0 ≤ x1) (hi : InR .i64 x1) (hw : Wf (.sl (.cons .str (.cons (.int .i64) (.cons (.int .i64) .unit)))) x0) (hg : ¬ g20_0 x0 x1 < 0) : g20_0 x0 x1 ≤ x1 - x0.length := by
  unfold g20_0 at hg ⊢
  rw [i64_iff] at hi
  split
  · rename_i h1
    rw [if_pos h1] at hg
    omega
  · exact szL20_ok x0 _ (by omega) (by rw [i64_iff]; omega) hw.2
theorem top20 (x0 : List TyB1) (x1 : Int) (hw : Wf (.sl (.cons .str (.cons (.int .i64) (.cons (.int .i64) .unit)))) x0) (hi : InR .i64 x1) (h : 0 ≤ x1) : R20 (x0.length + 1 + 1) x0 x1 [⟨Ty.int .i64, g20_0 x0 x1⟩] := by
  have hm : x0.length ≤ maxLen := hw.1
  have hm' : x0.length ≤ 9223372036854775807 := hm
  rw [i64_iff] at hi
  rw [R20]
  refine ⟨by rw [i64_iff]; omega, ?_⟩
  unfold g20_0
  by_cases hn : x1 - (x0.length : Int) < 0
  · rw [if_pos (by simpa using hn), if_pos hn]
  · rw [if_neg (by simpa using hn), if_neg hn]
    have := run20 x0 hm hw.2 x0.length 0 (x1 - x0.length) (by omega) (by omega) (by rw [i64_iff]; omega)
    simpa using this
def S20 : Am.Spec := { sig := sig20, pre := fun ⟨x0, x1, _⟩ => P20 x0 x1, res := fun ⟨x0, x1, _⟩ => [⟨Ty.int .i64, g20_0 x0 x1⟩] }
theorem con20 : Contract Tryz.prog 20 S20 := contract_of Tryz.func20 hb20 (Nat.le_of_ble_eq_true (by kernel_rfl)) (fun ⟨x0, x1, _⟩ h hwf K q =>
  (snd20 _).1 x0 x1 _ (top20 x0 x1 hwf.1 hwf.2.1 h) K q)
end
noncomputable section
def ext4 : Ext := [(13, S13), (14, S14), (15, S15), (16, S16), (17, S17), (18, S18), (19, S19), (20, S20)]
theorem ext4Ok : ExtOk Tryz.prog ext4 := ⟨⟨ca13, con13⟩, ⟨ca14, con14⟩, ⟨ca15, con15⟩, ⟨ca16, con16⟩, ⟨ca17, con17⟩, ⟨ca18, con18⟩, ⟨ca19, con19⟩, ⟨ca20, con20⟩, trivial⟩
noncomputable def b4 : Code := bodyOf Tryz.f4
theorem hb4 : Tryz.f4.body = some b4 := by kernel_rfl
def sig4 : List AT := [AT.v YA0, AT.v (Ty.int .i64)]
def tys4 : List Ty := [Ty.int .i64]
def kds4 : List RK := []
def oks4 : List AT := owns sig4
def P4 (x0 : TyA0) (x1 : Int) : Prop := ((P13 x0.1 x1) ∧ (if (decide (g13_0 x0.1 x1 < 0)) = true then True else ((P14 x0.2.2.1 (g13_0 x0.1 x1)) ∧ (if (decide (g14_0 x0.2.2.1 (g13_0 x0.1 x1) < 0)) = true then True else ((P15 x0.2.2.2.1 (g14_0 x0.2.2.1 (g13_0 x0.1 x1))) ∧ (if (decide (g15_0 x0.2.2.2.1 (g14_0 x0.2.2.1 (g13_0 x0.1 x1)) < 0)) = true then True else ((P16 x0.2.2.2.2.2.2.1 (g15_0 x0.2.2.2.1 (g14_0 x0.2.2.1 (g13_0 x0.1 x1)))) ∧ (if (decide (g16_0 x0.2.2.2.2.2.2.1 (g15_0 x0.2.2.2.1 (g14_0 x0.2.2.1 (g13_0 x0.1 x1))) < 0)) = true then True else ((P17 x0.2.2.2.2.2.2.2.2.1 (g16_0 x0.2.2.2.2.2.2.1 (g15_0 x0.2.2.2.1 (g14_0 x0.2.2.1 (g13_0 x0.1 x1))))) ∧ (if (decide (g17_0 x0.2.2.2.2.2.2.2.2.1 (g16_0 x0.2.2.2.2.2.2.1 (g15_0 x0.2.2.2.1 (g14_0 x0.2.2.1 (g13_0 x0.1 x1)))) < 0)) = true then True else ((P18 x0.2.2.2.2.2.2.2.2.2.1 (g17_0 x0.2.2.2.2.2.2.2.2.1 (g16_0 x0.2.2.2.2.2.2.1 (g15_0 x0.2.2.2.1 (g14_0 x0.2.2.1 (g13_0 x0.1 x1)))))) ∧ (if (decide (g18_0 x0.2.2.2.2.2.2.2.2.2.1 (g17_0 x0.2.2.2.2.2.2.2.2.1 (g16_0 x0.2.2.2.2.2.2.1 (g15_0 x0.2.2.2.1 (g14_0 x0.2.2.1 (g13_0 x0.1 x1))))) < 0)) = true then True else ((P19 x0.2.2.2.2.2.2.2.2.2.2.1 (g18_0 x0.2.2.2.2.2.2.2.2.2.1 (g17_0 x0.2.2.2.2.2.2.2.2.1 (g16_0 x0.2.2.2.2.2.2.1 (g15_0 x0.2.2.2.1 (g14_0 x0.2.2.1 (g13_0 x0.1 x1))))))) ∧ (if (decide (g19_0 x0.2.2.2.2.2.2.2.2.2.2.1 (g18_0 x0.2.2.2.2.2.2.2.2.2.1 (g17_0 x0.2.2.2.2.2.2.2.2.1 (g16_0 x0.2.2.2.2.2.2.1 (g15_0 x0.2.2.2.1 (g14_0 x0.2.2.1 (g13_0 x0.1 x1)))))) < 0)) = true then True else ((P20 x0.2.2.2.2.2.2.2.2.2.2.2.1 (g19_0 x0.2.2.2.2.2.2.2.2.2.2.1 (g18_0 x0.2.2.2.2.2.2.2.2.2.1 (g17_0 x0.2.2.2.2.2.2.2.2.1 (g16_0 x0.2.2.2.2.2.2.1 (g15_0 x0.2.2.2.1 (g14_0 x0.2.2.1 (g13_0 x0.1 x1)))))))) ∧ True)))))))))))))))
def g4_0 (x0 : TyA0) (x1 : Int) : Int := (if (decide (g13_0 x0.1 x1 < 0)) = true then -1 else (if (decide (g14_0 x0.2.2.1 (g13_0 x0.1 x1) < 0)) = true then -1 else (if (decide (g15_0 x0.2.2.2.1 (g14_0 x0.2.2.1 (g13_0 x0.1 x1)) < 0)) = true then -1 else (if (decide (g16_0 x0.2.2.2.2.2.2.1 (g15_0 x0.2.2.2.1 (g14_0 x0.2.2.1 (g13_0 x0.1 x1))) < 0)) = true then -1 else (if (decide (g17_0 x0.2.2.2.2.2.2.2.2.1 (g16_0 x0.2.2.2.2.2.2.1 (g15_0 x0.2.2.2.1 (g14_0 x0.2.2.1 (g13_0 x0.1 x1)))) < 0)) = true then -1 else (if (decide (g18_0 x0.2.2.2.2.2.2.2.2.2.1 (g17_0 x0.2.2.2.2.2.2.2.2.1 (g16_0 x0.2.2.2.2.2.2.1 (g15_0 x0.2.2.2.1 (g14_0 x0.2.2.1 (g13_0 x0.1 x1))))) < 0)) = true then -1 else (if (decide (g19_0 x0.2.2.2.2.2.2.2.2.2.2.1 (g18_0 x0.2.2.2.2.2.2.2.2.2.1 (g17_0 x0.2.2.2.2.2.2.2.2.1 (g16_0 x0.2.2.2.2.2.2.1 (g15_0 x0.2.2.2.1 (g14_0 x0.2.2.1 (g13_0 x0.1 x1)))))) < 0)) = true then -1 else (if (decide (g20_0 x0.2.2.2.2.2.2.2.2.2.2.2.1 (g19_0 x0.2.2.2.2.2.2.2.2.2.2.1 (g18_0 x0.2.2.2.2.2.2.2.2.2.1 (g17_0 x0.2.2.2.2.2.2.2.2.1 (g16_0 x0.2.2.2.2.2.2.1 (g15_0 x0.2.2.2.1 (g14_0 x0.2.2.1 (g13_0 x0.1 x1))))))) < 0)) = true then -1 else g20_0 x0.2.2.2.2.2.2.2.2.2.2.2.1 (g19_0 x0.2.2.2.2.2.2.2.2.2.2.1 (g18_0 x0.2.2.2.2.2.2.2.2.2.1 (g17_0 x0.2.2.2.2.2.2.2.2.1 (g16_0 x0.2.2.2.2.2.2.1 (g15_0 x0.2.2.2.1 (g14_0 x0.2.2.1 (g13_0 x0.1 x1)))))))))))))))
theorem at4 (x0 : TyA0) (x1 : Int) (h : P4 x0 x1) (K : Ctx) (q : Nat → Value) : AtV Tryz.prog 4 (PostR kds4 oks4 [⟨Ty.int .i64, g4_0 x0 x1⟩] [] [] q K) 54 K q [] [.code b4] (entE 0 0 sig4 (x0, x1, ())) (entL sig4 (x0, x1, ())) := by
  unfold P4 at h
  unfold g4_0
  obtain ⟨s0, h⟩ := h
  by_cases b0 : (decide (g13_0 x0.1 x1 < 0)) = true
  · try simp only [if_pos b0] at h ⊢
    exact AtV.ret Tryz.func4 tabOk ext4Ok mixed false [] tys4 [true] (a1 s0 (a1 b0 trivial)) (by kernel_rfl)
  · try simp only [if_neg b0] at h ⊢
    replace b0 := Bool.eq_false_iff.2 b0
    obtain ⟨s1, h⟩ := h
    by_cases b1 : (decide (g14_0 x0.2.2.1 (g13_0 x0.1 x1) < 0)) = true
    · try simp only [if_pos b1] at h ⊢
      exact AtV.ret Tryz.func4 tabOk ext4Ok mixed false [] tys4 [false, true] (a1 s0 (a1 b0 (a1 s1 (a1 b1 trivial)))) (by kernel_rfl)
    · try simp only [if_neg b1] at h ⊢
      replace b1 := Bool.eq_false_iff.2 b1
      obtain ⟨s2, h⟩ := h
      by_cases b2 : (decide (g15_0 x0.2.2.2.1 (g14_0 x0.2.2.1 (g13_0 x0.1 x1)) < 0)) = true
      · try simp only [if_pos b2] at h ⊢
        exact AtV.ret Tryz.func4 tabOk ext4Ok mixed false [] tys4 [false, false, true] (a1 s0 (a1 b0 (a1 s1 (a1 b1 (a1 s2 (a1 b2 trivial)))))) (by kernel_rfl)
      · try simp only [if_neg b2] at h ⊢
        replace b2 := Bool.eq_false_iff.2 b2
        obtain ⟨s3, h⟩ := h
        by_cases b3 : (decide (g16_0 x0.2.2.2.2.2.2.1 (g15_0 x0.2.2.2.1 (g14_0 x0.2.2.1 (g13_0 x0.1 x1))) < 0)) = true
        · try simp only [if_pos b3] at h ⊢
          exact AtV.ret Tryz.func4 tabOk ext4Ok mixed false [] tys4 [false, false, false, true] (a1 s0 (a1 b0 (a1 s1 (a1 b1 (a1 s2 (a1 b2 (a1 s3 (a1 b3 trivial)))))))) (by kernel_rfl)
        · try simp only [if_neg b3] at h ⊢
          replace b3 := Bool.eq_false_iff.2 b3
          obtain ⟨s4, h⟩ := h
          by_cases b4 : (decide (g17_0 x0.2.2.2.2.2.2.2.2.1 (g16_0 x0.2.2.2.2.2.2.1 (g15_0 x0.2.2.2.1 (g14_0 x0.2.2.1 (g13_0 x0.1 x1)))) < 0)) = true
          · try simp only [if_pos b4] at h ⊢
            exact AtV.ret Tryz.func4 tabOk ext4Ok mixed false [] tys4 [false, false, false, false, true] (a1 s0 (a1 b0 (a1 s1 (a1 b1 (a1 s2 (a1 b2 (a1 s3 (a1 b3 (a1 s4 (a1 b4 trivial)))))))))) (by kernel_rfl)
          · try simp only [if_neg b4] at h ⊢
            replace b4 := Bool.eq_false_iff.2 b4
            obtain ⟨s5, h⟩ := h
            by_cases b5 : (decide (g18_0 x0.2.2.2.2.2.2.2.2.2.1 (g17_0 x0.2.2.2.2.2.2.2.2.1 (g16_0 x0.2.2.2.2.2.2.1 (g15_0 x0.2.2.2.1 (g14_0 x0.2.2.1 (g13_0 x0.1 x1))))) < 0)) = true
            · try simp only [if_pos b5] at h ⊢
              exact AtV.ret Tryz.func4 tabOk ext4Ok mixed false [] tys4 [false, false, false, false, false, true] (a1 s0 (a1 b0 (a1 s1 (a1 b1 (a1 s2 (a1 b2 (a1 s3 (a1 b3 (a1 s4 (a1 b4 (a1 s5 (a1 b5 trivial)))))))))))) (by kernel_rfl)
            · try simp only [if_neg b5] at h ⊢
              replace b5 := Bool.eq_false_iff.2 b5
              obtain ⟨s6, h⟩ := h
              by_cases b6 : (decide (g19_0 x0.2.2.2.2.2.2.2.2.2.2.1 (g18_0 x0.2.2.2.2.2.2.2.2.2.1 (g17_0 x0.2.2.2.2.2.2.2.2.1 (g16_0 x0.2.2.2.2.2.2.1 (g15_0 x0.2.2.2.1 (g14_0 x0.2.2.1 (g13_0 x0.1 x1)))))) < 0)) = true
              · try simp only [if_pos b6] at h ⊢
                exact AtV.ret Tryz.func4 tabOk ext4Ok mixed false [] tys4 [false, false, false, false, false, false, true] (a1 s0 (a1 b0 (a1 s1 (a1 b1 (a1 s2 (a1 b2 (a1 s3 (a1 b3 (a1 s4 (a1 b4 (a1 s5 (a1 b5 (a1 s6 (a1 b6 trivial)))))))))))))) (by kernel_rfl)
              · try simp only [if_neg b6] at h ⊢
                replace b6 := Bool.eq_false_iff.2 b6
                obtain ⟨s7, h⟩ := h
                by_cases b7 : (decide (g20_0 x0.2.2.2.2.2.2.2.2.2.2.2.1 (g19_0 x0.2.2.2.2.2.2.2.2.2.2.1 (g18_0 x0.2.2.2.2.2.2.2.2.2.1 (g17_0 x0.2.2.2.2.2.2.2.2.1 (g16_0 x0.2.2.2.2.2.2.1 (g15_0 x0.2.2.2.1 (g14_0 x0.2.2.1 (g13_0 x0.1 x1))))))) < 0)) = true
                · try simp only [if_pos b7] at h ⊢
                  exact AtV.ret Tryz.func4 tabOk ext4Ok mixed false [] tys4 [false, false, false, false, false, false, false, true] (a1 s0 (a1 b0 (a1 s1 (a1 b1 (a1 s2 (a1 b2 (a1 s3 (a1 b3 (a1 s4 (a1 b4 (a1 s5 (a1 b5 (a1 s6 (a1 b6 (a1 s7 (a1 b7 trivial)))))))))))))))) (by kernel_rfl)
                · try simp only [if_neg b7] at h ⊢
                  replace b7 := Bool.eq_false_iff.2 b7
                  exact AtV.ret Tryz.func4 tabOk ext4Ok mixed false [] tys4 [false, false, false, false, false, false, false, false] (a1 s0 (a1 b0 (a1 s1 (a1 b1 (a1 s2 (a1 b2 (a1 s3 (a1 b3 (a1 s4 (a1 b4 (a1 s5 (a1 b5 (a1 s6 (a1 b6 (a1 s7 (a1 b7 trivial)))))))))))))))) (by kernel_rfl)
def S4 : Am.Spec := { sig := sig4, pre := fun ⟨x0, x1, _⟩ => P4 x0 x1, res := fun ⟨x0, x1, _⟩ => [⟨Ty.int .i64, g4_0 x0 x1⟩], kds := kds4 }
theorem con4 : Contract Tryz.prog 4 S4 := contract_of Tryz.func4 hb4 (Nat.le_of_ble_eq_true (by kernel_rfl)) (fun ⟨x0, x1, _⟩ h _ K q => at4 x0 x1 h K q)
end
noncomputable section
def ext83 : Ext := []
theorem ext83Ok : ExtOk Tryz.prog ext83 := trivial
noncomputable def b83 : Code := bodyOf Tryz.f83
theorem hb83 : Tryz.f83.body = some b83 := by kernel_rfl
def sig83 : List AT := [AT.v YA3]
def tys83 : List Ty := [Ty.cons Ty.str YA4]
def kds83 : List RK := []
def oks83 : List AT := owns sig83
def P83 (x0 : ByteArray × Int × Int × Int × Unit) : Prop := True
def g83_0 (x0 : ByteArray × Int × Int × Int × Unit) : ByteArray × Int × Int × Int × Unit := (x0.1, x0.2.1, x0.2.2.1, x0.2.2.2.1, ())
theorem at83 (x0 : ByteArray × Int × Int × Int × Unit) (h : P83 x0) (K : Ctx) (q : Nat → Value) : AtV Tryz.prog 83 (PostR kds83 oks83 [⟨Ty.cons Ty.str YA4, g83_0 x0⟩] [] [] q K) 17 K q [] [.code b83] (entE 0 0 sig83 (x0, ())) (entL sig83 (x0, ())) := by
  unfold P83 at h
  unfold g83_0
  exact AtV.ret Tryz.func83 tabOk ext83Ok mixed false [] tys83 [] trivial (by kernel_rfl)
def S83 : Am.Spec := { sig := sig83, pre := fun ⟨x0, _⟩ => P83 x0, res := fun ⟨x0, _⟩ => [⟨Ty.cons Ty.str YA4, g83_0 x0⟩], kds := kds83 }
theorem con83 : Contract Tryz.prog 83 S83 := contract_of Tryz.func83 hb83 (Nat.le_of_ble_eq_true (by kernel_rfl)) (fun ⟨x0, _⟩ h _ K q => at83 x0 h K q)
end
noncomputable section
def ext23 : Ext := [(83, S83)]
theorem ext23Ok : ExtOk Tryz.prog ext23 := ⟨⟨ca83, con83⟩, trivial⟩
noncomputable def b23 : Code := bodyOf Tryz.f23
theorem hb23 : Tryz.f23.body = some b23 := by kernel_rfl
def sig23 : List AT := [AT.v (Ty.sl YA3)]
def tys23 : List Ty := [Ty.sl YA3]
def kds23 : List RK := []
def oks23 : List AT := owns sig23
def E23_3 (v4 : Int) (h0 : List TyB0) (x0 : List TyB0) : Env := [(0, PV.a (Atom.sl YA3 x0)), (3, PV.a (Atom.osl 0 Option.none)), (4, PV.a (Atom.val (Value.int .i64 v4)))]
def L23_3 (v4 : Int) (h0 : List TyB0) (x0 : List TyB0) : Heap := [Option.some (Arr.mk YA3 h0 false Option.none Option.none)]
mutual
def R23 : Nat → List TyB0 → List Dyn → Prop
  | 0, _, _ => False
  | n + 1, x0, ds => ((0 ≤ (↑(List.length x0) : Int)) ∧ ((↑(List.length x0) : Int) ≤ (↑(List.length x0) : Int)) ∧ (40 * (↑(List.length x0) : Int) ≤ 281474976710656) ∧ (R23_3 n (0) (List.replicate (Int.toNat (↑(List.length x0) : Int)) (ByteArray.empty, 0, 0, 0, ())) (x0) ds))
def R23_3 : Nat → Int → List TyB0 → List TyB0 → List Dyn → Prop
  | 0, _, _, _, _ => False
  | n + 1, v4, h0, x0, ds => (if (decide (v4 < (↑(List.length x0) : Int))) = true then ((0 ≤ v4) ∧ (v4 < (↑(List.length x0) : Int)) ∧ ((0 ≤ v4) ∧ (v4 < (↑(List.length h0) : Int)) ∧ ((InR .i64 (v4 + 1)) ∧ (R23_3 n (v4 + 1) (List.set h0 (Int.toNat v4) ((List.getD x0 (Int.toNat v4) (ByteArray.empty, 0, 0, 0, ())).1, (List.getD x0 (Int.toNat v4) (ByteArray.empty, 0, 0, 0, ())).2.1, (List.getD x0 (Int.toNat v4) (ByteArray.empty, 0, 0, 0, ())).2.2.1, (List.getD x0 (Int.toNat v4) (ByteArray.empty, 0, 0, 0, ())).2.2.2.1, ())) (x0) ds)))) else (ds = [Dyn.mk (Ty.sl YA3) h0]))
end
theorem snd23 : ∀ n, (∀ (x0 : List TyB0) ds, R23 n x0 ds → ∀ K q, AtV Tryz.prog 23 (PostR kds23 oks23 ds [] [] q K) 23 K q [] [.code b23] (entE 0 0 sig23 (x0, ())) (entL sig23 (x0, ()))) ∧ (∀ (v4 : Int) (h0 : List TyB0) (x0 : List TyB0) ds, R23_3 n v4 h0 x0 ds → ∀ K q, AtV Tryz.prog 23 (PostR kds23 oks23 ds [] [] q K) 23 K q [] (cutAt b23 3) (E23_3 v4 h0 x0) (L23_3 v4 h0 x0)) := by
  intro n
  induction n with
  | zero => exact ⟨fun _ _ h => by simp only [R23] at h, fun _ _ _ _ h => by simp only [R23_3] at h⟩
  | succ n ih =>
  obtain ⟨ih, ih3⟩ := ih
  refine ⟨?_, ?_⟩
  · intro x0 ds h K q
    rw [R23] at h
    obtain ⟨s0, s1, s2, h⟩ := h
    exact AtV.go tabOk ext23Ok mixed false [] [] [0, 3, 4] [0] [] (a1 s0 (a1 s1 (a1 s2 trivial))) (ih3 _ _ _ _ h K q) (by kernel_rfl)
  · intro v4 h0 x0 ds h K q
    rw [R23_3] at h
    by_cases b0 : (decide (v4 < (↑(List.length x0) : Int))) = true
    · rw [if_pos b0] at h
      obtain ⟨s0, s1, h⟩ := h
      obtain ⟨s2, s3, h⟩ := h
      obtain ⟨s4, h⟩ := h
      exact AtV.go tabOk ext23Ok mixed false [] [] [0, 3, 4] [0] [true] (a1 b0 (a1 s0 (a1 s1 (a1 trivial (a1 s2 (a1 s3 (a1 s4 trivial))))))) (ih3 _ _ _ _ h K q) (by kernel_rfl)
    · rw [if_neg b0] at h
      replace b0 := Bool.eq_false_iff.2 b0
      subst h
      exact AtV.ret Tryz.func23 tabOk ext23Ok mixed false [] tys23 [false] (a1 b0 trivial) (by kernel_rfl)
theorem run23 (x0 : List TyB0) (hm : x0.length ≤ maxLen) : ∀ (k i : Nat), i + k = x0.length →
    R23_3 (k + 1) (i : Int) (x0.take i ++ List.replicate k (ByteArray.empty, (0 : Int), (0 : Int), (0 : Int), ())) x0 [⟨.sl (.cons .str (.cons (.int .i64) (.cons (.int .i64) (.cons (.int .i64) .unit)))), x0⟩] := by
  intro k
  induction k with
  | zero =>
    intro i hi
    rw [R23_3, if_neg (by simp; omega), List.take_of_length_le (by omega)]
    simp
  | succ k ih =>
    intro i hi
    rw [R23_3, if_pos (by simp; omega)]
    simp only [Int.toNat_natCast]
    refine ⟨by omega, by omega, by omega, by simp; omega, inR_up hm (by omega), ?_⟩
    have hs := set_step x0 (ByteArray.empty, (0 : Int), (0 : Int), (0 : Int), ()) i (by omega) (k + 1) (by omega)
    have he : ∀ y : TyB0, (y.1, y.2.1, y.2.2.1, y.2.2.2.1, ()) = y := fun _ => rfl
    rw [he, hs]
    exact ih (i + 1) (by omega)
def g23_0 (x0 : List TyB0) : List TyB0 := x0
def P23 (x0 : List TyB0) : Prop := 40 * (x0.length : Int) ≤ 281474976710656
def S23 : Am.Spec := { sig := sig23, pre := fun ⟨x0, _⟩ => P23 x0, res := fun ⟨x0, _⟩ => [⟨.sl (.cons .str (.cons (.int .i64) (.cons (.int .i64) (.cons (.int .i64) .unit)))), g23_0 x0⟩] }
theorem con23 : Contract Tryz.prog 23 S23 := contract_of Tryz.func23 hb23 (Nat.le_of_ble_eq_true (by kernel_rfl)) (fun ⟨x0, _⟩ h hwf K q => by
  refine (snd23 (x0.length + 2)).1 x0 _ ?_ K q
  show R23 (x0.length + 1 + 1) x0 [⟨.sl (.cons .str (.cons (.int .i64) (.cons (.int .i64) (.cons (.int .i64) .unit)))), x0⟩]
  rw [R23]
  refine ⟨by omega, by omega, h, ?_⟩
  have := run23 x0 hwf.1.1 x0.length 0 (by omega)
  simpa using this)
end
noncomputable section
def ext24 : Ext := []
theorem ext24Ok : ExtOk Tryz.prog ext24 := trivial
noncomputable def b24 : Code := bodyOf Tryz.f24
theorem hb24 : Tryz.f24.body = some b24 := by kernel_rfl
def sig24 : List AT := [AT.v YA2]
def tys24 : List Ty := [Ty.cons (Ty.int .i64) YA4]
def kds24 : List RK := []
def oks24 : List AT := owns sig24
def P24 (x0 : Int × Int × Int × Int × Unit) : Prop := True
def g24_0 (x0 : Int × Int × Int × Int × Unit) : Int × Int × Int × Int × Unit := (x0.1, x0.2.1, x0.2.2.1, x0.2.2.2.1, ())
theorem at24 (x0 : Int × Int × Int × Int × Unit) (h : P24 x0) (K : Ctx) (q : Nat → Value) : AtV Tryz.prog 24 (PostR kds24 oks24 [⟨Ty.cons (Ty.int .i64) YA4, g24_0 x0⟩] [] [] q K) 17 K q [] [.code b24] (entE 0 0 sig24 (x0, ())) (entL sig24 (x0, ())) := by
  unfold P24 at h
  unfold g24_0
  exact AtV.ret Tryz.func24 tabOk ext24Ok mixed false [] tys24 [] trivial (by kernel_rfl)
def S24 : Am.Spec := { sig := sig24, pre := fun ⟨x0, _⟩ => P24 x0, res := fun ⟨x0, _⟩ => [⟨Ty.cons (Ty.int .i64) YA4, g24_0 x0⟩], kds := kds24 }
theorem con24 : Contract Tryz.prog 24 S24 := contract_of Tryz.func24 hb24 (Nat.le_of_ble_eq_true (by kernel_rfl)) (fun ⟨x0, _⟩ h _ K q => at24 x0 h K q)
end
noncomputable section
def ext84 : Ext := []
theorem ext84Ok : ExtOk Tryz.prog ext84 := trivial
noncomputable def b84 : Code := bodyOf Tryz.f84
theorem hb84 : Tryz.f84.body = some b84 := by kernel_rfl
def sig84 : List AT := [AT.v YA4]
def tys84 : List Ty := [Ty.cons (Ty.int .i64) YA6]
def kds84 : List RK := []
def oks84 : List AT := owns sig84
def P84 (x0 : Int × Int × Int × Unit) : Prop := True
def g84_0 (x0 : Int × Int × Int × Unit) : Int × Int × Int × Unit := (x0.1, x0.2.1, x0.2.2.1, ())
theorem at84 (x0 : Int × Int × Int × Unit) (h : P84 x0) (K : Ctx) (q : Nat → Value) : AtV Tryz.prog 84 (PostR kds84 oks84 [⟨Ty.cons (Ty.int .i64) YA6, g84_0 x0⟩] [] [] q K) 14 K q [] [.code b84] (entE 0 0 sig84 (x0, ())) (entL sig84 (x0, ())) := by
  unfold P84 at h
  unfold g84_0
  exact AtV.ret Tryz.func84 tabOk ext84Ok mixed false [] tys84 [] trivial (by kernel_rfl)
def S84 : Am.Spec := { sig := sig84, pre := fun ⟨x0, _⟩ => P84 x0, res := fun ⟨x0, _⟩ => [⟨Ty.cons (Ty.int .i64) YA6, g84_0 x0⟩], kds := kds84 }
theorem con84 : Contract Tryz.prog 84 S84 := contract_of Tryz.func84 hb84 (Nat.le_of_ble_eq_true (by kernel_rfl)) (fun ⟨x0, _⟩ h _ K q => at84 x0 h K q)
end
noncomputable section
def ext25 : Ext := [(84, S84)]
theorem ext25Ok : ExtOk Tryz.prog ext25 := ⟨⟨ca84, con84⟩, trivial⟩
noncomputable def b25 : Code := bodyOf Tryz.f25
theorem hb25 : Tryz.f25.body = some b25 := by kernel_rfl
def sig25 : List AT := [AT.v (Ty.sl YA4)]
def tys25 : List Ty := [Ty.sl YA4]
def kds25 : List RK := []
def oks25 : List AT := owns sig25
def E25_3 (v4 : Int) (h0 : List TyB2) (x0 : List TyB2) : Env := [(0, PV.a (Atom.sl YA4 x0)), (3, PV.a (Atom.osl 0 Option.none)), (4, PV.a (Atom.val (Value.int .i64 v4)))]
def L25_3 (v4 : Int) (h0 : List TyB2) (x0 : List TyB2) : Heap := [Option.some (Arr.mk YA4 h0 false Option.none Option.none)]
mutual
def R25 : Nat → List TyB2 → List Dyn → Prop
  | 0, _, _ => False
  | n + 1, x0, ds => ((0 ≤ (↑(List.length x0) : Int)) ∧ ((↑(List.length x0) : Int) ≤ (↑(List.length x0) : Int)) ∧ (24 * (↑(List.length x0) : Int) ≤ 281474976710656) ∧ (R25_3 n (0) (List.replicate (Int.toNat (↑(List.length x0) : Int)) (0, 0, 0, ())) (x0) ds))
def R25_3 : Nat → Int → List TyB2 → List TyB2 → List Dyn → Prop
  | 0, _, _, _, _ => False
  | n + 1, v4, h0, x0, ds => (if (decide (v4 < (↑(List.length x0) : Int))) = true then ((0 ≤ v4) ∧ (v4 < (↑(List.length x0) : Int)) ∧ ((0 ≤ v4) ∧ (v4 < (↑(List.length h0) : Int)) ∧ ((InR .i64 (v4 + 1)) ∧ (R25_3 n (v4 + 1) (List.set h0 (Int.toNat v4) ((List.getD x0 (Int.toNat v4) (0, 0, 0, ())).1, (List.getD x0 (Int.toNat v4) (0, 0, 0, ())).2.1, (List.getD x0 (Int.toNat v4) (0, 0, 0, ())).2.2.1, ())) (x0) ds)))) else (ds = [Dyn.mk (Ty.sl YA4) h0]))
end
theorem snd25 : ∀ n, (∀ (x0 : List TyB2) ds, R25 n x0 ds → ∀ K q, AtV Tryz.prog 25 (PostR kds25 oks25 ds [] [] q K) 23 K q [] [.code b25] (entE 0 0 sig25 (x0, ())) (entL sig25 (x0, ()))) ∧ (∀ (v4 : Int) (h0 : List TyB2) (x0 : List TyB2) ds, R25_3 n v4 h0 x0 ds → ∀ K q, AtV Tryz.prog 25 (PostR kds25 oks25 ds [] [] q K) 23 K q [] (cutAt b25 3) (E25_3 v4 h0 x0) (L25_3 v4 h0 x0)) := by
  intro n
  induction n with
  | zero => exact ⟨fun _ _ h => by simp only [R25] at h, fun _ _ _ _ h => by simp only [R25_3] at h⟩
  | succ n ih =>
  obtain ⟨ih, ih3⟩ := ih
  refine ⟨?_, ?_⟩
  · intro x0 ds h K q
    rw [R25] at h
    obtain ⟨s0, s1, s2, h⟩ := h
    exact AtV.go tabOk ext25Ok mixed false [] [] [0, 3, 4] [0] [] (a1 s0 (a1 s1 (a1 s2 trivial))) (ih3 _ _ _ _ h K q) (by kernel_rfl)
  · intro v4 h0 x0 ds h K q
    rw [R25_3] at h
    by_cases b0 : (decide (v4 < (↑(List.length x0) : Int))) = true
    · rw [if_pos b0] at h
      obtain ⟨s0, s1, h⟩ := h
      obtain ⟨s2, s3, h⟩ := h
      obtain ⟨s4, h⟩ := h
      exact AtV.go tabOk ext25Ok mixed false [] [] [0, 3, 4] [0] [true] (a1 b0 (a1 s0 (a1 s1 (a1 trivial (a1 s2 (a1 s3 (a1 s4 trivial))))))) (ih3 _ _ _ _ h K q) (by kernel_rfl)
    · rw [if_neg b0] at h
      replace b0 := Bool.eq_false_iff.2 b0
      subst h
      exact AtV.ret Tryz.func25 tabOk ext25Ok mixed false [] tys25 [false] (a1 b0 trivial) (by kernel_rfl)
theorem run25 (x0 : List TyB2) (hm : x0.length ≤ maxLen) : ∀ (k i : Nat), i + k = x0.length →
    R25_3 (k + 1) (i : Int) (x0.take i ++ List.replicate k ((0 : Int), (0 : Int), (0 : Int), ())) x0 [⟨.sl (.cons (.int .i64) (.cons (.int .i64) (.cons (.int .i64) .unit))), x0⟩] := by
  intro k
  induction k with
  | zero =>
    intro i hi
    rw [R25_3, if_neg (by simp; omega), List.take_of_length_le (by omega)]
    simp
  | succ k ih =>
    intro i hi
    rw [R25_3, if_pos (by simp; omega)]
    simp only [Int.toNat_natCast]
    refine ⟨by omega, by omega, by omega, by simp; omega, inR_up hm (by omega), ?_⟩
    have hs := set_step x0 ((0 : Int), (0 : Int), (0 : Int), ()) i (by omega) (k + 1) (by omega)
    have he : ∀ y : TyB2, (y.1, y.2.1, y.2.2.1, ()) = y := fun _ => rfl
    rw [he, hs]
    exact ih (i + 1) (by omega)
def g25_0 (x0 : List TyB2) : List TyB2 := x0
def P25 (x0 : List TyB2) : Prop := 24 * (x0.length : Int) ≤ 281474976710656
def S25 : Am.Spec := { sig := sig25, pre := fun ⟨x0, _⟩ => P25 x0, res := fun ⟨x0, _⟩ => [⟨.sl (.cons (.int .i64) (.cons (.int .i64) (.cons (.int .i64) .unit))), g25_0 x0⟩] }
theorem con25 : Contract Tryz.prog 25 S25 := contract_of Tryz.func25 hb25 (Nat.le_of_ble_eq_true (by kernel_rfl)) (fun ⟨x0, _⟩ h hwf K q => by
  refine (snd25 (x0.length + 2)).1 x0 _ ?_ K q
  show R25 (x0.length + 1 + 1) x0 [⟨.sl (.cons (.int .i64) (.cons (.int .i64) (.cons (.int .i64) .unit))), x0⟩]
  rw [R25]
  refine ⟨by omega, by omega, h, ?_⟩
  have := run25 x0 hwf.1.1 x0.length 0 (by omega)
  simpa using this)
end
noncomputable section
def ext85 : Ext := []
theorem ext85Ok : ExtOk Tryz.prog ext85 := trivial
noncomputable def b85 : Code := bodyOf Tryz.f85
theorem hb85 : Tryz.f85.body = some b85 := by kernel_rfl
def sig85 : List AT := [AT.v YA4]
def tys85 : List Ty := [Ty.cons (Ty.int .i64) YA6]
def kds85 : List RK := []
def oks85 : List AT := owns sig85
def P85 (x0 : Int × Int × Int × Unit) : Prop := True
def g85_0 (x0 : Int × Int × Int × Unit) : Int × Int × Int × Unit := (x0.1, x0.2.1, x0.2.2.1, ())
theorem at85 (x0 : Int × Int × Int × Unit) (h : P85 x0) (K : Ctx) (q : Nat → Value) : AtV Tryz.prog 85 (PostR kds85 oks85 [⟨Ty.cons (Ty.int .i64) YA6, g85_0 x0⟩] [] [] q K) 14 K q [] [.code b85] (entE 0 0 sig85 (x0, ())) (entL sig85 (x0, ())) := by
  unfold P85 at h
  unfold g85_0
  exact AtV.ret Tryz.func85 tabOk ext85Ok mixed false [] tys85 [] trivial (by kernel_rfl)
def S85 : Am.Spec := { sig := sig85, pre := fun ⟨x0, _⟩ => P85 x0, res := fun ⟨x0, _⟩ => [⟨Ty.cons (Ty.int .i64) YA6, g85_0 x0⟩], kds := kds85 }
theorem con85 : Contract Tryz.prog 85 S85 := contract_of Tryz.func85 hb85 (Nat.le_of_ble_eq_true (by kernel_rfl)) (fun ⟨x0, _⟩ h _ K q => at85 x0 h K q)
end
noncomputable section
def ext26 : Ext := [(85, S85)]
theorem ext26Ok : ExtOk Tryz.prog ext26 := ⟨⟨ca85, con85⟩, trivial⟩
noncomputable def b26 : Code := bodyOf Tryz.f26
theorem hb26 : Tryz.f26.body = some b26 := by kernel_rfl
def sig26 : List AT := [AT.v (Ty.sl YA4)]
def tys26 : List Ty := [Ty.sl YA4]
def kds26 : List RK := []
def oks26 : List AT := owns sig26
def E26_3 (v4 : Int) (h0 : List TyB2) (x0 : List TyB2) : Env := [(0, PV.a (Atom.sl YA4 x0)), (3, PV.a (Atom.osl 0 Option.none)), (4, PV.a (Atom.val (Value.int .i64 v4)))]
def L26_3 (v4 : Int) (h0 : List TyB2) (x0 : List TyB2) : Heap := [Option.some (Arr.mk YA4 h0 false Option.none Option.none)]
mutual
def R26 : Nat → List TyB2 → List Dyn → Prop
  | 0, _, _ => False
  | n + 1, x0, ds => ((0 ≤ (↑(List.length x0) : Int)) ∧ ((↑(List.length x0) : Int) ≤ (↑(List.length x0) : Int)) ∧ (24 * (↑(List.length x0) : Int) ≤ 281474976710656) ∧ (R26_3 n (0) (List.replicate (Int.toNat (↑(List.length x0) : Int)) (0, 0, 0, ())) (x0) ds))
def R26_3 : Nat → Int → List TyB2 → List TyB2 → List Dyn → Prop
  | 0, _, _, _, _ => False
  | n + 1, v4, h0, x0, ds => (if (decide (v4 < (↑(List.length x0) : Int))) = true then ((0 ≤ v4) ∧ (v4 < (↑(List.length x0) : Int)) ∧ ((0 ≤ v4) ∧ (v4 < (↑(List.length h0) : Int)) ∧ ((InR .i64 (v4 + 1)) ∧ (R26_3 n (v4 + 1) (List.set h0 (Int.toNat v4) ((List.getD x0 (Int.toNat v4) (0, 0, 0, ())).1, (List.getD x0 (Int.toNat v4) (0, 0, 0, ())).2.1, (List.getD x0 (Int.toNat v4) (0, 0, 0, ())).2.2.1, ())) (x0) ds)))) else (ds = [Dyn.mk (Ty.sl YA4) h0]))
end
theorem snd26 : ∀ n, (∀ (x0 : List TyB2) ds, R26 n x0 ds → ∀ K q, AtV Tryz.prog 26 (PostR kds26 oks26 ds [] [] q K) 23 K q [] [.code b26] (entE 0 0 sig26 (x0, ())) (entL sig26 (x0, ()))) ∧ (∀ (v4 : Int) (h0 : List TyB2) (x0 : List TyB2) ds, R26_3 n v4 h0 x0 ds → ∀ K q, AtV Tryz.prog 26 (PostR kds26 oks26 ds [] [] q K) 23 K q [] (cutAt b26 3) (E26_3 v4 h0 x0) (L26_3 v4 h0 x0)) := by
  intro n
  induction n with
  | zero => exact ⟨fun _ _ h => by simp only [R26] at h, fun _ _ _ _ h => by simp only [R26_3] at h⟩
  | succ n ih =>
  obtain ⟨ih, ih3⟩ := ih
  refine ⟨?_, ?_⟩
  · intro x0 ds h K q
    rw [R26] at h
    obtain ⟨s0, s1, s2, h⟩ := h
    exact AtV.go tabOk ext26Ok mixed false [] [] [0, 3, 4] [0] [] (a1 s0 (a1 s1 (a1 s2 trivial))) (ih3 _ _ _ _ h K q) (by kernel_rfl)
  · intro v4 h0 x0 ds h K q
    rw [R26_3] at h
    by_cases b0 : (decide (v4 < (↑(List.length x0) : Int))) = true
    · rw [if_pos b0] at h
      obtain ⟨s0, s1, h⟩ := h
      obtain ⟨s2, s3, h⟩ := h
      obtain ⟨s4, h⟩ := h
      exact AtV.go tabOk ext26Ok mixed false [] [] [0, 3, 4] [0] [true] (a1 b0 (a1 s0 (a1 s1 (a1 trivial (a1 s2 (a1 s3 (a1 s4 trivial))))))) (ih3 _ _ _ _ h K q) (by kernel_rfl)
    · rw [if_neg b0] at h
      replace b0 := Bool.eq_false_iff.2 b0
      subst h
      exact AtV.ret Tryz.func26 tabOk ext26Ok mixed false [] tys26 [false] (a1 b0 trivial) (by kernel_rfl)
theorem run26 (x0 : List TyB2) (hm : x0.length ≤ maxLen) : ∀ (k i : Nat), i + k = x0.length →
    R26_3 (k + 1) (i : Int) (x0.take i ++ List.replicate k ((0 : Int), (0 : Int), (0 : Int), ())) x0 [⟨.sl (.cons (.int .i64) (.cons (.int .i64) (.cons (.int .i64) .unit))), x0⟩] := by
  intro k
  induction k with
  | zero =>
    intro i hi
    rw [R26_3, if_neg (by simp; omega), List.take_of_length_le (by omega)]
    simp
  | succ k ih =>
    intro i hi
    rw [R26_3, if_pos (by simp; omega)]
    simp only [Int.toNat_natCast]
    refine ⟨by omega, by omega, by omega, by simp; omega, inR_up hm (by omega), ?_⟩
    have hs := set_step x0 ((0 : Int), (0 : Int), (0 : Int), ()) i (by omega) (k + 1) (by omega)
    have he : ∀ y : TyB2, (y.1, y.2.1, y.2.2.1, ()) = y := fun _ => rfl
    rw [he, hs]
    exact ih (i + 1) (by omega)
def g26_0 (x0 : List TyB2) : List TyB2 := x0
def P26 (x0 : List TyB2) : Prop := 24 * (x0.length : Int) ≤ 281474976710656
def S26 : Am.Spec := { sig := sig26, pre := fun ⟨x0, _⟩ => P26 x0, res := fun ⟨x0, _⟩ => [⟨.sl (.cons (.int .i64) (.cons (.int .i64) (.cons (.int .i64) .unit))), g26_0 x0⟩] }
theorem con26 : Contract Tryz.prog 26 S26 := contract_of Tryz.func26 hb26 (Nat.le_of_ble_eq_true (by kernel_rfl)) (fun ⟨x0, _⟩ h hwf K q => by
  refine (snd26 (x0.length + 2)).1 x0 _ ?_ K q
  show R26 (x0.length + 1 + 1) x0 [⟨.sl (.cons (.int .i64) (.cons (.int .i64) (.cons (.int .i64) .unit))), x0⟩]
  rw [R26]
  refine ⟨by omega, by omega, h, ?_⟩
  have := run26 x0 hwf.1.1 x0.length 0 (by omega)
  simpa using this)
end
noncomputable section
def ext27 : Ext := []
theorem ext27Ok : ExtOk Tryz.prog ext27 := trivial
noncomputable def b27 : Code := bodyOf Tryz.f27
theorem hb27 : Tryz.f27.body = some b27 := by kernel_rfl
def sig27 : List AT := [AT.v YA4]
def tys27 : List Ty := [Ty.cons (Ty.int .i64) YA6]
def kds27 : List RK := []
def oks27 : List AT := owns sig27
def P27 (x0 : Int × Int × Int × Unit) : Prop := True
def g27_0 (x0 : Int × Int × Int × Unit) : Int × Int × Int × Unit := (x0.1, x0.2.1, x0.2.2.1, ())
theorem at27 (x0 : Int × Int × Int × Unit) (h : P27 x0) (K : Ctx) (q : Nat → Value) : AtV Tryz.prog 27 (PostR kds27 oks27 [⟨Ty.cons (Ty.int .i64) YA6, g27_0 x0⟩] [] [] q K) 14 K q [] [.code b27] (entE 0 0 sig27 (x0, ())) (entL sig27 (x0, ())) := by
  unfold P27 at h
  unfold g27_0
  exact AtV.ret Tryz.func27 tabOk ext27Ok mixed false [] tys27 [] trivial (by kernel_rfl)
def S27 : Am.Spec := { sig := sig27, pre := fun ⟨x0, _⟩ => P27 x0, res := fun ⟨x0, _⟩ => [⟨Ty.cons (Ty.int .i64) YA6, g27_0 x0⟩], kds := kds27 }
theorem con27 : Contract Tryz.prog 27 S27 := contract_of Tryz.func27 hb27 (Nat.le_of_ble_eq_true (by kernel_rfl)) (fun ⟨x0, _⟩ h _ K q => at27 x0 h K q)
end
noncomputable section
def ext28 : Ext := []
theorem ext28Ok : ExtOk Tryz.prog ext28 := trivial
noncomputable def b28 : Code := bodyOf Tryz.f28
theorem hb28 : Tryz.f28.body = some b28 := by kernel_rfl
def sig28 : List AT := [AT.v YA4]
def tys28 : List Ty := [Ty.cons (Ty.int .i64) YA6]
def kds28 : List RK := []
def oks28 : List AT := owns sig28
def P28 (x0 : Int × Int × Int × Unit) : Prop := True
def g28_0 (x0 : Int × Int × Int × Unit) : Int × Int × Int × Unit := (x0.1, x0.2.1, x0.2.2.1, ())
theorem at28 (x0 : Int × Int × Int × Unit) (h : P28 x0) (K : Ctx) (q : Nat → Value) : AtV Tryz.prog 28 (PostR kds28 oks28 [⟨Ty.cons (Ty.int .i64) YA6, g28_0 x0⟩] [] [] q K) 14 K q [] [.code b28] (entE 0 0 sig28 (x0, ())) (entL sig28 (x0, ())) := by
  unfold P28 at h
  unfold g28_0
  exact AtV.ret Tryz.func28 tabOk ext28Ok mixed false [] tys28 [] trivial (by kernel_rfl)
def S28 : Am.Spec := { sig := sig28, pre := fun ⟨x0, _⟩ => P28 x0, res := fun ⟨x0, _⟩ => [⟨Ty.cons (Ty.int .i64) YA6, g28_0 x0⟩], kds := kds28 }
theorem con28 : Contract Tryz.prog 28 S28 := contract_of Tryz.func28 hb28 (Nat.le_of_ble_eq_true (by kernel_rfl)) (fun ⟨x0, _⟩ h _ K q => at28 x0 h K q)
end
noncomputable section
def ext86 : Ext := []
theorem ext86Ok : ExtOk Tryz.prog ext86 := trivial
noncomputable def b86 : Code := bodyOf Tryz.f86
theorem hb86 : Tryz.f86.body = some b86 := by kernel_rfl
def sig86 : List AT := [AT.v YA5]
def tys86 : List Ty := [Ty.cons Ty.str YA6]
def kds86 : List RK := []
def oks86 : List AT := owns sig86
def P86 (x0 : ByteArray × Int × Int × Unit) : Prop := True
def g86_0 (x0 : ByteArray × Int × Int × Unit) : ByteArray × Int × Int × Unit := (x0.1, x0.2.1, x0.2.2.1, ())
theorem at86 (x0 : ByteArray × Int × Int × Unit) (h : P86 x0) (K : Ctx) (q : Nat → Value) : AtV Tryz.prog 86 (PostR kds86 oks86 [⟨Ty.cons Ty.str YA6, g86_0 x0⟩] [] [] q K) 14 K q [] [.code b86] (entE 0 0 sig86 (x0, ())) (entL sig86 (x0, ())) := by
  unfold P86 at h
  unfold g86_0
  exact AtV.ret Tryz.func86 tabOk ext86Ok mixed false [] tys86 [] trivial (by kernel_rfl)
def S86 : Am.Spec := { sig := sig86, pre := fun ⟨x0, _⟩ => P86 x0, res := fun ⟨x0, _⟩ => [⟨Ty.cons Ty.str YA6, g86_0 x0⟩], kds := kds86 }
theorem con86 : Contract Tryz.prog 86 S86 := contract_of Tryz.func86 hb86 (Nat.le_of_ble_eq_true (by kernel_rfl)) (fun ⟨x0, _⟩ h _ K q => at86 x0 h K q)
end
noncomputable section
def ext29 : Ext := [(86, S86)]
theorem ext29Ok : ExtOk Tryz.prog ext29 := ⟨⟨ca86, con86⟩, trivial⟩
noncomputable def b29 : Code := bodyOf Tryz.f29
theorem hb29 : Tryz.f29.body = some b29 := by kernel_rfl
def sig29 : List AT := [AT.v (Ty.sl YA5)]
def tys29 : List Ty := [Ty.sl YA5]
def kds29 : List RK := []
def oks29 : List AT := owns sig29
def E29_3 (v4 : Int) (h0 : List TyB1) (x0 : List TyB1) : Env := [(0, PV.a (Atom.sl YA5 x0)), (3, PV.a (Atom.osl 0 Option.none)), (4, PV.a (Atom.val (Value.int .i64 v4)))]
def L29_3 (v4 : Int) (h0 : List TyB1) (x0 : List TyB1) : Heap := [Option.some (Arr.mk YA5 h0 false Option.none Option.none)]
mutual
def R29 : Nat → List TyB1 → List Dyn → Prop
  | 0, _, _ => False
  | n + 1, x0, ds => ((0 ≤ (↑(List.length x0) : Int)) ∧ ((↑(List.length x0) : Int) ≤ (↑(List.length x0) : Int)) ∧ (32 * (↑(List.length x0) : Int) ≤ 281474976710656) ∧ (R29_3 n (0) (List.replicate (Int.toNat (↑(List.length x0) : Int)) (ByteArray.empty, 0, 0, ())) (x0) ds))
def R29_3 : Nat → Int → List TyB1 → List TyB1 → List Dyn → Prop
  | 0, _, _, _, _ => False
  | n + 1, v4, h0, x0, ds => (if (decide (v4 < (↑(List.length x0) : Int))) = true then ((0 ≤ v4) ∧ (v4 < (↑(List.length x0) : Int)) ∧ ((0 ≤ v4) ∧ (v4 < (↑(List.length h0) : Int)) ∧ ((InR .i64 (v4 + 1)) ∧ (R29_3 n (v4 + 1) (List.set h0 (Int.toNat v4) ((List.getD x0 (Int.toNat v4) (ByteArray.empty, 0, 0, ())).1, (List.getD x0 (Int.toNat v4) (ByteArray.empty, 0, 0, ())).2.1, (List.getD x0 (Int.toNat v4) (ByteArray.empty, 0, 0, ())).2.2.1, ())) (x0) ds)))) else (ds = [Dyn.mk (Ty.sl YA5) h0]))
end
theorem snd29 : ∀ n, (∀ (x0 : List TyB1) ds, R29 n x0 ds → ∀ K q, AtV Tryz.prog 29 (PostR kds29 oks29 ds [] [] q K) 23 K q [] [.code b29] (entE 0 0 sig29 (x0, ())) (entL sig29 (x0, ()))) ∧ (∀ (v4 : Int) (h0 : List TyB1) (x0 : List TyB1) ds, R29_3 n v4 h0 x0 ds → ∀ K q, AtV Tryz.prog 29 (PostR kds29 oks29 ds [] [] q K) 23 K q [] (cutAt b29 3) (E29_3 v4 h0 x0) (L29_3 v4 h0 x0)) := by
  intro n
  induction n with
  | zero => exact ⟨fun _ _ h => by simp only [R29] at h, fun _ _ _ _ h => by simp only [R29_3] at h⟩
  | succ n ih =>
  obtain ⟨ih, ih3⟩ := ih
  refine ⟨?_, ?_⟩
  · intro x0 ds h K q
    rw [R29] at h
    obtain ⟨s0, s1, s2, h⟩ := h
    exact AtV.go tabOk ext29Ok mixed false [] [] [0, 3, 4] [0] [] (a1 s0 (a1 s1 (a1 s2 trivial))) (ih3 _ _ _ _ h K q) (by kernel_rfl)
  · intro v4 h0 x0 ds h K q
    rw [R29_3] at h
    by_cases b0 : (decide (v4 < (↑(List.length x0) : Int))) = true
    · rw [if_pos b0] at h
      obtain ⟨s0, s1, h⟩ := h
      obtain ⟨s2, s3, h⟩ := h
      obtain ⟨s4, h⟩ := h
      exact AtV.go tabOk ext29Ok mixed false [] [] [0, 3, 4] [0] [true] (a1 b0 (a1 s0 (a1 s1 (a1 trivial (a1 s2 (a1 s3 (a1 s4 trivial))))))) (ih3 _ _ _ _ h K q) (by kernel_rfl)
    · rw [if_neg b0] at h
      replace b0 := Bool.eq_false_iff.2 b0
      subst h
      exact AtV.ret Tryz.func29 tabOk ext29Ok mixed false [] tys29 [false] (a1 b0 trivial) (by kernel_rfl)
theorem run29 (x0 : List TyB1) (hm : x0.length ≤ maxLen) : ∀ (k i : Nat), i + k = x0.length →
    R29_3 (k + 1) (i : Int) (x0.take i ++ List.replicate k (ByteArray.empty, (0 : Int), (0 : Int), ())) x0 [⟨.sl (.cons .str (.cons (.int .i64) (.cons (.int .i64) .unit))), x0⟩] := by
  intro k
  induction k with
  | zero =>
    intro i hi
    rw [R29_3, if_neg (by simp; omega), List.take_of_length_le (by omega)]
    simp
  | succ k ih =>
    intro i hi
    rw [R29_3, if_pos (by simp; omega)]
    simp only [Int.toNat_natCast]
    refine ⟨by omega, by omega, by omega, by simp; omega, inR_up hm (by omega), ?_⟩
    have hs := set_step x0 (ByteArray.empty, (0 : Int), (0 : Int), ()) i (by omega) (k + 1) (by omega)
    have he : ∀ y : TyB1, (y.1, y.2.1, y.2.2.1, ()) = y := fun _ => rfl
    rw [he, hs]
    exact ih (i + 1) (by omega)
def g29_0 (x0 : List TyB1) : List TyB1 := x0
def P29 (x0 : List TyB1) : Prop := 32 * (x0.length : Int) ≤ 281474976710656
def S29 : Am.Spec := { sig := sig29, pre := fun ⟨x0, _⟩ => P29 x0, res := fun ⟨x0, _⟩ => [⟨.sl (.cons .str (.cons (.int .i64) (.cons (.int .i64) .unit))), g29_0 x0⟩] }
theorem con29 : Contract Tryz.prog 29 S29 := contract_of Tryz.func29 hb29 (Nat.le_of_ble_eq_true (by kernel_rfl)) (fun ⟨x0, _⟩ h hwf K q => by
  refine (snd29 (x0.length + 2)).1 x0 _ ?_ K q
  show R29 (x0.length + 1 + 1) x0 [⟨.sl (.cons .str (.cons (.int .i64) (.cons (.int .i64) .unit))), x0⟩]
  rw [R29]
  refine ⟨by omega, by omega, h, ?_⟩
  have := run29 x0 hwf.1.1 x0.length 0 (by omega)
  simpa using this)
end
noncomputable section
def ext30 : Ext := []
theorem ext30Ok : ExtOk Tryz.prog ext30 := trivial
noncomputable def b30 : Code := bodyOf Tryz.f30
theorem hb30 : Tryz.f30.body = some b30 := by kernel_rfl
def sig30 : List AT := [AT.v YA2]
def tys30 : List Ty := [Ty.cons (Ty.int .i64) YA4]
def kds30 : List RK := []
def oks30 : List AT := owns sig30
def P30 (x0 : Int × Int × Int × Int × Unit) : Prop := True
def g30_0 (x0 : Int × Int × Int × Int × Unit) : Int × Int × Int × Int × Unit := (x0.1, x0.2.1, x0.2.2.1, x0.2.2.2.1, ())
theorem at30 (x0 : Int × Int × Int × Int × Unit) (h : P30 x0) (K : Ctx) (q : Nat → Value) : AtV Tryz.prog 30 (PostR kds30 oks30 [⟨Ty.cons (Ty.int .i64) YA4, g30_0 x0⟩] [] [] q K) 17 K q [] [.code b30] (entE 0 0 sig30 (x0, ())) (entL sig30 (x0, ())) := by
  unfold P30 at h
  unfold g30_0
  exact AtV.ret Tryz.func30 tabOk ext30Ok mixed false [] tys30 [] trivial (by kernel_rfl)
def S30 : Am.Spec := { sig := sig30, pre := fun ⟨x0, _⟩ => P30 x0, res := fun ⟨x0, _⟩ => [⟨Ty.cons (Ty.int .i64) YA4, g30_0 x0⟩], kds := kds30 }
theorem con30 : Contract Tryz.prog 30 S30 := contract_of Tryz.func30 hb30 (Nat.le_of_ble_eq_true (by kernel_rfl)) (fun ⟨x0, _⟩ h _ K q => at30 x0 h K q)
end
noncomputable section
def ext87 : Ext := []
theorem ext87Ok : ExtOk Tryz.prog ext87 := trivial
noncomputable def b87 : Code := bodyOf Tryz.f87
theorem hb87 : Tryz.f87.body = some b87 := by kernel_rfl
def sig87 : List AT := [AT.v YA3]
def tys87 : List Ty := [Ty.cons Ty.str YA4]
def kds87 : List RK := []
def oks87 : List AT := owns sig87
def P87 (x0 : ByteArray × Int × Int × Int × Unit) : Prop := True
def g87_0 (x0 : ByteArray × Int × Int × Int × Unit) : ByteArray × Int × Int × Int × Unit := (x0.1, x0.2.1, x0.2.2.1, x0.2.2.2.1, ())
theorem at87 (x0 : ByteArray × Int × Int × Int × Unit) (h : P87 x0) (K : Ctx) (q : Nat → Value) : AtV Tryz.prog 87 (PostR kds87 oks87 [⟨Ty.cons Ty.str YA4, g87_0 x0⟩] [] [] q K) 17 K q [] [.code b87] (entE 0 0 sig87 (x0, ())) (entL sig87 (x0, ())) := by
  unfold P87 at h
  unfold g87_0
  exact AtV.ret Tryz.func87 tabOk ext87Ok mixed false [] tys87 [] trivial (by kernel_rfl)
def S87 : Am.Spec := { sig := sig87, pre := fun ⟨x0, _⟩ => P87 x0, res := fun ⟨x0, _⟩ => [⟨Ty.cons Ty.str YA4, g87_0 x0⟩], kds := kds87 }
theorem con87 : Contract Tryz.prog 87 S87 := contract_of Tryz.func87 hb87 (Nat.le_of_ble_eq_true (by kernel_rfl)) (fun ⟨x0, _⟩ h _ K q => at87 x0 h K q)
end
noncomputable section
def ext31 : Ext := [(87, S87)]
theorem ext31Ok : ExtOk Tryz.prog ext31 := ⟨⟨ca87, con87⟩, trivial⟩
noncomputable def b31 : Code := bodyOf Tryz.f31
theorem hb31 : Tryz.f31.body = some b31 := by kernel_rfl
def sig31 : List AT := [AT.v (Ty.sl YA3)]
def tys31 : List Ty := [Ty.sl YA3]
def kds31 : List RK := []
def oks31 : List AT := owns sig31
def E31_3 (v4 : Int) (h0 : List TyB0) (x0 : List TyB0) : Env := [(0, PV.a (Atom.sl YA3 x0)), (3, PV.a (Atom.osl 0 Option.none)), (4, PV.a (Atom.val (Value.int .i64 v4)))]
def L31_3 (v4 : Int) (h0 : List TyB0) (x0 : List TyB0) : Heap := [Option.some (Arr.mk YA3 h0 false Option.none Option.none)]
mutual
def R31 : Nat → List TyB0 → List Dyn → Prop
  | 0, _, _ => False
  | n + 1, x0, ds => ((0 ≤ (↑(List.length x0) : Int)) ∧ ((↑(List.length x0) : Int) ≤ (↑(List.length x0) : Int)) ∧ (40 * (↑(List.length x0) : Int) ≤ 281474976710656) ∧ (R31_3 n (0) (List.replicate (Int.toNat (↑(List.length x0) : Int)) (ByteArray.empty, 0, 0, 0, ())) (x0) ds))
def R31_3 : Nat → Int → List TyB0 → List TyB0 → List Dyn → Prop
  | 0, _, _, _, _ => False
  | n + 1, v4, h0, x0, ds => (if (decide (v4 < (↑(List.length x0) : Int))) = true then ((0 ≤ v4) ∧ (v4 < (↑(List.length x0) : Int)) ∧ ((0 ≤ v4) ∧ (v4 < (↑(List.length h0) : Int)) ∧ ((InR .i64 (v4 + 1)) ∧ (R31_3 n (v4 + 1) (List.set h0 (Int.toNat v4) ((List.getD x0 (Int.toNat v4) (ByteArray.empty, 0, 0, 0, ())).1, (List.getD x0 (Int.toNat v4) (ByteArray.empty, 0, 0, 0, ())).2.1, (List.getD x0 (Int.toNat v4) (ByteArray.empty, 0, 0, 0, ())).2.2.1, (List.getD x0 (Int.toNat v4) (ByteArray.empty, 0, 0, 0, ())).2.2.2.1, ())) (x0) ds)))) else (ds = [Dyn.mk (Ty.sl YA3) h0]))
end
theorem snd31 : ∀ n, (∀ (x0 : List TyB0) ds, R31 n x0 ds → ∀ K q, AtV Tryz.prog 31 (PostR kds31 oks31 ds [] [] q K) 23 K q [] [.code b31] (entE 0 0 sig31 (x0, ())) (entL sig31 (x0, ()))) ∧ (∀ (v4 : Int) (h0 : List TyB0) (x0 : List TyB0) ds, R31_3 n v4 h0 x0 ds → ∀ K q, AtV Tryz.prog 31 (PostR kds31 oks31 ds [] [] q K) 23 K q [] (cutAt b31 3) (E31_3 v4 h0 x0) (L31_3 v4 h0 x0)) := by
  intro n
  induction n with
  | zero => exact ⟨fun _ _ h => by simp only [R31] at h, fun _ _ _ _ h => by simp only [R31_3] at h⟩
  | succ n ih =>
  obtain ⟨ih, ih3⟩ := ih
  refine ⟨?_, ?_⟩
  · intro x0 ds h K q
    rw [R31] at h
    obtain ⟨s0, s1, s2, h⟩ := h
    exact AtV.go tabOk ext31Ok mixed false [] [] [0, 3, 4] [0] [] (a1 s0 (a1 s1 (a1 s2 trivial))) (ih3 _ _ _ _ h K q) (by kernel_rfl)
  · intro v4 h0 x0 ds h K q
    rw [R31_3] at h
    by_cases b0 : (decide (v4 < (↑(List.length x0) : Int))) = true
    · rw [if_pos b0] at h
      obtain ⟨s0, s1, h⟩ := h
      obtain ⟨s2, s3, h⟩ := h
      obtain ⟨s4, h⟩ := h
      exact AtV.go tabOk ext31Ok mixed false [] [] [0, 3, 4] [0] [true] (a1 b0 (a1 s0 (a1 s1 (a1 trivial (a1 s2 (a1 s3 (a1 s4 trivial))))))) (ih3 _ _ _ _ h K q) (by kernel_rfl)
    · rw [if_neg b0] at h
      replace b0 := Bool.eq_false_iff.2 b0
      subst h
      exact AtV.ret Tryz.func31 tabOk ext31Ok mixed false [] tys31 [false] (a1 b0 trivial) (by kernel_rfl)
theorem run31 (x0 : List TyB0) (hm : x0.length ≤ maxLen) : ∀ (k i : Nat), i + k = x0.length →
    R31_3 (k + 1) (i : Int) (x0.take i ++ List.replicate k (ByteArray.empty, (0 : Int), (0 : Int), (0 : Int), ())) x0 [⟨.sl (.cons .str (.cons (.int .i64) (.cons (.int .i64) (.cons (.int .i64) .unit)))), x0⟩] := by
  intro k
  induction k with
  | zero =>
    intro i hi
    rw [R31_3, if_neg (by simp; omega), List.take_of_length_le (by omega)]
    simp
  | succ k ih =>
    intro i hi
    rw [R31_3, if_pos (by simp; omega)]
    simp only [Int.toNat_natCast]
    refine ⟨by omega, by omega, by omega, by simp; omega, inR_up hm (by omega), ?_⟩
    have hs := set_step x0 (ByteArray.empty, (0 : Int), (0 : Int), (0 : Int), ()) i (by omega) (k + 1) (by omega)
    have he : ∀ y : TyB0, (y.1, y.2.1, y.2.2.1, y.2.2.2.1, ()) = y := fun _ => rfl
    rw [he, hs]
    exact ih (i + 1) (by omega)
def g31_0 (x0 : List TyB0) : List TyB0 := x0
def P31 (x0 : List TyB0) : Prop := 40 * (x0.length : Int) ≤ 281474976710656
def S31 : Am.Spec := { sig := sig31, pre := fun ⟨x0, _⟩ => P31 x0, res := fun ⟨x0, _⟩ => [⟨.sl (.cons .str (.cons (.int .i64) (.cons (.int .i64) (.cons (.int .i64) .unit)))), g31_0 x0⟩] }
theorem con31 : Contract Tryz.prog 31 S31 := contract_of Tryz.func31 hb31 (Nat.le_of_ble_eq_true (by kernel_rfl)) (fun ⟨x0, _⟩ h hwf K q => by
  refine (snd31 (x0.length + 2)).1 x0 _ ?_ K q
  show R31 (x0.length + 1 + 1) x0 [⟨.sl (.cons .str (.cons (.int .i64) (.cons (.int .i64) (.cons (.int .i64) .unit)))), x0⟩]
  rw [R31]
  refine ⟨by omega, by omega, h, ?_⟩
  have := run31 x0 hwf.1.1 x0.length 0 (by omega)
  simpa using this)
end
noncomputable section
def ext88 : Ext := []
theorem ext88Ok : ExtOk Tryz.prog ext88 := trivial
noncomputable def b88 : Code := bodyOf Tryz.f88
theorem hb88 : Tryz.f88.body = some b88 := by kernel_rfl
def sig88 : List AT := [AT.v YA4]
def tys88 : List Ty := [Ty.cons (Ty.int .i64) YA6]
def kds88 : List RK := []
def oks88 : List AT := owns sig88
def P88 (x0 : Int × Int × Int × Unit) : Prop := True
def g88_0 (x0 : Int × Int × Int × Unit) : Int × Int × Int × Unit := (x0.1, x0.2.1, x0.2.2.1, ())
theorem at88 (x0 : Int × Int × Int × Unit) (h : P88 x0) (K : Ctx) (q : Nat → Value) : AtV Tryz.prog 88 (PostR kds88 oks88 [⟨Ty.cons (Ty.int .i64) YA6, g88_0 x0⟩] [] [] q K) 14 K q [] [.code b88] (entE 0 0 sig88 (x0, ())) (entL sig88 (x0, ())) := by
  unfold P88 at h
  unfold g88_0
  exact AtV.ret Tryz.func88 tabOk ext88Ok mixed false [] tys88 [] trivial (by kernel_rfl)
def S88 : Am.Spec := { sig := sig88, pre := fun ⟨x0, _⟩ => P88 x0, res := fun ⟨x0, _⟩ => [⟨Ty.cons (Ty.int .i64) YA6, g88_0 x0⟩], kds := kds88 }
theorem con88 : Contract Tryz.prog 88 S88 := contract_of Tryz.func88 hb88 (Nat.le_of_ble_eq_true (by kernel_rfl)) (fun ⟨x0, _⟩ h _ K q => at88 x0 h K q)
end
noncomputable section
def ext32 : Ext := [(88, S88)]
theorem ext32Ok : ExtOk Tryz.prog ext32 := ⟨⟨ca88, con88⟩, trivial⟩
noncomputable def b32 : Code := bodyOf Tryz.f32
theorem hb32 : Tryz.f32.body = some b32 := by kernel_rfl
def sig32 : List AT := [AT.v (Ty.sl YA4)]
def tys32 : List Ty := [Ty.sl YA4]
def kds32 : List RK := []
def oks32 : List AT := owns sig32
def E32_3 (v4 : Int) (h0 : List TyB2) (x0 : List TyB2) : Env := [(0, PV.a (Atom.sl YA4 x0)), (3, PV.a (Atom.osl 0 Option.none)), (4, PV.a (Atom.val (Value.int .i64 v4)))]
def L32_3 (v4 : Int) (h0 : List TyB2) (x0 : List TyB2) : Heap := [Option.some (Arr.mk YA4 h0 false Option.none Option.none)]
mutual
def R32 : Nat → List TyB2 → List Dyn → Prop
  | 0, _, _ => False
  | n + 1, x0, ds => ((0 ≤ (↑(List.length x0) : Int)) ∧ ((↑(List.length x0) : Int) ≤ (↑(List.length x0) : Int)) ∧ (24 * (↑(List.length x0) : Int) ≤ 281474976710656) ∧ (R32_3 n (0) (List.replicate (Int.toNat (↑(List.length x0) : Int)) (0, 0, 0, ())) (x0) ds))
def R32_3 : Nat → Int → List TyB2 → List TyB2 → List Dyn → Prop
  | 0, _, _, _, _ => False
  | n + 1, v4, h0, x0, ds => (if (decide (v4 < (↑(List.length x0) : Int))) = true then ((0 ≤ v4) ∧ (v4 < (↑(List.length x0) : Int)) ∧ ((0 ≤ v4) ∧ (v4 < (↑(List.length h0) : Int)) ∧ ((InR .i64 (v4 + 1)) ∧ (R32_3 n (v4 + 1) (List.set h0 (Int.toNat v4) ((List.getD x0 (Int.toNat v4) (0, 0, 0, ())).1, (List.getD x0 (Int.toNat v4) (0, 0, 0, ())).2.1, (List.getD x0 (Int.toNat v4) (0, 0, 0, ())).2.2.1, ())) (x0) ds)))) else (ds = [Dyn.mk (Ty.sl YA4) h0]))
end
theorem snd32 : ∀ n, (∀ (x0 : List TyB2) ds, R32 n x0 ds → ∀ K q, AtV Tryz.prog 32 (PostR kds32 oks32 ds [] [] q K) 23 K q [] [.code b32] (entE 0 0 sig32 (x0, ())) (entL sig32 (x0, ()))) ∧ (∀ (v4 : Int) (h0 : List TyB2) (x0 : List TyB2) ds, R32_3 n v4 h0 x0 ds → ∀ K q, AtV Tryz.prog 32 (PostR kds32 oks32 ds [] [] q K) 23 K q [] (cutAt b32 3) (E32_3 v4 h0 x0) (L32_3 v4 h0 x0)) := by
  intro n
  induction n with
  | zero => exact ⟨fun _ _ h => by simp only [R32] at h, fun _ _ _ _ h => by simp only [R32_3] at h⟩
  | succ n ih =>
  obtain ⟨ih, ih3⟩ := ih
  refine ⟨?_, ?_⟩
  · intro x0 ds h K q
    rw [R32] at h
    obtain ⟨s0, s1, s2, h⟩ := h
    exact AtV.go tabOk ext32Ok mixed false [] [] [0, 3, 4] [0] [] (a1 s0 (a1 s1 (a1 s2 trivial))) (ih3 _ _ _ _ h K q) (by kernel_rfl)
  · intro v4 h0 x0 ds h K q
    rw [R32_3] at h
    by_cases b0 : (decide (v4 < (↑(List.length x0) : Int))) = true
    · rw [if_pos b0] at h
      obtain ⟨s0, s1, h⟩ := h
      obtain ⟨s2, s3, h⟩ := h
      obtain ⟨s4, h⟩ := h
      exact AtV.go tabOk ext32Ok mixed false [] [] [0, 3, 4] [0] [true] (a1 b0 (a1 s0 (a1 s1 (a1 trivial (a1 s2 (a1 s3 (a1 s4 trivial))))))) (ih3 _ _ _ _ h K q) (by kernel_rfl)
    · rw [if_neg b0] at h
      replace b0 := Bool.eq_false_iff.2 b0
      subst h
      exact AtV.ret Tryz.func32 tabOk ext32Ok mixed false [] tys32 [false] (a1 b0 trivial) (by kernel_rfl)
theorem run32 (x0 : List TyB2) (hm : x0.length ≤ maxLen) : ∀ (k i : Nat), i + k = x0.length →
    R32_3 (k + 1) (i : Int) (x0.take i ++ List.replicate k ((0 : Int), (0 : Int), (0 : Int), ())) x0 [⟨.sl (.cons (.int .i64) (.cons (.int .i64) (.cons (.int .i64) .unit))), x0⟩] := by
  intro k
  induction k with
  | zero =>
    intro i hi
    rw [R32_3, if_neg (by simp; omega), List.take_of_length_le (by omega)]
    simp
  | succ k ih =>
    intro i hi
    rw [R32_3, if_pos (by simp; omega)]
    simp only [Int.toNat_natCast]
    refine ⟨by omega, by omega, by omega, by simp; omega, inR_up hm (by omega), ?_⟩
    have hs := set_step x0 ((0 : Int), (0 : Int), (0 : Int), ()) i (by omega) (k + 1) (by omega)
    have he : ∀ y : TyB2, (y.1, y.2.1, y.2.2.1, ()) = y := fun _ => rfl
    rw [he, hs]
    exact ih (i + 1) (by omega)
def g32_0 (x0 : List TyB2) : List TyB2 := x0
def P32 (x0 : List TyB2) : Prop := 24 * (x0.length : Int) ≤ 281474976710656
def S32 : Am.Spec := { sig := sig32, pre := fun ⟨x0, _⟩ => P32 x0, res := fun ⟨x0, _⟩ => [⟨.sl (.cons (.int .i64) (.cons (.int .i64) (.cons (.int .i64) .unit))), g32_0 x0⟩] }
theorem con32 : Contract Tryz.prog 32 S32 := contract_of Tryz.func32 hb32 (Nat.le_of_ble_eq_true (by kernel_rfl)) (fun ⟨x0, _⟩ h hwf K q => by
  refine (snd32 (x0.length + 2)).1 x0 _ ?_ K q
  show R32 (x0.length + 1 + 1) x0 [⟨.sl (.cons (.int .i64) (.cons (.int .i64) (.cons (.int .i64) .unit))), x0⟩]
  rw [R32]
  refine ⟨by omega, by omega, h, ?_⟩
  have := run32 x0 hwf.1.1 x0.length 0 (by omega)
  simpa using this)
end
noncomputable section
def ext89 : Ext := []
theorem ext89Ok : ExtOk Tryz.prog ext89 := trivial
noncomputable def b89 : Code := bodyOf Tryz.f89
theorem hb89 : Tryz.f89.body = some b89 := by kernel_rfl
def sig89 : List AT := [AT.v YA5]
def tys89 : List Ty := [Ty.cons Ty.str YA6]
def kds89 : List RK := []
def oks89 : List AT := owns sig89
def P89 (x0 : ByteArray × Int × Int × Unit) : Prop := True
def g89_0 (x0 : ByteArray × Int × Int × Unit) : ByteArray × Int × Int × Unit := (x0.1, x0.2.1, x0.2.2.1, ())
theorem at89 (x0 : ByteArray × Int × Int × Unit) (h : P89 x0) (K : Ctx) (q : Nat → Value) : AtV Tryz.prog 89 (PostR kds89 oks89 [⟨Ty.cons Ty.str YA6, g89_0 x0⟩] [] [] q K) 14 K q [] [.code b89] (entE 0 0 sig89 (x0, ())) (entL sig89 (x0, ())) := by
  unfold P89 at h
  unfold g89_0
  exact AtV.ret Tryz.func89 tabOk ext89Ok mixed false [] tys89 [] trivial (by kernel_rfl)
def S89 : Am.Spec := { sig := sig89, pre := fun ⟨x0, _⟩ => P89 x0, res := fun ⟨x0, _⟩ => [⟨Ty.cons Ty.str YA6, g89_0 x0⟩], kds := kds89 }
theorem con89 : Contract Tryz.prog 89 S89 := contract_of Tryz.func89 hb89 (Nat.le_of_ble_eq_true (by kernel_rfl)) (fun ⟨x0, _⟩ h _ K q => at89 x0 h K q)
end
noncomputable section
def ext33 : Ext := [(89, S89)]
theorem ext33Ok : ExtOk Tryz.prog ext33 := ⟨⟨ca89, con89⟩, trivial⟩
noncomputable def b33 : Code := bodyOf Tryz.f33
theorem hb33 : Tryz.f33.body = some b33 := by kernel_rfl
def sig33 : List AT := [AT.v (Ty.sl YA5)]
def tys33 : List Ty := [Ty.sl YA5]
def kds33 : List RK := []
def oks33 : List AT := owns sig33
def E33_3 (v4 : Int) (h0 : List TyB1) (x0 : List TyB1) : Env := [(0, PV.a (Atom.sl YA5 x0)), (3, PV.a (Atom.osl 0 Option.none)), (4, PV.a (Atom.val (Value.int .i64 v4)))]
def L33_3 (v4 : Int) (h0 : List TyB1) (x0 : List TyB1) : Heap := [Option.some (Arr.mk YA5 h0 false Option.none Option.none)]
mutual
def R33 : Nat → List TyB1 → List Dyn → Prop
  | 0, _, _ => False
  | n + 1, x0, ds => ((0 ≤ (↑(List.length x0) : Int)) ∧ ((↑(List.length x0) : Int) ≤ (↑(List.length x0) : Int)) ∧ (32 * (↑(List.length x0) : Int) ≤ 281474976710656) ∧ (R33_3 n (0) (List.replicate (Int.toNat (↑(List.length x0) : Int)) (ByteArray.empty, 0, 0, ())) (x0) ds))
def R33_3 : Nat → Int → List TyB1 → List TyB1 → List Dyn → Prop
  | 0, _, _, _, _ => False
  | n + 1, v4, h0, x0, ds => (if (decide (v4 < (↑(List.length x0) : Int))) = true then ((0 ≤ v4) ∧ (v4 < (↑(List.length x0) : Int)) ∧ ((0 ≤ v4) ∧ (v4 < (↑(List.length h0) : Int)) ∧ ((InR .i64 (v4 + 1)) ∧ (R33_3 n (v4 + 1) (List.set h0 (Int.toNat v4) ((List.getD x0 (Int.toNat v4) (ByteArray.empty, 0, 0, ())).1, (List.getD x0 (Int.toNat v4) (ByteArray.empty, 0, 0, ())).2.1, (List.getD x0 (Int.toNat v4) (ByteArray.empty, 0, 0, ())).2.2.1, ())) (x0) ds)))) else (ds = [Dyn.mk (Ty.sl YA5) h0]))
end
theorem snd33 : ∀ n, (∀ (x0 : List TyB1) ds, R33 n x0 ds → ∀ K q, AtV Tryz.prog 33 (PostR kds33 oks33 ds [] [] q K) 23 K q [] [.code b33] (entE 0 0 sig33 (x0, ())) (entL sig33 (x0, ()))) ∧ (∀ (v4 : Int) (h0 : List TyB1) (x0 : List TyB1) ds, R33_3 n v4 h0 x0 ds → ∀ K q, AtV Tryz.prog 33 (PostR kds33 oks33 ds [] [] q K) 23 K q [] (cutAt b33 3) (E33_3 v4 h0 x0) (L33_3 v4 h0 x0)) := by
  intro n
  induction n with
  | zero => exact ⟨fun _ _ h => by simp only [R33] at h, fun _ _ _ _ h => by simp only [R33_3] at h⟩
  | succ n ih =>
  obtain ⟨ih, ih3⟩ := ih
  refine ⟨?_, ?_⟩
  · intro x0 ds h K q
    rw [R33] at h
    obtain ⟨s0, s1, s2, h⟩ := h
    exact AtV.go tabOk ext33Ok mixed false [] [] [0, 3, 4] [0] [] (a1 s0 (a1 s1 (a1 s2 trivial))) (ih3 _ _ _ _ h K q) (by kernel_rfl)
  · intro v4 h0 x0 ds h K q
    rw [R33_3] at h
    by_cases b0 : (decide (v4 < (↑(List.length x0) : Int))) = true
    · rw [if_pos b0] at h
      obtain ⟨s0, s1, h⟩ := h
      obtain ⟨s2, s3, h⟩ := h
      obtain ⟨s4, h⟩ := h
      exact AtV.go tabOk ext33Ok mixed false [] [] [0, 3, 4] [0] [true] (a1 b0 (a1 s0 (a1 s1 (a1 trivial (a1 s2 (a1 s3 (a1 s4 trivial))))))) (ih3 _ _ _ _ h K q) (by kernel_rfl)
    · rw [if_neg b0] at h
      replace b0 := Bool.eq_false_iff.2 b0
      subst h
      exact AtV.ret Tryz.func33 tabOk ext33Ok mixed false [] tys33 [false] (a1 b0 trivial) (by kernel_rfl)
theorem run33 (x0 : List TyB1) (hm : x0.length ≤ maxLen) : ∀ (k i : Nat), i + k = x0.length →
    R33_3 (k + 1) (i : Int) (x0.take i ++ List.replicate k (ByteArray.empty, (0 : Int), (0 : Int), ())) x0 [⟨.sl (.cons .str (.cons (.int .i64) (.cons (.int .i64) .unit))), x0⟩] := by
  intro k
  induction k with
  | zero =>
    intro i hi
    rw [R33_3, if_neg (by simp; omega), List.take_of_length_le (by omega)]
    simp
  | succ k ih =>
    intro i hi
    rw [R33_3, if_pos (by simp; omega)]
    simp only [Int.toNat_natCast]
    refine ⟨by omega, by omega, by omega, by simp; omega, inR_up hm (by omega), ?_⟩
    have hs := set_step x0 (ByteArray.empty, (0 : Int), (0 : Int), ()) i (by omega) (k + 1) (by omega)
    have he : ∀ y : TyB1, (y.1, y.2.1, y.2.2.1, ()) = y := fun _ => rfl
    rw [he, hs]
    exact ih (i + 1) (by omega)
def g33_0 (x0 : List TyB1) : List TyB1 := x0
def P33 (x0 : List TyB1) : Prop := 32 * (x0.length : Int) ≤ 281474976710656
def S33 : Am.Spec := { sig := sig33, pre := fun ⟨x0, _⟩ => P33 x0, res := fun ⟨x0, _⟩ => [⟨.sl (.cons .str (.cons (.int .i64) (.cons (.int .i64) .unit))), g33_0 x0⟩] }
theorem con33 : Contract Tryz.prog 33 S33 := contract_of Tryz.func33 hb33 (Nat.le_of_ble_eq_true (by kernel_rfl)) (fun ⟨x0, _⟩ h hwf K q => by
  refine (snd33 (x0.length + 2)).1 x0 _ ?_ K q
  show R33 (x0.length + 1 + 1) x0 [⟨.sl (.cons .str (.cons (.int .i64) (.cons (.int .i64) .unit))), x0⟩]
  rw [R33]
  refine ⟨by omega, by omega, h, ?_⟩
  have := run33 x0 hwf.1.1 x0.length 0 (by omega)
  simpa using this)
end
noncomputable section
def ext90 : Ext := []
theorem ext90Ok : ExtOk Tryz.prog ext90 := trivial
noncomputable def b90 : Code := bodyOf Tryz.f90
theorem hb90 : Tryz.f90.body = some b90 := by kernel_rfl
def sig90 : List AT := [AT.v YA5]
def tys90 : List Ty := [Ty.cons Ty.str YA6]
def kds90 : List RK := []
def oks90 : List AT := owns sig90
def P90 (x0 : ByteArray × Int × Int × Unit) : Prop := True
def g90_0 (x0 : ByteArray × Int × Int × Unit) : ByteArray × Int × Int × Unit := (x0.1, x0.2.1, x0.2.2.1, ())
theorem at90 (x0 : ByteArray × Int × Int × Unit) (h : P90 x0) (K : Ctx) (q : Nat → Value) : AtV Tryz.prog 90 (PostR kds90 oks90 [⟨Ty.cons Ty.str YA6, g90_0 x0⟩] [] [] q K) 14 K q [] [.code b90] (entE 0 0 sig90 (x0, ())) (entL sig90 (x0, ())) := by
  unfold P90 at h
  unfold g90_0
  exact AtV.ret Tryz.func90 tabOk ext90Ok mixed false [] tys90 [] trivial (by kernel_rfl)
def S90 : Am.Spec := { sig := sig90, pre := fun ⟨x0, _⟩ => P90 x0, res := fun ⟨x0, _⟩ => [⟨Ty.cons Ty.str YA6, g90_0 x0⟩], kds := kds90 }
theorem con90 : Contract Tryz.prog 90 S90 := contract_of Tryz.func90 hb90 (Nat.le_of_ble_eq_true (by kernel_rfl)) (fun ⟨x0, _⟩ h _ K q => at90 x0 h K q)
end
noncomputable section
def ext34 : Ext := [(90, S90)]
theorem ext34Ok : ExtOk Tryz.prog ext34 := ⟨⟨ca90, con90⟩, trivial⟩
noncomputable def b34 : Code := bodyOf Tryz.f34
theorem hb34 : Tryz.f34.body = some b34 := by kernel_rfl
def sig34 : List AT := [AT.v (Ty.sl YA5)]
def tys34 : List Ty := [Ty.sl YA5]
def kds34 : List RK := []
def oks34 : List AT := owns sig34
def E34_3 (v4 : Int) (h0 : List TyB1) (x0 : List TyB1) : Env := [(0, PV.a (Atom.sl YA5 x0)), (3, PV.a (Atom.osl 0 Option.none)), (4, PV.a (Atom.val (Value.int .i64 v4)))]
def L34_3 (v4 : Int) (h0 : List TyB1) (x0 : List TyB1) : Heap := [Option.some (Arr.mk YA5 h0 false Option.none Option.none)]
mutual
def R34 : Nat → List TyB1 → List Dyn → Prop
  | 0, _, _ => False
  | n + 1, x0, ds => ((0 ≤ (↑(List.length x0) : Int)) ∧ ((↑(List.length x0) : Int) ≤ (↑(List.length x0) : Int)) ∧ (32 * (↑(List.length x0) : Int) ≤ 281474976710656) ∧ (R34_3 n (0) (List.replicate (Int.toNat (↑(List.length x0) : Int)) (ByteArray.empty, 0, 0, ())) (x0) ds))
def R34_3 : Nat → Int → List TyB1 → List TyB1 → List Dyn → Prop
  | 0, _, _, _, _ => False
  | n + 1, v4, h0, x0, ds => (if (decide (v4 < (↑(List.length x0) : Int))) = true then ((0 ≤ v4) ∧ (v4 < (↑(List.length x0) : Int)) ∧ ((0 ≤ v4) ∧ (v4 < (↑(List.length h0) : Int)) ∧ ((InR .i64 (v4 + 1)) ∧ (R34_3 n (v4 + 1) (List.set h0 (Int.toNat v4) ((List.getD x0 (Int.toNat v4) (ByteArray.empty, 0, 0, ())).1, (List.getD x0 (Int.toNat v4) (ByteArray.empty, 0, 0, ())).2.1, (List.getD x0 (Int.toNat v4) (ByteArray.empty, 0, 0, ())).2.2.1, ())) (x0) ds)))) else (ds = [Dyn.mk (Ty.sl YA5) h0]))
end
theorem snd34 : ∀ n, (∀ (x0 : List TyB1) ds, R34 n x0 ds → ∀ K q, AtV Tryz.prog 34 (PostR kds34 oks34 ds [] [] q K) 23 K q [] [.code b34] (entE 0 0 sig34 (x0, ())) (entL sig34 (x0, ()))) ∧ (∀ (v4 : Int) (h0 : List TyB1) (x0 : List TyB1) ds, R34_3 n v4 h0 x0 ds → ∀ K q, AtV Tryz.prog 34 (PostR kds34 oks34 ds [] [] q K) 23 K q [] (cutAt b34 3) (E34_3 v4 h0 x0) (L34_3 v4 h0 x0)) := by
  intro n
  induction n with
  | zero => exact ⟨fun _ _ h => by simp only [R34] at h, fun _ _ _ _ h => by simp only [R34_3] at h⟩
  | succ n ih =>
  obtain ⟨ih, ih3⟩ := ih
  refine ⟨?_, ?_⟩
  · intro x0 ds h K q
    rw [R34] at h
    obtain ⟨s0, s1, s2, h⟩ := h
    exact AtV.go tabOk ext34Ok mixed false [] [] [0, 3, 4] [0] [] (a1 s0 (a1 s1 (a1 s2 trivial))) (ih3 _ _ _ _ h K q) (by kernel_rfl)
  · intro v4 h0 x0 ds h K q
    rw [R34_3] at h
    by_cases b0 : (decide (v4 < (↑(List.length x0) : Int))) = true
    · rw [if_pos b0] at h
      obtain ⟨s0, s1, h⟩ := h
      obtain ⟨s2, s3, h⟩ := h
      obtain ⟨s4, h⟩ := h
      exact AtV.go tabOk ext34Ok mixed false [] [] [0, 3, 4] [0] [true] (a1 b0 (a1 s0 (a1 s1 (a1 trivial (a1 s2 (a1 s3 (a1 s4 trivial))))))) (ih3 _ _ _ _ h K q) (by kernel_rfl)
    · rw [if_neg b0] at h
      replace b0 := Bool.eq_false_iff.2 b0
      subst h
      exact AtV.ret Tryz.func34 tabOk ext34Ok mixed false [] tys34 [false] (a1 b0 trivial) (by kernel_rfl)
theorem run34 (x0 : List TyB1) (hm : x0.length ≤ maxLen) : ∀ (k i : Nat), i + k = x0.length →
    R34_3 (k + 1) (i : Int) (x0.take i ++ List.replicate k (ByteArray.empty, (0 : Int), (0 : Int), ())) x0 [⟨.sl (.cons .str (.cons (.int .i64) (.cons (.int .i64) .unit))), x0⟩] := by
  intro k
  induction k with
  | zero =>
    intro i hi
    rw [R34_3, if_neg (by simp; omega), List.take_of_length_le (by omega)]
    simp
  | succ k ih =>
    intro i hi
    rw [R34_3, if_pos (by simp; omega)]
    simp only [Int.toNat_natCast]
    refine ⟨by omega, by omega, by omega, by simp; omega, inR_up hm (by omega), ?_⟩
    have hs := set_step x0 (ByteArray.empty, (0 : Int), (0 : Int), ()) i (by omega) (k + 1) (by omega)
    have he : ∀ y : TyB1, (y.1, y.2.1, y.2.2.1, ()) = y := fun _ => rfl
    rw [he, hs]
    exact ih (i + 1) (by omega)
def g34_0 (x0 : List TyB1) : List TyB1 := x0
def P34 (x0 : List TyB1) : Prop := 32 * (x0.length : Int) ≤ 281474976710656
def S34 : Am.Spec := { sig := sig34, pre := fun ⟨x0, _⟩ => P34 x0, res := fun ⟨x0, _⟩ => [⟨.sl (.cons .str (.cons (.int .i64) (.cons (.int .i64) .unit))), g34_0 x0⟩] }
theorem con34 : Contract Tryz.prog 34 S34 := contract_of Tryz.func34 hb34 (Nat.le_of_ble_eq_true (by kernel_rfl)) (fun ⟨x0, _⟩ h hwf K q => by
  refine (snd34 (x0.length + 2)).1 x0 _ ?_ K q
  show R34 (x0.length + 1 + 1) x0 [⟨.sl (.cons .str (.cons (.int .i64) (.cons (.int .i64) .unit))), x0⟩]
  rw [R34]
  refine ⟨by omega, by omega, h, ?_⟩
  have := run34 x0 hwf.1.1 x0.length 0 (by omega)
  simpa using this)
end
noncomputable section
def ext6 : Ext := [(23, S23), (24, S24), (25, S25), (26, S26), (27, S27), (28, S28), (29, S29), (30, S30), (31, S31), (32, S32), (33, S33), (34, S34)]
theorem ext6Ok : ExtOk Tryz.prog ext6 := ⟨⟨ca23, con23⟩, ⟨ca24, con24⟩, ⟨ca25, con25⟩, ⟨ca26, con26⟩, ⟨ca27, con27⟩, ⟨ca28, con28⟩, ⟨ca29, con29⟩, ⟨ca30, con30⟩, ⟨ca31, con31⟩, ⟨ca32, con32⟩, ⟨ca33, con33⟩, ⟨ca34, con34⟩, trivial⟩
noncomputable def b6 : Code := bodyOf Tryz.f6
theorem hb6 : Tryz.f6.body = some b6 := by kernel_rfl
def sig6 : List AT := [AT.v YA0]
def tys6 : List Ty := [Ty.cons (Ty.sl YA3) YA1]
def kds6 : List RK := []
def oks6 : List AT := owns sig6
def P6 (x0 : TyA0) : Prop := ((P23 x0.1) ∧ ((P25 x0.2.2.1) ∧ ((P26 x0.2.2.2.1) ∧ ((P29 x0.2.2.2.2.2.2.1) ∧ ((P31 x0.2.2.2.2.2.2.2.2.1) ∧ ((P32 x0.2.2.2.2.2.2.2.2.2.1) ∧ ((P33 x0.2.2.2.2.2.2.2.2.2.2.1) ∧ ((P34 x0.2.2.2.2.2.2.2.2.2.2.2.1) ∧ True))))))))
def g6_0 (x0 : TyA0) : TyA0 := (g23_0 x0.1, (x0.2.1.1, x0.2.1.2.1, x0.2.1.2.2.1, x0.2.1.2.2.2.1, ()), g25_0 x0.2.2.1, g26_0 x0.2.2.2.1, (x0.2.2.2.2.1.1, x0.2.2.2.2.1.2.1, x0.2.2.2.2.1.2.2.1, ()), (x0.2.2.2.2.2.1.1, x0.2.2.2.2.2.1.2.1, x0.2.2.2.2.2.1.2.2.1, ()), g29_0 x0.2.2.2.2.2.2.1, (x0.2.2.2.2.2.2.2.1.1, x0.2.2.2.2.2.2.2.1.2.1, x0.2.2.2.2.2.2.2.1.2.2.1, x0.2.2.2.2.2.2.2.1.2.2.2.1, ()), g31_0 x0.2.2.2.2.2.2.2.2.1, g32_0 x0.2.2.2.2.2.2.2.2.2.1, g33_0 x0.2.2.2.2.2.2.2.2.2.2.1, g34_0 x0.2.2.2.2.2.2.2.2.2.2.2.1, ())
theorem at6 (x0 : TyA0) (h : P6 x0) (K : Ctx) (q : Nat → Value) : AtV Tryz.prog 6 (PostR kds6 oks6 [⟨Ty.cons (Ty.sl YA3) YA1, g6_0 x0⟩] [] [] q K) 53 K q [] [.code b6] (entE 0 0 sig6 (x0, ())) (entL sig6 (x0, ())) := by
  unfold P6 at h
  unfold g6_0
  obtain ⟨s0, h⟩ := h
  obtain ⟨s1, h⟩ := h
  obtain ⟨s2, h⟩ := h
  obtain ⟨s3, h⟩ := h
  obtain ⟨s4, h⟩ := h
  obtain ⟨s5, h⟩ := h
  obtain ⟨s6, h⟩ := h
  obtain ⟨s7, h⟩ := h
  exact AtV.ret Tryz.func6 tabOk ext6Ok mixed false [] tys6 [] (a1 s0 (a1 trivial (a1 s1 (a1 s2 (a1 trivial (a1 trivial (a1 s3 (a1 trivial (a1 s4 (a1 s5 (a1 s6 (a1 s7 trivial)))))))))))) (by kernel_rfl)
def S6 : Am.Spec := { sig := sig6, pre := fun ⟨x0, _⟩ => P6 x0, res := fun ⟨x0, _⟩ => [⟨Ty.cons (Ty.sl YA3) YA1, g6_0 x0⟩], kds := kds6 }
theorem con6 : Contract Tryz.prog 6 S6 := contract_of Tryz.func6 hb6 (Nat.le_of_ble_eq_true (by kernel_rfl)) (fun ⟨x0, _⟩ h _ K q => at6 x0 h K q)
end
noncomputable section
def ext8 : Ext := []
theorem ext8Ok : ExtOk Tryz.prog ext8 := trivial
noncomputable def b8 : Code := bodyOf Tryz.f8
theorem hb8 : Tryz.f8.body = some b8 := by kernel_rfl
def sig8 : List AT := [AT.v (Ty.sl Ty.str), AT.v (Ty.sl Ty.str)]
def tys8 : List Ty := [Ty.bool]
def kds8 : List RK := []
def oks8 : List AT := owns sig8
def E8_4 (v5 : Int) (x0 : List ByteArray) (x1 : List ByteArray) : Env := [(0, PV.a (Atom.sl Ty.str x0)), (1, PV.a (Atom.sl Ty.str x1)), (5, PV.a (Atom.val (Value.int .i64 v5)))]
def L8_4 (v5 : Int) (x0 : List ByteArray) (x1 : List ByteArray) : Heap := []
mutual
def R8 : Nat → List ByteArray → List ByteArray → List Dyn → Prop
  | 0, _, _, _ => False
  | n + 1, x0, x1, ds => (if ((↑(List.length x0) : Int) != (↑(List.length x1) : Int)) = true then (ds = [Dyn.mk Ty.bool false]) else (R8_4 n (0) (x0) (x1) ds))
def R8_4 : Nat → Int → List ByteArray → List ByteArray → List Dyn → Prop
  | 0, _, _, _, _ => False
  | n + 1, v5, x0, x1, ds => (if (decide (v5 < (↑(List.length x0) : Int))) = true then ((0 ≤ v5) ∧ (v5 < (↑(List.length x0) : Int)) ∧ ((0 ≤ v5) ∧ (v5 < (↑(List.length x1) : Int)) ∧ (if (!ByteArray.toList (List.getD x0 (Int.toNat v5) ByteArray.empty) == ByteArray.toList (List.getD x1 (Int.toNat v5) ByteArray.empty)) = true then (ds = [Dyn.mk Ty.bool false]) else ((InR .i64 (v5 + 1)) ∧ (R8_4 n (v5 + 1) (x0) (x1) ds))))) else (ds = [Dyn.mk Ty.bool true]))
end
theorem snd8 : ∀ n, (∀ (x0 : List ByteArray) (x1 : List ByteArray) ds, R8 n x0 x1 ds → ∀ K q, AtV Tryz.prog 8 (PostR kds8 oks8 ds [] [] q K) 26 K q [] [.code b8] (entE 0 0 sig8 (x0, x1, ())) (entL sig8 (x0, x1, ()))) ∧ (∀ (v5 : Int) (x0 : List ByteArray) (x1 : List ByteArray) ds, R8_4 n v5 x0 x1 ds → ∀ K q, AtV Tryz.prog 8 (PostR kds8 oks8 ds [] [] q K) 26 K q [] (cutAt b8 4) (E8_4 v5 x0 x1) (L8_4 v5 x0 x1)) := by
  intro n
  induction n with
  | zero => exact ⟨fun _ _ _ h => by simp only [R8] at h, fun _ _ _ _ h => by simp only [R8_4] at h⟩
  | succ n ih =>
  obtain ⟨ih, ih4⟩ := ih
  refine ⟨?_, ?_⟩
  · intro x0 x1 ds h K q
    rw [R8] at h
    by_cases b0 : ((↑(List.length x0) : Int) != (↑(List.length x1) : Int)) = true
    · rw [if_pos b0] at h
      subst h
      exact AtV.ret Tryz.func8 tabOk ext8Ok mixed false [] tys8 [true] (a1 b0 trivial) (by kernel_rfl)
    · rw [if_neg b0] at h
      replace b0 := Bool.eq_false_iff.2 b0
      exact AtV.go tabOk ext8Ok mixed false [] [] [0, 1, 5] [] [false] (a1 b0 trivial) (ih4 _ _ _ _ h K q) (by kernel_rfl)
  · intro v5 x0 x1 ds h K q
    rw [R8_4] at h
    by_cases b0 : (decide (v5 < (↑(List.length x0) : Int))) = true
    · rw [if_pos b0] at h
      obtain ⟨s0, s1, h⟩ := h
      obtain ⟨s2, s3, h⟩ := h
      by_cases b1 : (!ByteArray.toList (List.getD x0 (Int.toNat v5) ByteArray.empty) == ByteArray.toList (List.getD x1 (Int.toNat v5) ByteArray.empty)) = true
      · rw [if_pos b1] at h
        subst h
        exact AtV.ret Tryz.func8 tabOk ext8Ok mixed false [] tys8 [true, true] (a1 b0 (a1 s0 (a1 s1 (a1 s2 (a1 s3 (a1 b1 trivial)))))) (by kernel_rfl)
      · rw [if_neg b1] at h
        replace b1 := Bool.eq_false_iff.2 b1
        obtain ⟨s4, h⟩ := h
        exact AtV.go tabOk ext8Ok mixed false [] [] [0, 1, 5] [] [true, false] (a1 b0 (a1 s0 (a1 s1 (a1 s2 (a1 s3 (a1 b1 (a1 s4 trivial))))))) (ih4 _ _ _ _ h K q) (by kernel_rfl)
    · rw [if_neg b0] at h
      replace b0 := Bool.eq_false_iff.2 b0
      subst h
      exact AtV.ret Tryz.func8 tabOk ext8Ok mixed false [] tys8 [false] (a1 b0 trivial) (by kernel_rfl)
theorem eq8 (x0 x1 : List (ByteArray)) (hl : x0.length = x1.length) (hm : x0.length ≤ maxLen) : ∀ k i : Nat, i + k = x0.length → R8_4 (k + 1) (i : Int) x0 x1 [⟨.bool, decide (x0.drop i = x1.drop i)⟩] := by
  intro k
  induction k with
  | zero =>
    intro i hi
    have h1 : ¬ (i : Int) < (x0.length : Int) := by omega
    rw [R8_4, if_neg (by simpa using h1), drop_end x0 i (by omega), drop_end x1 i (by omega)]
    simp
  | succ k ih =>
    intro i hi
    have h1 : (i : Int) < (x0.length : Int) := by omega
    rw [R8_4, if_pos (by simpa using h1)]
    refine ⟨by omega, h1, by omega, by omega, ?_⟩
    simp only [Int.toNat_natCast]
    rw [drop_get x0 i ByteArray.empty (by omega), drop_get x1 i ByteArray.empty (by omega)]
    by_cases he : x0.getD i ByteArray.empty = x1.getD i ByteArray.empty
    · have hd := (bytes_eq _ _).2 he
      rw [if_neg (by rw [hd]; simp)]
      refine ⟨inR_up hm (by omega), ?_⟩
      have := ih (i + 1) (by omega)
      simp only [he, List.cons.injEq, true_and]
      exact this
    · have hd : (ByteArray.toList (x0.getD i ByteArray.empty) == ByteArray.toList (x1.getD i ByteArray.empty)) = false :=
        (bytes_ne _ _).2 he
      rw [if_pos (by rw [hd]; rfl)]
      simp only [he, List.cons.injEq, false_and, decide_false]
def g8_0 (x0 x1 : List (ByteArray)) : Bool := decide (x0 = x1)
def P8 (x0 x1 : List (ByteArray)) : Prop := True
def S8 : Am.Spec := { sig := sig8, pre := fun ⟨x0, x1, _⟩ => P8 x0 x1, res := fun ⟨x0, x1, _⟩ => [⟨Ty.bool, g8_0 x0 x1⟩] }
theorem con8 : Contract Tryz.prog 8 S8 := contract_of Tryz.func8 hb8 (Nat.le_of_ble_eq_true (by kernel_rfl)) (fun ⟨x0, x1, _⟩ h hwf K q => by
  refine (snd8 (x0.length + 2)).1 x0 x1 _ ?_ K q
  show R8 (x0.length + 1 + 1) x0 x1 [⟨Ty.bool, decide (x0 = x1)⟩]
  rw [R8]
  by_cases hl : x0.length = x1.length
  · rw [if_neg (by simp [hl])]
    have := eq8 x0 x1 hl hwf.1.1 x0.length 0 (by omega)
    simpa using this
  · rw [if_pos (by simp; omega)]
    have : x0 ≠ x1 := fun h => hl (by rw [h])
    simp [this])
end
noncomputable section
def ext104 : Ext := []
theorem ext104Ok : ExtOk Tryz.prog ext104 := trivial
noncomputable def b104 : Code := bodyOf Tryz.f104
theorem hb104 : Tryz.f104.body = some b104 := by kernel_rfl
def sig104 : List AT := [AT.v YA3, AT.v YA3]
def tys104 : List Ty := [Ty.bool]
def kds104 : List RK := []
def oks104 : List AT := owns sig104
def P104 (x0 : ByteArray × Int × Int × Int × Unit) (x1 : ByteArray × Int × Int × Int × Unit) : Prop := True
def g104_0 (x0 : ByteArray × Int × Int × Int × Unit) (x1 : ByteArray × Int × Int × Int × Unit) : Bool := (if (!ByteArray.toList x0.1 == ByteArray.toList x1.1) = true then false else (if (x0.2.1 != x1.2.1) = true then false else (if (x0.2.2.1 != x1.2.2.1) = true then false else (if (x0.2.2.2.1 != x1.2.2.2.1) = true then false else true))))
theorem at104 (x0 : ByteArray × Int × Int × Int × Unit) (x1 : ByteArray × Int × Int × Int × Unit) (h : P104 x0 x1) (K : Ctx) (q : Nat → Value) : AtV Tryz.prog 104 (PostR kds104 oks104 [⟨Ty.bool, g104_0 x0 x1⟩] [] [] q K) 25 K q [] [.code b104] (entE 0 0 sig104 (x0, x1, ())) (entL sig104 (x0, x1, ())) := by
  unfold P104 at h
  unfold g104_0
  by_cases b0 : (!ByteArray.toList x0.1 == ByteArray.toList x1.1) = true
  · try simp only [if_pos b0] at h ⊢
    exact AtV.ret Tryz.func104 tabOk ext104Ok mixed false [] tys104 [true] (a1 b0 trivial) (by kernel_rfl)
  · try simp only [if_neg b0] at h ⊢
    replace b0 := Bool.eq_false_iff.2 b0
    by_cases b1 : (x0.2.1 != x1.2.1) = true
    · try simp only [if_pos b1] at h ⊢
      exact AtV.ret Tryz.func104 tabOk ext104Ok mixed false [] tys104 [false, true] (a1 b0 (a1 b1 trivial)) (by kernel_rfl)
    · try simp only [if_neg b1] at h ⊢
      replace b1 := Bool.eq_false_iff.2 b1
      by_cases b2 : (x0.2.2.1 != x1.2.2.1) = true
      · try simp only [if_pos b2] at h ⊢
        exact AtV.ret Tryz.func104 tabOk ext104Ok mixed false [] tys104 [false, false, true] (a1 b0 (a1 b1 (a1 b2 trivial))) (by kernel_rfl)
      · try simp only [if_neg b2] at h ⊢
        replace b2 := Bool.eq_false_iff.2 b2
        by_cases b3 : (x0.2.2.2.1 != x1.2.2.2.1) = true
        · try simp only [if_pos b3] at h ⊢
          exact AtV.ret Tryz.func104 tabOk ext104Ok mixed false [] tys104 [false, false, false, true] (a1 b0 (a1 b1 (a1 b2 (a1 b3 trivial)))) (by kernel_rfl)
        · try simp only [if_neg b3] at h ⊢
          replace b3 := Bool.eq_false_iff.2 b3
          exact AtV.ret Tryz.func104 tabOk ext104Ok mixed false [] tys104 [false, false, false, false] (a1 b0 (a1 b1 (a1 b2 (a1 b3 trivial)))) (by kernel_rfl)
def S104 : Am.Spec := { sig := sig104, pre := fun ⟨x0, x1, _⟩ => P104 x0 x1, res := fun ⟨x0, x1, _⟩ => [⟨Ty.bool, g104_0 x0 x1⟩], kds := kds104 }
theorem con104 : Contract Tryz.prog 104 S104 := contract_of Tryz.func104 hb104 (Nat.le_of_ble_eq_true (by kernel_rfl)) (fun ⟨x0, x1, _⟩ h _ K q => at104 x0 x1 h K q)
theorem eqd104 (x y : TyB0) : g104_0 x y = true ↔ x = y := by
  obtain ⟨a, b, c, d, u⟩ := x
  obtain ⟨a', b', c', d', u'⟩ := y
  unfold g104_0
  simp only [Bool.not_eq_true', bytes_ne, bne_iff_ne, ne_eq, ite_not]
  by_cases h0 : a = a'
  · by_cases h1 : b = b'
    · by_cases h2 : c = c'
      · by_cases h3 : d = d'
        · simp [h0, h1, h2, h3]
        · simp [h0, h1, h2, h3]
      · simp [h0, h1, h2]
    · simp [h0, h1]
  · simp [h0]
end
noncomputable section
def ext45 : Ext := [(104, S104)]
theorem ext45Ok : ExtOk Tryz.prog ext45 := ⟨⟨ca104, con104⟩, trivial⟩
noncomputable def b45 : Code := bodyOf Tryz.f45
theorem hb45 : Tryz.f45.body = some b45 := by kernel_rfl
def sig45 : List AT := [AT.v (Ty.sl YA3), AT.v (Ty.sl YA3)]
def tys45 : List Ty := [Ty.bool]
def kds45 : List RK := []
def oks45 : List AT := owns sig45
def E45_4 (v5 : Int) (x0 : List TyB0) (x1 : List TyB0) : Env := [(0, PV.a (Atom.sl YA3 x0)), (1, PV.a (Atom.sl YA3 x1)), (5, PV.a (Atom.val (Value.int .i64 v5)))]
def L45_4 (v5 : Int) (x0 : List TyB0) (x1 : List TyB0) : Heap := []
mutual
def R45 : Nat → List TyB0 → List TyB0 → List Dyn → Prop
  | 0, _, _, _ => False
  | n + 1, x0, x1, ds => (if ((↑(List.length x0) : Int) != (↑(List.length x1) : Int)) = true then (ds = [Dyn.mk Ty.bool false]) else (R45_4 n (0) (x0) (x1) ds))
def R45_4 : Nat → Int → List TyB0 → List TyB0 → List Dyn → Prop
  | 0, _, _, _, _ => False
  | n + 1, v5, x0, x1, ds => (if (decide (v5 < (↑(List.length x0) : Int))) = true then ((0 ≤ v5) ∧ (v5 < (↑(List.length x0) : Int)) ∧ ((0 ≤ v5) ∧ (v5 < (↑(List.length x1) : Int)) ∧ (if (!g104_0 (List.getD x0 (Int.toNat v5) (ByteArray.empty, 0, 0, 0, ())) (List.getD x1 (Int.toNat v5) (ByteArray.empty, 0, 0, 0, ()))) = true then (ds = [Dyn.mk Ty.bool false]) else ((InR .i64 (v5 + 1)) ∧ (R45_4 n (v5 + 1) (x0) (x1) ds))))) else (ds = [Dyn.mk Ty.bool true]))
end
theorem snd45 : ∀ n, (∀ (x0 : List TyB0) (x1 : List TyB0) ds, R45 n x0 x1 ds → ∀ K q, AtV Tryz.prog 45 (PostR kds45 oks45 ds [] [] q K) 27 K q [] [.code b45] (entE 0 0 sig45 (x0, x1, ())) (entL sig45 (x0, x1, ()))) ∧ (∀ (v5 : Int) (x0 : List TyB0) (x1 : List TyB0) ds, R45_4 n v5 x0 x1 ds → ∀ K q, AtV Tryz.prog 45 (PostR kds45 oks45 ds [] [] q K) 27 K q [] (cutAt b45 4) (E45_4 v5 x0 x1) (L45_4 v5 x0 x1)) := by
  intro n
  induction n with
  | zero => exact ⟨fun _ _ _ h => by simp only [R45] at h, fun _ _ _ _ h => by simp only [R45_4] at h⟩
  | succ n ih =>
  obtain ⟨ih, ih4⟩ := ih
  refine ⟨?_, ?_⟩
  · intro x0 x1 ds h K q
    rw [R45] at h
    by_cases b0 : ((↑(List.length x0) : Int) != (↑(List.length x1) : Int)) = true
    · rw [if_pos b0] at h
      subst h
      exact AtV.ret Tryz.func45 tabOk ext45Ok mixed false [] tys45 [true] (a1 b0 trivial) (by kernel_rfl)
    · rw [if_neg b0] at h
      replace b0 := Bool.eq_false_iff.2 b0
      exact AtV.go tabOk ext45Ok mixed false [] [] [0, 1, 5] [] [false] (a1 b0 trivial) (ih4 _ _ _ _ h K q) (by kernel_rfl)
  · intro v5 x0 x1 ds h K q
    rw [R45_4] at h
    by_cases b0 : (decide (v5 < (↑(List.length x0) : Int))) = true
    · rw [if_pos b0] at h
      obtain ⟨s0, s1, h⟩ := h
      obtain ⟨s2, s3, h⟩ := h
      by_cases b1 : (!g104_0 (List.getD x0 (Int.toNat v5) (ByteArray.empty, 0, 0, 0, ())) (List.getD x1 (Int.toNat v5) (ByteArray.empty, 0, 0, 0, ()))) = true
      · rw [if_pos b1] at h
        subst h
        exact AtV.ret Tryz.func45 tabOk ext45Ok mixed false [] tys45 [true, true] (a1 b0 (a1 s0 (a1 s1 (a1 s2 (a1 s3 (a1 trivial (a1 b1 trivial))))))) (by kernel_rfl)
      · rw [if_neg b1] at h
        replace b1 := Bool.eq_false_iff.2 b1
        obtain ⟨s4, h⟩ := h
        exact AtV.go tabOk ext45Ok mixed false [] [] [0, 1, 5] [] [true, false] (a1 b0 (a1 s0 (a1 s1 (a1 s2 (a1 s3 (a1 trivial (a1 b1 (a1 s4 trivial)))))))) (ih4 _ _ _ _ h K q) (by kernel_rfl)
    · rw [if_neg b0] at h
      replace b0 := Bool.eq_false_iff.2 b0
      subst h
      exact AtV.ret Tryz.func45 tabOk ext45Ok mixed false [] tys45 [false] (a1 b0 trivial) (by kernel_rfl)
theorem eq45 (x0 x1 : List TyB0) (hl : x0.length = x1.length) (hm : x0.length ≤ maxLen) : ∀ k i : Nat, i + k = x0.length → R45_4 (k + 1) (i : Int) x0 x1 [⟨.bool, decide (x0.drop i = x1.drop i)⟩] := by
  intro k
  induction k with
  | zero =>
    intro i hi
    have h1 : ¬ (i : Int) < (x0.length : Int) := by omega
    rw [R45_4, if_neg (by simpa using h1), drop_end x0 i (by omega), drop_end x1 i (by omega)]
    simp
  | succ k ih =>
    intro i hi
    have h1 : (i : Int) < (x0.length : Int) := by omega
    rw [R45_4, if_pos (by simpa using h1)]
    refine ⟨by omega, h1, by omega, by omega, ?_⟩
    simp only [Int.toNat_natCast]
    rw [drop_get x0 i (ByteArray.empty, (0 : Int), (0 : Int), (0 : Int), ()) (by omega), drop_get x1 i (ByteArray.empty, (0 : Int), (0 : Int), (0 : Int), ()) (by omega)]
    by_cases he : x0.getD i (ByteArray.empty, (0 : Int), (0 : Int), (0 : Int), ()) = x1.getD i (ByteArray.empty, (0 : Int), (0 : Int), (0 : Int), ())
    · have hd := (eqd104 _ _).2 he
      rw [if_neg (by rw [hd]; simp)]
      refine ⟨inR_up hm (by omega), ?_⟩
      have := ih (i + 1) (by omega)
      simp only [he, List.cons.injEq, true_and]
      exact this
    · have hd : g104_0 (x0.getD i (ByteArray.empty, (0 : Int), (0 : Int), (0 : Int), ())) (x1.getD i (ByteArray.empty, (0 : Int), (0 : Int), (0 : Int), ())) = false :=
        Bool.eq_false_iff.2 fun h => he ((eqd104 _ _).1 h)
      rw [if_pos (by rw [hd]; rfl)]
      simp only [he, List.cons.injEq, false_and, decide_false]
def g45_0 (x0 x1 : List TyB0) : Bool := decide (x0 = x1)
def P45 (x0 x1 : List TyB0) : Prop := True
def S45 : Am.Spec := { sig := sig45, pre := fun ⟨x0, x1, _⟩ => P45 x0 x1, res := fun ⟨x0, x1, _⟩ => [⟨Ty.bool, g45_0 x0 x1⟩] }
theorem con45 : Contract Tryz.prog 45 S45 := contract_of Tryz.func45 hb45 (Nat.le_of_ble_eq_true (by kernel_rfl)) (fun ⟨x0, x1, _⟩ h hwf K q => by
  refine (snd45 (x0.length + 2)).1 x0 x1 _ ?_ K q
  show R45 (x0.length + 1 + 1) x0 x1 [⟨Ty.bool, decide (x0 = x1)⟩]
  rw [R45]
  by_cases hl : x0.length = x1.length
  · rw [if_neg (by simp [hl])]
    have := eq45 x0 x1 hl hwf.1.1 x0.length 0 (by omega)
    simpa using this
  · rw [if_pos (by simp; omega)]
    have : x0 ≠ x1 := fun h => hl (by rw [h])
    simp [this])
end
noncomputable section
def ext46 : Ext := []
theorem ext46Ok : ExtOk Tryz.prog ext46 := trivial
noncomputable def b46 : Code := bodyOf Tryz.f46
theorem hb46 : Tryz.f46.body = some b46 := by kernel_rfl
def sig46 : List AT := [AT.v YA2, AT.v YA2]
def tys46 : List Ty := [Ty.bool]
def kds46 : List RK := []
def oks46 : List AT := owns sig46
def P46 (x0 : Int × Int × Int × Int × Unit) (x1 : Int × Int × Int × Int × Unit) : Prop := True
def g46_0 (x0 : Int × Int × Int × Int × Unit) (x1 : Int × Int × Int × Int × Unit) : Bool := (if (x0.1 != x1.1) = true then false else (if (x0.2.1 != x1.2.1) = true then false else (if (x0.2.2.1 != x1.2.2.1) = true then false else (if (x0.2.2.2.1 != x1.2.2.2.1) = true then false else true))))
theorem at46 (x0 : Int × Int × Int × Int × Unit) (x1 : Int × Int × Int × Int × Unit) (h : P46 x0 x1) (K : Ctx) (q : Nat → Value) : AtV Tryz.prog 46 (PostR kds46 oks46 [⟨Ty.bool, g46_0 x0 x1⟩] [] [] q K) 25 K q [] [.code b46] (entE 0 0 sig46 (x0, x1, ())) (entL sig46 (x0, x1, ())) := by
  unfold P46 at h
  unfold g46_0
  by_cases b0 : (x0.1 != x1.1) = true
  · try simp only [if_pos b0] at h ⊢
    exact AtV.ret Tryz.func46 tabOk ext46Ok mixed false [] tys46 [true] (a1 b0 trivial) (by kernel_rfl)
  · try simp only [if_neg b0] at h ⊢
    replace b0 := Bool.eq_false_iff.2 b0
    by_cases b1 : (x0.2.1 != x1.2.1) = true
    · try simp only [if_pos b1] at h ⊢
      exact AtV.ret Tryz.func46 tabOk ext46Ok mixed false [] tys46 [false, true] (a1 b0 (a1 b1 trivial)) (by kernel_rfl)
    · try simp only [if_neg b1] at h ⊢
      replace b1 := Bool.eq_false_iff.2 b1
      by_cases b2 : (x0.2.2.1 != x1.2.2.1) = true
      · try simp only [if_pos b2] at h ⊢
        exact AtV.ret Tryz.func46 tabOk ext46Ok mixed false [] tys46 [false, false, true] (a1 b0 (a1 b1 (a1 b2 trivial))) (by kernel_rfl)
      · try simp only [if_neg b2] at h ⊢
        replace b2 := Bool.eq_false_iff.2 b2
        by_cases b3 : (x0.2.2.2.1 != x1.2.2.2.1) = true
        · try simp only [if_pos b3] at h ⊢
          exact AtV.ret Tryz.func46 tabOk ext46Ok mixed false [] tys46 [false, false, false, true] (a1 b0 (a1 b1 (a1 b2 (a1 b3 trivial)))) (by kernel_rfl)
        · try simp only [if_neg b3] at h ⊢
          replace b3 := Bool.eq_false_iff.2 b3
          exact AtV.ret Tryz.func46 tabOk ext46Ok mixed false [] tys46 [false, false, false, false] (a1 b0 (a1 b1 (a1 b2 (a1 b3 trivial)))) (by kernel_rfl)
def S46 : Am.Spec := { sig := sig46, pre := fun ⟨x0, x1, _⟩ => P46 x0 x1, res := fun ⟨x0, x1, _⟩ => [⟨Ty.bool, g46_0 x0 x1⟩], kds := kds46 }
theorem con46 : Contract Tryz.prog 46 S46 := contract_of Tryz.func46 hb46 (Nat.le_of_ble_eq_true (by kernel_rfl)) (fun ⟨x0, x1, _⟩ h _ K q => at46 x0 x1 h K q)
end
noncomputable section
def ext105 : Ext := []
theorem ext105Ok : ExtOk Tryz.prog ext105 := trivial
noncomputable def b105 : Code := bodyOf Tryz.f105
theorem hb105 : Tryz.f105.body = some b105 := by kernel_rfl
def sig105 : List AT := [AT.v YA4, AT.v YA4]
def tys105 : List Ty := [Ty.bool]
def kds105 : List RK := []
def oks105 : List AT := owns sig105
def P105 (x0 : Int × Int × Int × Unit) (x1 : Int × Int × Int × Unit) : Prop := True
def g105_0 (x0 : Int × Int × Int × Unit) (x1 : Int × Int × Int × Unit) : Bool := (if (x0.1 != x1.1) = true then false else (if (x0.2.1 != x1.2.1) = true then false else (if (x0.2.2.1 != x1.2.2.1) = true then false else true)))
theorem at105 (x0 : Int × Int × Int × Unit) (x1 : Int × Int × Int × Unit) (h : P105 x0 x1) (K : Ctx) (q : Nat → Value) : AtV Tryz.prog 105 (PostR kds105 oks105 [⟨Ty.bool, g105_0 x0 x1⟩] [] [] q K) 20 K q [] [.code b105] (entE 0 0 sig105 (x0, x1, ())) (entL sig105 (x0, x1, ())) := by
  unfold P105 at h
  unfold g105_0
  by_cases b0 : (x0.1 != x1.1) = true
  · try simp only [if_pos b0] at h ⊢
    exact AtV.ret Tryz.func105 tabOk ext105Ok mixed false [] tys105 [true] (a1 b0 trivial) (by kernel_rfl)
  · try simp only [if_neg b0] at h ⊢
    replace b0 := Bool.eq_false_iff.2 b0
    by_cases b1 : (x0.2.1 != x1.2.1) = true
    · try simp only [if_pos b1] at h ⊢
      exact AtV.ret Tryz.func105 tabOk ext105Ok mixed false [] tys105 [false, true] (a1 b0 (a1 b1 trivial)) (by kernel_rfl)
    · try simp only [if_neg b1] at h ⊢
      replace b1 := Bool.eq_false_iff.2 b1
      by_cases b2 : (x0.2.2.1 != x1.2.2.1) = true
      · try simp only [if_pos b2] at h ⊢
        exact AtV.ret Tryz.func105 tabOk ext105Ok mixed false [] tys105 [false, false, true] (a1 b0 (a1 b1 (a1 b2 trivial))) (by kernel_rfl)
      · try simp only [if_neg b2] at h ⊢
        replace b2 := Bool.eq_false_iff.2 b2
        exact AtV.ret Tryz.func105 tabOk ext105Ok mixed false [] tys105 [false, false, false] (a1 b0 (a1 b1 (a1 b2 trivial))) (by kernel_rfl)
def S105 : Am.Spec := { sig := sig105, pre := fun ⟨x0, x1, _⟩ => P105 x0 x1, res := fun ⟨x0, x1, _⟩ => [⟨Ty.bool, g105_0 x0 x1⟩], kds := kds105 }
theorem con105 : Contract Tryz.prog 105 S105 := contract_of Tryz.func105 hb105 (Nat.le_of_ble_eq_true (by kernel_rfl)) (fun ⟨x0, x1, _⟩ h _ K q => at105 x0 x1 h K q)
theorem eqd105 (x y : TyB2) : g105_0 x y = true ↔ x = y := by
  obtain ⟨a, b, c, u⟩ := x
  obtain ⟨a', b', c', u'⟩ := y
  unfold g105_0
  simp only [Bool.not_eq_true', bytes_ne, bne_iff_ne, ne_eq, ite_not]
  by_cases h0 : a = a'
  · by_cases h1 : b = b'
    · by_cases h2 : c = c'
      · simp [h0, h1, h2]
      · simp [h0, h1, h2]
    · simp [h0, h1]
  · simp [h0]
end
noncomputable section
def ext47 : Ext := [(105, S105)]
theorem ext47Ok : ExtOk Tryz.prog ext47 := ⟨⟨ca105, con105⟩, trivial⟩
noncomputable def b47 : Code := bodyOf Tryz.f47
theorem hb47 : Tryz.f47.body = some b47 := by kernel_rfl
def sig47 : List AT := [AT.v (Ty.sl YA4), AT.v (Ty.sl YA4)]
def tys47 : List Ty := [Ty.bool]
def kds47 : List RK := []
def oks47 : List AT := owns sig47
def E47_4 (v5 : Int) (x0 : List TyB2) (x1 : List TyB2) : Env := [(0, PV.a (Atom.sl YA4 x0)), (1, PV.a (Atom.sl YA4 x1)), (5, PV.a (Atom.val (Value.int .i64 v5)))]
def L47_4 (v5 : Int) (x0 : List TyB2) (x1 : List TyB2) : Heap := []
mutual
def R47 : Nat → List TyB2 → List TyB2 → List Dyn → Prop
  | 0, _, _, _ => False
  | n + 1, x0, x1, ds => (if ((↑(List.length x0) : Int) != (↑(List.length x1) : Int)) = true then (ds = [Dyn.mk Ty.bool false]) else (R47_4 n (0) (x0) (x1) ds))
def R47_4 : Nat → Int → List TyB2 → List TyB2 → List Dyn → Prop
  | 0, _, _, _, _ => False
  | n + 1, v5, x0, x1, ds => (if (decide (v5 < (↑(List.length x0) : Int))) = true then ((0 ≤ v5) ∧ (v5 < (↑(List.length x0) : Int)) ∧ ((0 ≤ v5) ∧ (v5 < (↑(List.length x1) : Int)) ∧ (if (!g105_0 (List.getD x0 (Int.toNat v5) (0, 0, 0, ())) (List.getD x1 (Int.toNat v5) (0, 0, 0, ()))) = true then (ds = [Dyn.mk Ty.bool false]) else ((InR .i64 (v5 + 1)) ∧ (R47_4 n (v5 + 1) (x0) (x1) ds))))) else (ds = [Dyn.mk Ty.bool true]))
end
theorem snd47 : ∀ n, (∀ (x0 : List TyB2) (x1 : List TyB2) ds, R47 n x0 x1 ds → ∀ K q, AtV Tryz.prog 47 (PostR kds47 oks47 ds [] [] q K) 27 K q [] [.code b47] (entE 0 0 sig47 (x0, x1, ())) (entL sig47 (x0, x1, ()))) ∧ (∀ (v5 : Int) (x0 : List TyB2) (x1 : List TyB2) ds, R47_4 n v5 x0 x1 ds → ∀ K q, AtV Tryz.prog 47 (PostR kds47 oks47 ds [] [] q K) 27 K q [] (cutAt b47 4) (E47_4 v5 x0 x1) (L47_4 v5 x0 x1)) := by
  intro n
  induction n with
  | zero => exact ⟨fun _ _ _ h => by simp only [R47] at h, fun _ _ _ _ h => by simp only [R47_4] at h⟩
  | succ n ih =>
  obtain ⟨ih, ih4⟩ := ih
  refine ⟨?_, ?_⟩
  · intro x0 x1 ds h K q
    rw [R47] at h
    by_cases b0 : ((↑(List.length x0) : Int) != (↑(List.length x1) : Int)) = true
    · rw [if_pos b0] at h
      subst h
      exact AtV.ret Tryz.func47 tabOk ext47Ok mixed false [] tys47 [true] (a1 b0 trivial) (by kernel_rfl)
    · rw [if_neg b0] at h
      replace b0 := Bool.eq_false_iff.2 b0
      exact AtV.go tabOk ext47Ok mixed false [] [] [0, 1, 5] [] [false] (a1 b0 trivial) (ih4 _ _ _ _ h K q) (by kernel_rfl)
  · intro v5 x0 x1 ds h K q
    rw [R47_4] at h
    by_cases b0 : (decide (v5 < (↑(List.length x0) : Int))) = true
    · rw [if_pos b0] at h
      obtain ⟨s0, s1, h⟩ := h
      obtain ⟨s2, s3, h⟩ := h
      by_cases b1 : (!g105_0 (List.getD x0 (Int.toNat v5) (0, 0, 0, ())) (List.getD x1 (Int.toNat v5) (0, 0, 0, ()))) = true
      · rw [if_pos b1] at h
        subst h
        exact AtV.ret Tryz.func47 tabOk ext47Ok mixed false [] tys47 [true, true] (a1 b0 (a1 s0 (a1 s1 (a1 s2 (a1 s3 (a1 trivial (a1 b1 trivial))))))) (by kernel_rfl)
      · rw [if_neg b1] at h
        replace b1 := Bool.eq_false_iff.2 b1
        obtain ⟨s4, h⟩ := h
        exact AtV.go tabOk ext47Ok mixed false [] [] [0, 1, 5] [] [true, false] (a1 b0 (a1 s0 (a1 s1 (a1 s2 (a1 s3 (a1 trivial (a1 b1 (a1 s4 trivial)))))))) (ih4 _ _ _ _ h K q) (by kernel_rfl)
    · rw [if_neg b0] at h
      replace b0 := Bool.eq_false_iff.2 b0
      subst h
      exact AtV.ret Tryz.func47 tabOk ext47Ok mixed false [] tys47 [false] (a1 b0 trivial) (by kernel_rfl)
theorem eq47 (x0 x1 : List TyB2) (hl : x0.length = x1.length) (hm : x0.length ≤ maxLen) : ∀ k i : Nat, i + k = x0.length → R47_4 (k + 1) (i : Int) x0 x1 [⟨.bool, decide (x0.drop i = x1.drop i)⟩] := by
  intro k
  induction k with
  | zero =>
    intro i hi
    have h1 : ¬ (i : Int) < (x0.length : Int) := by omega
    rw [R47_4, if_neg (by simpa using h1), drop_end x0 i (by omega), drop_end x1 i (by omega)]
    simp
  | succ k ih =>
    intro i hi
    have h1 : (i : Int) < (x0.length : Int) := by omega
    rw [R47_4, if_pos (by simpa using h1)]
    refine ⟨by omega, h1, by omega, by omega, ?_⟩
    simp only [Int.toNat_natCast]
    rw [drop_get x0 i ((0 : Int), (0 : Int), (0 : Int), ()) (by omega), drop_get x1 i ((0 : Int), (0 : Int), (0 : Int), ()) (by omega)]
    by_cases he : x0.getD i ((0 : Int), (0 : Int), (0 : Int), ()) = x1.getD i ((0 : Int), (0 : Int), (0 : Int), ())
    · have hd := (eqd105 _ _).2 he
      rw [if_neg (by rw [hd]; simp)]
      refine ⟨inR_up hm (by omega), ?_⟩
      have := ih (i + 1) (by omega)
      simp only [he, List.cons.injEq, true_and]
      exact this
    · have hd : g105_0 (x0.getD i ((0 : Int), (0 : Int), (0 : Int), ())) (x1.getD i ((0 : Int), (0 : Int), (0 : Int), ())) = false :=
        Bool.eq_false_iff.2 fun h => he ((eqd105 _ _).1 h)
      rw [if_pos (by rw [hd]; rfl)]
      simp only [he, List.cons.injEq, false_and, decide_false]
def g47_0 (x0 x1 : List TyB2) : Bool := decide (x0 = x1)
def P47 (x0 x1 : List TyB2) : Prop := True
def S47 : Am.Spec := { sig := sig47, pre := fun ⟨x0, x1, _⟩ => P47 x0 x1, res := fun ⟨x0, x1, _⟩ => [⟨Ty.bool, g47_0 x0 x1⟩] }
theorem con47 : Contract Tryz.prog 47 S47 := contract_of Tryz.func47 hb47 (Nat.le_of_ble_eq_true (by kernel_rfl)) (fun ⟨x0, x1, _⟩ h hwf K q => by
  refine (snd47 (x0.length + 2)).1 x0 x1 _ ?_ K q
  show R47 (x0.length + 1 + 1) x0 x1 [⟨Ty.bool, decide (x0 = x1)⟩]
  rw [R47]
  by_cases hl : x0.length = x1.length
  · rw [if_neg (by simp [hl])]
    have := eq47 x0 x1 hl hwf.1.1 x0.length 0 (by omega)
    simpa using this
  · rw [if_pos (by simp; omega)]
    have : x0 ≠ x1 := fun h => hl (by rw [h])
    simp [this])
end
noncomputable section
def ext106 : Ext := []
theorem ext106Ok : ExtOk Tryz.prog ext106 := trivial
noncomputable def b106 : Code := bodyOf Tryz.f106
theorem hb106 : Tryz.f106.body = some b106 := by kernel_rfl
def sig106 : List AT := [AT.v YA4, AT.v YA4]
def tys106 : List Ty := [Ty.bool]
def kds106 : List RK := []
def oks106 : List AT := owns sig106
def P106 (x0 : Int × Int × Int × Unit) (x1 : Int × Int × Int × Unit) : Prop := True
def g106_0 (x0 : Int × Int × Int × Unit) (x1 : Int × Int × Int × Unit) : Bool := (if (x0.1 != x1.1) = true then false else (if (x0.2.1 != x1.2.1) = true then false else (if (x0.2.2.1 != x1.2.2.1) = true then false else true)))
theorem at106 (x0 : Int × Int × Int × Unit) (x1 : Int × Int × Int × Unit) (h : P106 x0 x1) (K : Ctx) (q : Nat → Value) : AtV Tryz.prog 106 (PostR kds106 oks106 [⟨Ty.bool, g106_0 x0 x1⟩] [] [] q K) 20 K q [] [.code b106] (entE 0 0 sig106 (x0, x1, ())) (entL sig106 (x0, x1, ())) := by
  unfold P106 at h
  unfold g106_0
  by_cases b0 : (x0.1 != x1.1) = true
  · try simp only [if_pos b0] at h ⊢
    exact AtV.ret Tryz.func106 tabOk ext106Ok mixed false [] tys106 [true] (a1 b0 trivial) (by kernel_rfl)
  · try simp only [if_neg b0] at h ⊢
    replace b0 := Bool.eq_false_iff.2 b0
    by_cases b1 : (x0.2.1 != x1.2.1) = true
    · try simp only [if_pos b1] at h ⊢
      exact AtV.ret Tryz.func106 tabOk ext106Ok mixed false [] tys106 [false, true] (a1 b0 (a1 b1 trivial)) (by kernel_rfl)
    · try simp only [if_neg b1] at h ⊢
      replace b1 := Bool.eq_false_iff.2 b1
      by_cases b2 : (x0.2.2.1 != x1.2.2.1) = true
      · try simp only [if_pos b2] at h ⊢
        exact AtV.ret Tryz.func106 tabOk ext106Ok mixed false [] tys106 [false, false, true] (a1 b0 (a1 b1 (a1 b2 trivial))) (by kernel_rfl)
      · try simp only [if_neg b2] at h ⊢
        replace b2 := Bool.eq_false_iff.2 b2
        exact AtV.ret Tryz.func106 tabOk ext106Ok mixed false [] tys106 [false, false, false] (a1 b0 (a1 b1 (a1 b2 trivial))) (by kernel_rfl)
def S106 : Am.Spec := { sig := sig106, pre := fun ⟨x0, x1, _⟩ => P106 x0 x1, res := fun ⟨x0, x1, _⟩ => [⟨Ty.bool, g106_0 x0 x1⟩], kds := kds106 }
theorem con106 : Contract Tryz.prog 106 S106 := contract_of Tryz.func106 hb106 (Nat.le_of_ble_eq_true (by kernel_rfl)) (fun ⟨x0, x1, _⟩ h _ K q => at106 x0 x1 h K q)
theorem eqd106 (x y : TyB2) : g106_0 x y = true ↔ x = y := by
  obtain ⟨a, b, c, u⟩ := x
  obtain ⟨a', b', c', u'⟩ := y
  unfold g106_0
  simp only [Bool.not_eq_true', bytes_ne, bne_iff_ne, ne_eq, ite_not]
  by_cases h0 : a = a'
  · by_cases h1 : b = b'
    · by_cases h2 : c = c'
      · simp [h0, h1, h2]
      · simp [h0, h1, h2]
    · simp [h0, h1]
  · simp [h0]
end
noncomputable section
def ext48 : Ext := [(106, S106)]
theorem ext48Ok : ExtOk Tryz.prog ext48 := ⟨⟨ca106, con106⟩, trivial⟩
noncomputable def b48 : Code := bodyOf Tryz.f48
theorem hb48 : Tryz.f48.body = some b48 := by kernel_rfl
def sig48 : List AT := [AT.v (Ty.sl YA4), AT.v (Ty.sl YA4)]
def tys48 : List Ty := [Ty.bool]
def kds48 : List RK := []
def oks48 : List AT := owns sig48
def E48_4 (v5 : Int) (x0 : List TyB2) (x1 : List TyB2) : Env := [(0, PV.a (Atom.sl YA4 x0)), (1, PV.a (Atom.sl YA4 x1)), (5, PV.a (Atom.val (Value.int .i64 v5)))]
def L48_4 (v5 : Int) (x0 : List TyB2) (x1 : List TyB2) : Heap := []
mutual
def R48 : Nat → List TyB2 → List TyB2 → List Dyn → Prop
  | 0, _, _, _ => False
  | n + 1, x0, x1, ds => (if ((↑(List.length x0) : Int) != (↑(List.length x1) : Int)) = true then (ds = [Dyn.mk Ty.bool false]) else (R48_4 n (0) (x0) (x1) ds))
def R48_4 : Nat → Int → List TyB2 → List TyB2 → List Dyn → Prop
  | 0, _, _, _, _ => False
  | n + 1, v5, x0, x1, ds => (if (decide (v5 < (↑(List.length x0) : Int))) = true then ((0 ≤ v5) ∧ (v5 < (↑(List.length x0) : Int)) ∧ ((0 ≤ v5) ∧ (v5 < (↑(List.length x1) : Int)) ∧ (if (!g106_0 (List.getD x0 (Int.toNat v5) (0, 0, 0, ())) (List.getD x1 (Int.toNat v5) (0, 0, 0, ()))) = true then (ds = [Dyn.mk Ty.bool false]) else ((InR .i64 (v5 + 1)) ∧ (R48_4 n (v5 + 1) (x0) (x1) ds))))) else (ds = [Dyn.mk Ty.bool true]))
end
theorem snd48 : ∀ n, (∀ (x0 : List TyB2) (x1 : List TyB2) ds, R48 n x0 x1 ds → ∀ K q, AtV Tryz.prog 48 (PostR kds48 oks48 ds [] [] q K) 27 K q [] [.code b48] (entE 0 0 sig48 (x0, x1, ())) (entL sig48 (x0, x1, ()))) ∧ (∀ (v5 : Int) (x0 : List TyB2) (x1 : List TyB2) ds, R48_4 n v5 x0 x1 ds → ∀ K q, AtV Tryz.prog 48 (PostR kds48 oks48 ds [] [] q K) 27 K q [] (cutAt b48 4) (E48_4 v5 x0 x1) (L48_4 v5 x0 x1)) := by
  intro n
  induction n with
  | zero => exact ⟨fun _ _ _ h => by simp only [R48] at h, fun _ _ _ _ h => by simp only [R48_4] at h⟩
  | succ n ih =>
  obtain ⟨ih, ih4⟩ := ih
  refine ⟨?_, ?_⟩
  · intro x0 x1 ds h K q
    rw [R48] at h
    by_cases b0 : ((↑(List.length x0) : Int) != (↑(List.length x1) : Int)) = true
    · rw [if_pos b0] at h
      subst h
      exact AtV.ret Tryz.func48 tabOk ext48Ok mixed false [] tys48 [true] (a1 b0 trivial) (by kernel_rfl)
    · rw [if_neg b0] at h
      replace b0 := Bool.eq_false_iff.2 b0
      exact AtV.go tabOk ext48Ok mixed false [] [] [0, 1, 5] [] [false] (a1 b0 trivial) (ih4 _ _ _ _ h K q) (by kernel_rfl)
  · intro v5 x0 x1 ds h K q
    rw [R48_4] at h
    by_cases b0 : (decide (v5 < (↑(List.length x0) : Int))) = true
    · rw [if_pos b0] at h
      obtain ⟨s0, s1, h⟩ := h
      obtain ⟨s2, s3, h⟩ := h
      by_cases b1 : (!g106_0 (List.getD x0 (Int.toNat v5) (0, 0, 0, ())) (List.getD x1 (Int.toNat v5) (0, 0, 0, ()))) = true
      · rw [if_pos b1] at h
        subst h
        exact AtV.ret Tryz.func48 tabOk ext48Ok mixed false [] tys48 [true, true] (a1 b0 (a1 s0 (a1 s1 (a1 s2 (a1 s3 (a1 trivial (a1 b1 trivial))))))) (by kernel_rfl)
      · rw [if_neg b1] at h
        replace b1 := Bool.eq_false_iff.2 b1
        obtain ⟨s4, h⟩ := h
        exact AtV.go tabOk ext48Ok mixed false [] [] [0, 1, 5] [] [true, false] (a1 b0 (a1 s0 (a1 s1 (a1 s2 (a1 s3 (a1 trivial (a1 b1 (a1 s4 trivial)))))))) (ih4 _ _ _ _ h K q) (by kernel_rfl)
    · rw [if_neg b0] at h
      replace b0 := Bool.eq_false_iff.2 b0
      subst h
      exact AtV.ret Tryz.func48 tabOk ext48Ok mixed false [] tys48 [false] (a1 b0 trivial) (by kernel_rfl)
theorem eq48 (x0 x1 : List TyB2) (hl : x0.length = x1.length) (hm : x0.length ≤ maxLen) : ∀ k i : Nat, i + k = x0.length → R48_4 (k + 1) (i : Int) x0 x1 [⟨.bool, decide (x0.drop i = x1.drop i)⟩] := by
  intro k
  induction k with
  | zero =>
    intro i hi
    have h1 : ¬ (i : Int) < (x0.length : Int) := by omega
    rw [R48_4, if_neg (by simpa using h1), drop_end x0 i (by omega), drop_end x1 i (by omega)]
    simp
  | succ k ih =>
    intro i hi
    have h1 : (i : Int) < (x0.length : Int) := by omega
    rw [R48_4, if_pos (by simpa using h1)]
    refine ⟨by omega, h1, by omega, by omega, ?_⟩
    simp only [Int.toNat_natCast]
    rw [drop_get x0 i ((0 : Int), (0 : Int), (0 : Int), ()) (by omega), drop_get x1 i ((0 : Int), (0 : Int), (0 : Int), ()) (by omega)]
    by_cases he : x0.getD i ((0 : Int), (0 : Int), (0 : Int), ()) = x1.getD i ((0 : Int), (0 : Int), (0 : Int), ())
    · have hd := (eqd106 _ _).2 he
      rw [if_neg (by rw [hd]; simp)]
      refine ⟨inR_up hm (by omega), ?_⟩
      have := ih (i + 1) (by omega)
      simp only [he, List.cons.injEq, true_and]
      exact this
    · have hd : g106_0 (x0.getD i ((0 : Int), (0 : Int), (0 : Int), ())) (x1.getD i ((0 : Int), (0 : Int), (0 : Int), ())) = false :=
        Bool.eq_false_iff.2 fun h => he ((eqd106 _ _).1 h)
      rw [if_pos (by rw [hd]; rfl)]
      simp only [he, List.cons.injEq, false_and, decide_false]
def g48_0 (x0 x1 : List TyB2) : Bool := decide (x0 = x1)
def P48 (x0 x1 : List TyB2) : Prop := True
def S48 : Am.Spec := { sig := sig48, pre := fun ⟨x0, x1, _⟩ => P48 x0 x1, res := fun ⟨x0, x1, _⟩ => [⟨Ty.bool, g48_0 x0 x1⟩] }
theorem con48 : Contract Tryz.prog 48 S48 := contract_of Tryz.func48 hb48 (Nat.le_of_ble_eq_true (by kernel_rfl)) (fun ⟨x0, x1, _⟩ h hwf K q => by
  refine (snd48 (x0.length + 2)).1 x0 x1 _ ?_ K q
  show R48 (x0.length + 1 + 1) x0 x1 [⟨Ty.bool, decide (x0 = x1)⟩]
  rw [R48]
  by_cases hl : x0.length = x1.length
  · rw [if_neg (by simp [hl])]
    have := eq48 x0 x1 hl hwf.1.1 x0.length 0 (by omega)
    simpa using this
  · rw [if_pos (by simp; omega)]
    have : x0 ≠ x1 := fun h => hl (by rw [h])
    simp [this])
end
noncomputable section
def ext49 : Ext := []
theorem ext49Ok : ExtOk Tryz.prog ext49 := trivial
noncomputable def b49 : Code := bodyOf Tryz.f49
theorem hb49 : Tryz.f49.body = some b49 := by kernel_rfl
def sig49 : List AT := [AT.v YA4, AT.v YA4]
def tys49 : List Ty := [Ty.bool]
def kds49 : List RK := []
def oks49 : List AT := owns sig49
def P49 (x0 : Int × Int × Int × Unit) (x1 : Int × Int × Int × Unit) : Prop := True
def g49_0 (x0 : Int × Int × Int × Unit) (x1 : Int × Int × Int × Unit) : Bool := (if (x0.1 != x1.1) = true then false else (if (x0.2.1 != x1.2.1) = true then false else (if (x0.2.2.1 != x1.2.2.1) = true then false else true)))
theorem at49 (x0 : Int × Int × Int × Unit) (x1 : Int × Int × Int × Unit) (h : P49 x0 x1) (K : Ctx) (q : Nat → Value) : AtV Tryz.prog 49 (PostR kds49 oks49 [⟨Ty.bool, g49_0 x0 x1⟩] [] [] q K) 20 K q [] [.code b49] (entE 0 0 sig49 (x0, x1, ())) (entL sig49 (x0, x1, ())) := by
  unfold P49 at h
  unfold g49_0
  by_cases b0 : (x0.1 != x1.1) = true
  · try simp only [if_pos b0] at h ⊢
    exact AtV.ret Tryz.func49 tabOk ext49Ok mixed false [] tys49 [true] (a1 b0 trivial) (by kernel_rfl)
  · try simp only [if_neg b0] at h ⊢
    replace b0 := Bool.eq_false_iff.2 b0
    by_cases b1 : (x0.2.1 != x1.2.1) = true
    · try simp only [if_pos b1] at h ⊢
      exact AtV.ret Tryz.func49 tabOk ext49Ok mixed false [] tys49 [false, true] (a1 b0 (a1 b1 trivial)) (by kernel_rfl)
    · try simp only [if_neg b1] at h ⊢
      replace b1 := Bool.eq_false_iff.2 b1
      by_cases b2 : (x0.2.2.1 != x1.2.2.1) = true
      · try simp only [if_pos b2] at h ⊢
        exact AtV.ret Tryz.func49 tabOk ext49Ok mixed false [] tys49 [false, false, true] (a1 b0 (a1 b1 (a1 b2 trivial))) (by kernel_rfl)
      · try simp only [if_neg b2] at h ⊢
        replace b2 := Bool.eq_false_iff.2 b2
        exact AtV.ret Tryz.func49 tabOk ext49Ok mixed false [] tys49 [false, false, false] (a1 b0 (a1 b1 (a1 b2 trivial))) (by kernel_rfl)
def S49 : Am.Spec := { sig := sig49, pre := fun ⟨x0, x1, _⟩ => P49 x0 x1, res := fun ⟨x0, x1, _⟩ => [⟨Ty.bool, g49_0 x0 x1⟩], kds := kds49 }
theorem con49 : Contract Tryz.prog 49 S49 := contract_of Tryz.func49 hb49 (Nat.le_of_ble_eq_true (by kernel_rfl)) (fun ⟨x0, x1, _⟩ h _ K q => at49 x0 x1 h K q)
end
noncomputable section
def ext50 : Ext := []
theorem ext50Ok : ExtOk Tryz.prog ext50 := trivial
noncomputable def b50 : Code := bodyOf Tryz.f50
theorem hb50 : Tryz.f50.body = some b50 := by kernel_rfl
def sig50 : List AT := [AT.v YA4, AT.v YA4]
def tys50 : List Ty := [Ty.bool]
def kds50 : List RK := []
def oks50 : List AT := owns sig50
def P50 (x0 : Int × Int × Int × Unit) (x1 : Int × Int × Int × Unit) : Prop := True
def g50_0 (x0 : Int × Int × Int × Unit) (x1 : Int × Int × Int × Unit) : Bool := (if (x0.1 != x1.1) = true then false else (if (x0.2.1 != x1.2.1) = true then false else (if (x0.2.2.1 != x1.2.2.1) = true then false else true)))
theorem at50 (x0 : Int × Int × Int × Unit) (x1 : Int × Int × Int × Unit) (h : P50 x0 x1) (K : Ctx) (q : Nat → Value) : AtV Tryz.prog 50 (PostR kds50 oks50 [⟨Ty.bool, g50_0 x0 x1⟩] [] [] q K) 20 K q [] [.code b50] (entE 0 0 sig50 (x0, x1, ())) (entL sig50 (x0, x1, ())) := by
  unfold P50 at h
  unfold g50_0
  by_cases b0 : (x0.1 != x1.1) = true
  · try simp only [if_pos b0] at h ⊢
    exact AtV.ret Tryz.func50 tabOk ext50Ok mixed false [] tys50 [true] (a1 b0 trivial) (by kernel_rfl)
  · try simp only [if_neg b0] at h ⊢
    replace b0 := Bool.eq_false_iff.2 b0
    by_cases b1 : (x0.2.1 != x1.2.1) = true
    · try simp only [if_pos b1] at h ⊢
      exact AtV.ret Tryz.func50 tabOk ext50Ok mixed false [] tys50 [false, true] (a1 b0 (a1 b1 trivial)) (by kernel_rfl)
    · try simp only [if_neg b1] at h ⊢
      replace b1 := Bool.eq_false_iff.2 b1
      by_cases b2 : (x0.2.2.1 != x1.2.2.1) = true
      · try simp only [if_pos b2] at h ⊢
        exact AtV.ret Tryz.func50 tabOk ext50Ok mixed false [] tys50 [false, false, true] (a1 b0 (a1 b1 (a1 b2 trivial))) (by kernel_rfl)
      · try simp only [if_neg b2] at h ⊢
        replace b2 := Bool.eq_false_iff.2 b2
        exact AtV.ret Tryz.func50 tabOk ext50Ok mixed false [] tys50 [false, false, false] (a1 b0 (a1 b1 (a1 b2 trivial))) (by kernel_rfl)
def S50 : Am.Spec := { sig := sig50, pre := fun ⟨x0, x1, _⟩ => P50 x0 x1, res := fun ⟨x0, x1, _⟩ => [⟨Ty.bool, g50_0 x0 x1⟩], kds := kds50 }
theorem con50 : Contract Tryz.prog 50 S50 := contract_of Tryz.func50 hb50 (Nat.le_of_ble_eq_true (by kernel_rfl)) (fun ⟨x0, x1, _⟩ h _ K q => at50 x0 x1 h K q)
end
noncomputable section
def ext107 : Ext := []
theorem ext107Ok : ExtOk Tryz.prog ext107 := trivial
noncomputable def b107 : Code := bodyOf Tryz.f107
theorem hb107 : Tryz.f107.body = some b107 := by kernel_rfl
def sig107 : List AT := [AT.v YA5, AT.v YA5]
def tys107 : List Ty := [Ty.bool]
def kds107 : List RK := []
def oks107 : List AT := owns sig107
def P107 (x0 : ByteArray × Int × Int × Unit) (x1 : ByteArray × Int × Int × Unit) : Prop := True
def g107_0 (x0 : ByteArray × Int × Int × Unit) (x1 : ByteArray × Int × Int × Unit) : Bool := (if (!ByteArray.toList x0.1 == ByteArray.toList x1.1) = true then false else (if (x0.2.1 != x1.2.1) = true then false else (if (x0.2.2.1 != x1.2.2.1) = true then false else true)))
theorem at107 (x0 : ByteArray × Int × Int × Unit) (x1 : ByteArray × Int × Int × Unit) (h : P107 x0 x1) (K : Ctx) (q : Nat → Value) : AtV Tryz.prog 107 (PostR kds107 oks107 [⟨Ty.bool, g107_0 x0 x1⟩] [] [] q K) 20 K q [] [.code b107] (entE 0 0 sig107 (x0, x1, ())) (entL sig107 (x0, x1, ())) := by
  unfold P107 at h
  unfold g107_0
  by_cases b0 : (!ByteArray.toList x0.1 == ByteArray.toList x1.1) = true
  · try simp only [if_pos b0] at h ⊢
    exact AtV.ret Tryz.func107 tabOk ext107Ok mixed false [] tys107 [true] (a1 b0 trivial) (by kernel_rfl)
  · try simp only [if_neg b0] at h ⊢
    replace b0 := Bool.eq_false_iff.2 b0
    by_cases b1 : (x0.2.1 != x1.2.1) = true
    · try simp only [if_pos b1] at h ⊢
      exact AtV.ret Tryz.func107 tabOk ext107Ok mixed false [] tys107 [false, true] (a1 b0 (a1 b1 trivial)) (by kernel_rfl)
    · try simp only [if_neg b1] at h ⊢
      replace b1 := Bool.eq_false_iff.2 b1
      by_cases b2 : (x0.2.2.1 != x1.2.2.1) = true
      · try simp only [if_pos b2] at h ⊢
        exact AtV.ret Tryz.func107 tabOk ext107Ok mixed false [] tys107 [false, false, true] (a1 b0 (a1 b1 (a1 b2 trivial))) (by kernel_rfl)
      · try simp only [if_neg b2] at h ⊢
        replace b2 := Bool.eq_false_iff.2 b2
        exact AtV.ret Tryz.func107 tabOk ext107Ok mixed false [] tys107 [false, false, false] (a1 b0 (a1 b1 (a1 b2 trivial))) (by kernel_rfl)
def S107 : Am.Spec := { sig := sig107, pre := fun ⟨x0, x1, _⟩ => P107 x0 x1, res := fun ⟨x0, x1, _⟩ => [⟨Ty.bool, g107_0 x0 x1⟩], kds := kds107 }
theorem con107 : Contract Tryz.prog 107 S107 := contract_of Tryz.func107 hb107 (Nat.le_of_ble_eq_true (by kernel_rfl)) (fun ⟨x0, x1, _⟩ h _ K q => at107 x0 x1 h K q)
theorem eqd107 (x y : TyB1) : g107_0 x y = true ↔ x = y := by
  obtain ⟨a, b, c, u⟩ := x
  obtain ⟨a', b', c', u'⟩ := y
  unfold g107_0
  simp only [Bool.not_eq_true', bytes_ne, bne_iff_ne, ne_eq, ite_not]
  by_cases h0 : a = a'
  · by_cases h1 : b = b'
    · by_cases h2 : c = c'
      · simp [h0, h1, h2]
      · simp [h0, h1, h2]
    · simp [h0, h1]
  · simp [h0]
end
noncomputable section
def ext51 : Ext := [(107, S107)]
theorem ext51Ok : ExtOk Tryz.prog ext51 := ⟨⟨ca107, con107⟩, trivial⟩
noncomputable def b51 : Code := bodyOf Tryz.f51
theorem hb51 : Tryz.f51.body = some b51 := by kernel_rfl
def sig51 : List AT := [AT.v (Ty.sl YA5), AT.v (Ty.sl YA5)]
def tys51 : List Ty := [Ty.bool]
def kds51 : List RK := []
def oks51 : List AT := owns sig51
def E51_4 (v5 : Int) (x0 : List TyB1) (x1 : List TyB1) : Env := [(0, PV.a (Atom.sl YA5 x0)), (1, PV.a (Atom.sl YA5 x1)), (5, PV.a (Atom.val (Value.int .i64 v5)))]
def L51_4 (v5 : Int) (x0 : List TyB1) (x1 : List TyB1) : Heap := []
mutual
def R51 : Nat → List TyB1 → List TyB1 → List Dyn → Prop
  | 0, _, _, _ => False
  | n + 1, x0, x1, ds => (if ((↑(List.length x0) : Int) != (↑(List.length x1) : Int)) = true then (ds = [Dyn.mk Ty.bool false]) else (R51_4 n (0) (x0) (x1) ds))
def R51_4 : Nat → Int → List TyB1 → List TyB1 → List Dyn → Prop
  | 0, _, _, _, _ => False
  | n + 1, v5, x0, x1, ds => (if (decide (v5 < (↑(List.length x0) : Int))) = true then ((0 ≤ v5) ∧ (v5 < (↑(List.length x0) : Int)) ∧ ((0 ≤ v5) ∧ (v5 < (↑(List.length x1) : Int)) ∧ (if (!g107_0 (List.getD x0 (Int.toNat v5) (ByteArray.empty, 0, 0, ())) (List.getD x1 (Int.toNat v5) (ByteArray.empty, 0, 0, ()))) = true then (ds = [Dyn.mk Ty.bool false]) else ((InR .i64 (v5 + 1)) ∧ (R51_4 n (v5 + 1) (x0) (x1) ds))))) else (ds = [Dyn.mk Ty.bool true]))
end
theorem snd51 : ∀ n, (∀ (x0 : List TyB1) (x1 : List TyB1) ds, R51 n x0 x1 ds → ∀ K q, AtV Tryz.prog 51 (PostR kds51 oks51 ds [] [] q K) 27 K q [] [.code b51] (entE 0 0 sig51 (x0, x1, ())) (entL sig51 (x0, x1, ()))) ∧ (∀ (v5 : Int) (x0 : List TyB1) (x1 : List TyB1) ds, R51_4 n v5 x0 x1 ds → ∀ K q, AtV Tryz.prog 51 (PostR kds51 oks51 ds [] [] q K) 27 K q [] (cutAt b51 4) (E51_4 v5 x0 x1) (L51_4 v5 x0 x1)) := by
  intro n
  induction n with
  | zero => exact ⟨fun _ _ _ h => by simp only [R51] at h, fun _ _ _ _ h => by simp only [R51_4] at h⟩
  | succ n ih =>
  obtain ⟨ih, ih4⟩ := ih
  refine ⟨?_, ?_⟩
  · intro x0 x1 ds h K q
    rw [R51] at h
    by_cases b0 : ((↑(List.length x0) : Int) != (↑(List.length x1) : Int)) = true
    · rw [if_pos b0] at h
      subst h
      exact AtV.ret Tryz.func51 tabOk ext51Ok mixed false [] tys51 [true] (a1 b0 trivial) (by kernel_rfl)
    · rw [if_neg b0] at h
      replace b0 := Bool.eq_false_iff.2 b0
      exact AtV.go tabOk ext51Ok mixed false [] [] [0, 1, 5] [] [false] (a1 b0 trivial) (ih4 _ _ _ _ h K q) (by kernel_rfl)
  · intro v5 x0 x1 ds h K q
    rw [R51_4] at h
    by_cases b0 : (decide (v5 < (↑(List.length x0) : Int))) = true
    · rw [if_pos b0] at h
      obtain ⟨s0, s1, h⟩ := h
      obtain ⟨s2, s3, h⟩ := h
      by_cases b1 : (!g107_0 (List.getD x0 (Int.toNat v5) (ByteArray.empty, 0, 0, ())) (List.getD x1 (Int.toNat v5) (ByteArray.empty, 0, 0, ()))) = true
      · rw [if_pos b1] at h
        subst h
        exact AtV.ret Tryz.func51 tabOk ext51Ok mixed false [] tys51 [true, true] (a1 b0 (a1 s0 (a1 s1 (a1 s2 (a1 s3 (a1 trivial (a1 b1 trivial))))))) (by kernel_rfl)
      · rw [if_neg b1] at h
        replace b1 := Bool.eq_false_iff.2 b1
        obtain ⟨s4, h⟩ := h
        exact AtV.go tabOk ext51Ok mixed false [] [] [0, 1, 5] [] [true, false] (a1 b0 (a1 s0 (a1 s1 (a1 s2 (a1 s3 (a1 trivial (a1 b1 (a1 s4 trivial)))))))) (ih4 _ _ _ _ h K q) (by kernel_rfl)
    · rw [if_neg b0] at h
      replace b0 := Bool.eq_false_iff.2 b0
      subst h
      exact AtV.ret Tryz.func51 tabOk ext51Ok mixed false [] tys51 [false] (a1 b0 trivial) (by kernel_rfl)
theorem eq51 (x0 x1 : List TyB1) (hl : x0.length = x1.length) (hm : x0.length ≤ maxLen) : ∀ k i : Nat, i + k = x0.length → R51_4 (k + 1) (i : Int) x0 x1 [⟨.bool, decide (x0.drop i = x1.drop i)⟩] := by
  intro k
  induction k with
  | zero =>
    intro i hi
    have h1 : ¬ (i : Int) < (x0.length : Int) := by omega
    rw [R51_4, if_neg (by simpa using h1), drop_end x0 i (by omega), drop_end x1 i (by omega)]
    simp
  | succ k ih =>
    intro i hi
    have h1 : (i : Int) < (x0.length : Int) := by omega
    rw [R51_4, if_pos (by simpa using h1)]
    refine ⟨by omega, h1, by omega, by omega, ?_⟩
    simp only [Int.toNat_natCast]
    rw [drop_get x0 i (ByteArray.empty, (0 : Int), (0 : Int), ()) (by omega), drop_get x1 i (ByteArray.empty, (0 : Int), (0 : Int), ()) (by omega)]
    by_cases he : x0.getD i (ByteArray.empty, (0 : Int), (0 : Int), ()) = x1.getD i (ByteArray.empty, (0 : Int), (0 : Int), ())
    · have hd := (eqd107 _ _).2 he
      rw [if_neg (by rw [hd]; simp)]
      refine ⟨inR_up hm (by omega), ?_⟩
      have := ih (i + 1) (by omega)
      simp only [he, List.cons.injEq, true_and]
      exact this
    · have hd : g107_0 (x0.getD i (ByteArray.empty, (0 : Int), (0 : Int), ())) (x1.getD i (ByteArray.empty, (0 : Int), (0 : Int), ())) = false :=
        Bool.eq_false_iff.2 fun h => he ((eqd107 _ _).1 h)
      rw [if_pos (by rw [hd]; rfl)]
      simp only [he, List.cons.injEq, false_and, decide_false]
def g51_0 (x0 x1 : List TyB1) : Bool := decide (x0 = x1)
def P51 (x0 x1 : List TyB1) : Prop := True
def S51 : Am.Spec := { sig := sig51, pre := fun ⟨x0, x1, _⟩ => P51 x0 x1, res := fun ⟨x0, x1, _⟩ => [⟨Ty.bool, g51_0 x0 x1⟩] }
theorem con51 : Contract Tryz.prog 51 S51 := contract_of Tryz.func51 hb51 (Nat.le_of_ble_eq_true (by kernel_rfl)) (fun ⟨x0, x1, _⟩ h hwf K q => by
  refine (snd51 (x0.length + 2)).1 x0 x1 _ ?_ K q
  show R51 (x0.length + 1 + 1) x0 x1 [⟨Ty.bool, decide (x0 = x1)⟩]
  rw [R51]
  by_cases hl : x0.length = x1.length
  · rw [if_neg (by simp [hl])]
    have := eq51 x0 x1 hl hwf.1.1 x0.length 0 (by omega)
    simpa using this
  · rw [if_pos (by simp; omega)]
    have : x0 ≠ x1 := fun h => hl (by rw [h])
    simp [this])
end
noncomputable section
def ext52 : Ext := []
theorem ext52Ok : ExtOk Tryz.prog ext52 := trivial
noncomputable def b52 : Code := bodyOf Tryz.f52
theorem hb52 : Tryz.f52.body = some b52 := by kernel_rfl
def sig52 : List AT := [AT.v YA2, AT.v YA2]
def tys52 : List Ty := [Ty.bool]
def kds52 : List RK := []
def oks52 : List AT := owns sig52
def P52 (x0 : Int × Int × Int × Int × Unit) (x1 : Int × Int × Int × Int × Unit) : Prop := True
def g52_0 (x0 : Int × Int × Int × Int × Unit) (x1 : Int × Int × Int × Int × Unit) : Bool := (if (x0.1 != x1.1) = true then false else (if (x0.2.1 != x1.2.1) = true then false else (if (x0.2.2.1 != x1.2.2.1) = true then false else (if (x0.2.2.2.1 != x1.2.2.2.1) = true then false else true))))
theorem at52 (x0 : Int × Int × Int × Int × Unit) (x1 : Int × Int × Int × Int × Unit) (h : P52 x0 x1) (K : Ctx) (q : Nat → Value) : AtV Tryz.prog 52 (PostR kds52 oks52 [⟨Ty.bool, g52_0 x0 x1⟩] [] [] q K) 25 K q [] [.code b52] (entE 0 0 sig52 (x0, x1, ())) (entL sig52 (x0, x1, ())) := by
  unfold P52 at h
  unfold g52_0
  by_cases b0 : (x0.1 != x1.1) = true
  · try simp only [if_pos b0] at h ⊢
    exact AtV.ret Tryz.func52 tabOk ext52Ok mixed false [] tys52 [true] (a1 b0 trivial) (by kernel_rfl)
  · try simp only [if_neg b0] at h ⊢
    replace b0 := Bool.eq_false_iff.2 b0
    by_cases b1 : (x0.2.1 != x1.2.1) = true
    · try simp only [if_pos b1] at h ⊢
      exact AtV.ret Tryz.func52 tabOk ext52Ok mixed false [] tys52 [false, true] (a1 b0 (a1 b1 trivial)) (by kernel_rfl)
    · try simp only [if_neg b1] at h ⊢
      replace b1 := Bool.eq_false_iff.2 b1
      by_cases b2 : (x0.2.2.1 != x1.2.2.1) = true
      · try simp only [if_pos b2] at h ⊢
        exact AtV.ret Tryz.func52 tabOk ext52Ok mixed false [] tys52 [false, false, true] (a1 b0 (a1 b1 (a1 b2 trivial))) (by kernel_rfl)
      · try simp only [if_neg b2] at h ⊢
        replace b2 := Bool.eq_false_iff.2 b2
        by_cases b3 : (x0.2.2.2.1 != x1.2.2.2.1) = true
        · try simp only [if_pos b3] at h ⊢
          exact AtV.ret Tryz.func52 tabOk ext52Ok mixed false [] tys52 [false, false, false, true] (a1 b0 (a1 b1 (a1 b2 (a1 b3 trivial)))) (by kernel_rfl)
        · try simp only [if_neg b3] at h ⊢
          replace b3 := Bool.eq_false_iff.2 b3
          exact AtV.ret Tryz.func52 tabOk ext52Ok mixed false [] tys52 [false, false, false, false] (a1 b0 (a1 b1 (a1 b2 (a1 b3 trivial)))) (by kernel_rfl)
def S52 : Am.Spec := { sig := sig52, pre := fun ⟨x0, x1, _⟩ => P52 x0 x1, res := fun ⟨x0, x1, _⟩ => [⟨Ty.bool, g52_0 x0 x1⟩], kds := kds52 }
theorem con52 : Contract Tryz.prog 52 S52 := contract_of Tryz.func52 hb52 (Nat.le_of_ble_eq_true (by kernel_rfl)) (fun ⟨x0, x1, _⟩ h _ K q => at52 x0 x1 h K q)
end
noncomputable section
def ext108 : Ext := []
theorem ext108Ok : ExtOk Tryz.prog ext108 := trivial
noncomputable def b108 : Code := bodyOf Tryz.f108
theorem hb108 : Tryz.f108.body = some b108 := by kernel_rfl
def sig108 : List AT := [AT.v YA3, AT.v YA3]
def tys108 : List Ty := [Ty.bool]
def kds108 : List RK := []
def oks108 : List AT := owns sig108
def P108 (x0 : ByteArray × Int × Int × Int × Unit) (x1 : ByteArray × Int × Int × Int × Unit) : Prop := True
def g108_0 (x0 : ByteArray × Int × Int × Int × Unit) (x1 : ByteArray × Int × Int × Int × Unit) : Bool := (if (!ByteArray.toList x0.1 == ByteArray.toList x1.1) = true then false else (if (x0.2.1 != x1.2.1) = true then false else (if (x0.2.2.1 != x1.2.2.1) = true then false else (if (x0.2.2.2.1 != x1.2.2.2.1) = true then false else true))))
theorem at108 (x0 : ByteArray × Int × Int × Int × Unit) (x1 : ByteArray × Int × Int × Int × Unit) (h : P108 x0 x1) (K : Ctx) (q : Nat → Value) : AtV Tryz.prog 108 (PostR kds108 oks108 [⟨Ty.bool, g108_0 x0 x1⟩] [] [] q K) 25 K q [] [.code b108] (entE 0 0 sig108 (x0, x1, ())) (entL sig108 (x0, x1, ())) := by
  unfold P108 at h
  unfold g108_0
  by_cases b0 : (!ByteArray.toList x0.1 == ByteArray.toList x1.1) = true
  · try simp only [if_pos b0] at h ⊢
    exact AtV.ret Tryz.func108 tabOk ext108Ok mixed false [] tys108 [true] (a1 b0 trivial) (by kernel_rfl)
  · try simp only [if_neg b0] at h ⊢
    replace b0 := Bool.eq_false_iff.2 b0
    by_cases b1 : (x0.2.1 != x1.2.1) = true
    · try simp only [if_pos b1] at h ⊢
      exact AtV.ret Tryz.func108 tabOk ext108Ok mixed false [] tys108 [false, true] (a1 b0 (a1 b1 trivial)) (by kernel_rfl)
    · try simp only [if_neg b1] at h ⊢
      replace b1 := Bool.eq_false_iff.2 b1
      by_cases b2 : (x0.2.2.1 != x1.2.2.1) = true
      · try simp only [if_pos b2] at h ⊢
        exact AtV.ret Tryz.func108 tabOk ext108Ok mixed false [] tys108 [false, false, true] (a1 b0 (a1 b1 (a1 b2 trivial))) (by kernel_rfl)
      · try simp only [if_neg b2] at h ⊢
        replace b2 := Bool.eq_false_iff.2 b2
        by_cases b3 : (x0.2.2.2.1 != x1.2.2.2.1) = true
        · try simp only [if_pos b3] at h ⊢
          exact AtV.ret Tryz.func108 tabOk ext108Ok mixed false [] tys108 [false, false, false, true] (a1 b0 (a1 b1 (a1 b2 (a1 b3 trivial)))) (by kernel_rfl)
        · try simp only [if_neg b3] at h ⊢
          replace b3 := Bool.eq_false_iff.2 b3
          exact AtV.ret Tryz.func108 tabOk ext108Ok mixed false [] tys108 [false, false, false, false] (a1 b0 (a1 b1 (a1 b2 (a1 b3 trivial)))) (by kernel_rfl)
def S108 : Am.Spec := { sig := sig108, pre := fun ⟨x0, x1, _⟩ => P108 x0 x1, res := fun ⟨x0, x1, _⟩ => [⟨Ty.bool, g108_0 x0 x1⟩], kds := kds108 }
theorem con108 : Contract Tryz.prog 108 S108 := contract_of Tryz.func108 hb108 (Nat.le_of_ble_eq_true (by kernel_rfl)) (fun ⟨x0, x1, _⟩ h _ K q => at108 x0 x1 h K q)
theorem eqd108 (x y : TyB0) : g108_0 x y = true ↔ x = y := by
  obtain ⟨a, b, c, d, u⟩ := x
  obtain ⟨a', b', c', d', u'⟩ := y
  unfold g108_0
  simp only [Bool.not_eq_true', bytes_ne, bne_iff_ne, ne_eq, ite_not]
  by_cases h0 : a = a'
  · by_cases h1 : b = b'
    · by_cases h2 : c = c'
      · by_cases h3 : d = d'
        · simp [h0, h1, h2, h3]
        · simp [h0, h1, h2, h3]
      · simp [h0, h1, h2]
    · simp [h0, h1]
  · simp [h0]
end
noncomputable section
def ext53 : Ext := [(108, S108)]
theorem ext53Ok : ExtOk Tryz.prog ext53 := ⟨⟨ca108, con108⟩, trivial⟩
noncomputable def b53 : Code := bodyOf Tryz.f53
theorem hb53 : Tryz.f53.body = some b53 := by kernel_rfl
def sig53 : List AT := [AT.v (Ty.sl YA3), AT.v (Ty.sl YA3)]
def tys53 : List Ty := [Ty.bool]
def kds53 : List RK := []
def oks53 : List AT := owns sig53
def E53_4 (v5 : Int) (x0 : List TyB0) (x1 : List TyB0) : Env := [(0, PV.a (Atom.sl YA3 x0)), (1, PV.a (Atom.sl YA3 x1)), (5, PV.a (Atom.val (Value.int .i64 v5)))]
def L53_4 (v5 : Int) (x0 : List TyB0) (x1 : List TyB0) : Heap := []
mutual
def R53 : Nat → List TyB0 → List TyB0 → List Dyn → Prop
  | 0, _, _, _ => False
  | n + 1, x0, x1, ds => (if ((↑(List.length x0) : Int) != (↑(List.length x1) : Int)) = true then (ds = [Dyn.mk Ty.bool false]) else (R53_4 n (0) (x0) (x1) ds))
def R53_4 : Nat → Int → List TyB0 → List TyB0 → List Dyn → Prop
  | 0, _, _, _, _ => False
  | n + 1, v5, x0, x1, ds => (if (decide (v5 < (↑(List.length x0) : Int))) = true then ((0 ≤ v5) ∧ (v5 < (↑(List.length x0) : Int)) ∧ ((0 ≤ v5) ∧ (v5 < (↑(List.length x1) : Int)) ∧ (if (!g108_0 (List.getD x0 (Int.toNat v5) (ByteArray.empty, 0, 0, 0, ())) (List.getD x1 (Int.toNat v5) (ByteArray.empty, 0, 0, 0, ()))) = true then (ds = [Dyn.mk Ty.bool false]) else ((InR .i64 (v5 + 1)) ∧ (R53_4 n (v5 + 1) (x0) (x1) ds))))) else (ds = [Dyn.mk Ty.bool true]))
end
theorem snd53 : ∀ n, (∀ (x0 : List TyB0) (x1 : List TyB0) ds, R53 n x0 x1 ds → ∀ K q, AtV Tryz.prog 53 (PostR kds53 oks53 ds [] [] q K) 27 K q [] [.code b53] (entE 0 0 sig53 (x0, x1, ())) (entL sig53 (x0, x1, ()))) ∧ (∀ (v5 : Int) (x0 : List TyB0) (x1 : List TyB0) ds, R53_4 n v5 x0 x1 ds → ∀ K q, AtV Tryz.prog 53 (PostR kds53 oks53 ds [] [] q K) 27 K q [] (cutAt b53 4) (E53_4 v5 x0 x1) (L53_4 v5 x0 x1)) := by
  intro n
  induction n with
  | zero => exact ⟨fun _ _ _ h => by simp only [R53] at h, fun _ _ _ _ h => by simp only [R53_4] at h⟩
  | succ n ih =>
  obtain ⟨ih, ih4⟩ := ih
  refine ⟨?_, ?_⟩
  · intro x0 x1 ds h K q
    rw [R53] at h
    by_cases b0 : ((↑(List.length x0) : Int) != (↑(List.length x1) : Int)) = true
    · rw [if_pos b0] at h
      subst h
      exact AtV.ret Tryz.func53 tabOk ext53Ok mixed false [] tys53 [true] (a1 b0 trivial) (by kernel_rfl)
    · rw [if_neg b0] at h
      replace b0 := Bool.eq_false_iff.2 b0
      exact AtV.go tabOk ext53Ok mixed false [] [] [0, 1, 5] [] [false] (a1 b0 trivial) (ih4 _ _ _ _ h K q) (by kernel_rfl)
  · intro v5 x0 x1 ds h K q
    rw [R53_4] at h
    by_cases b0 : (decide (v5 < (↑(List.length x0) : Int))) = true
    · rw [if_pos b0] at h
      obtain ⟨s0, s1, h⟩ := h
      obtain ⟨s2, s3, h⟩ := h
      by_cases b1 : (!g108_0 (List.getD x0 (Int.toNat v5) (ByteArray.empty, 0, 0, 0, ())) (List.getD x1 (Int.toNat v5) (ByteArray.empty, 0, 0, 0, ()))) = true
      · rw [if_pos b1] at h
        subst h
        exact AtV.ret Tryz.func53 tabOk ext53Ok mixed false [] tys53 [true, true] (a1 b0 (a1 s0 (a1 s1 (a1 s2 (a1 s3 (a1 trivial (a1 b1 trivial))))))) (by kernel_rfl)
      · rw [if_neg b1] at h
        replace b1 := Bool.eq_false_iff.2 b1
        obtain ⟨s4, h⟩ := h
        exact AtV.go tabOk ext53Ok mixed false [] [] [0, 1, 5] [] [true, false] (a1 b0 (a1 s0 (a1 s1 (a1 s2 (a1 s3 (a1 trivial (a1 b1 (a1 s4 trivial)))))))) (ih4 _ _ _ _ h K q) (by kernel_rfl)
    · rw [if_neg b0] at h
      replace b0 := Bool.eq_false_iff.2 b0
      subst h
      exact AtV.ret Tryz.func53 tabOk ext53Ok mixed false [] tys53 [false] (a1 b0 trivial) (by kernel_rfl)
theorem eq53 (x0 x1 : List TyB0) (hl : x0.length = x1.length) (hm : x0.length ≤ maxLen) : ∀ k i : Nat, i + k = x0.length → R53_4 (k + 1) (i : Int) x0 x1 [⟨.bool, decide (x0.drop i = x1.drop i)⟩] := by
  intro k
  induction k with
  | zero =>
    intro i hi
    have h1 : ¬ (i : Int) < (x0.length : Int) := by omega
    rw [R53_4, if_neg (by simpa using h1), drop_end x0 i (by omega), drop_end x1 i (by omega)]
    simp
  | succ k ih =>
    intro i hi
    have h1 : (i : Int) < (x0.length : Int) := by omega
    rw [R53_4, if_pos (by simpa using h1)]
    refine ⟨by omega, h1, by omega, by omega, ?_⟩
    simp only [Int.toNat_natCast]
    rw [drop_get x0 i (ByteArray.empty, (0 : Int), (0 : Int), (0 : Int), ()) (by omega), drop_get x1 i (ByteArray.empty, (0 : Int), (0 : Int), (0 : Int), ()) (by omega)]
    by_cases he : x0.getD i (ByteArray.empty, (0 : Int), (0 : Int), (0 : Int), ()) = x1.getD i (ByteArray.empty, (0 : Int), (0 : Int), (0 : Int), ())
    · have hd := (eqd108 _ _).2 he
      rw [if_neg (by rw [hd]; simp)]
      refine ⟨inR_up hm (by omega), ?_⟩
      have := ih (i + 1) (by omega)
      simp only [he, List.cons.injEq, true_and]
      exact this
    · have hd : g108_0 (x0.getD i (ByteArray.empty, (0 : Int), (0 : Int), (0 : Int), ())) (x1.getD i (ByteArray.empty, (0 : Int), (0 : Int), (0 : Int), ())) = false :=
        Bool.eq_false_iff.2 fun h => he ((eqd108 _ _).1 h)
      rw [if_pos (by rw [hd]; rfl)]
      simp only [he, List.cons.injEq, false_and, decide_false]
def g53_0 (x0 x1 : List TyB0) : Bool := decide (x0 = x1)
def P53 (x0 x1 : List TyB0) : Prop := True
def S53 : Am.Spec := { sig := sig53, pre := fun ⟨x0, x1, _⟩ => P53 x0 x1, res := fun ⟨x0, x1, _⟩ => [⟨Ty.bool, g53_0 x0 x1⟩] }
theorem con53 : Contract Tryz.prog 53 S53 := contract_of Tryz.func53 hb53 (Nat.le_of_ble_eq_true (by kernel_rfl)) (fun ⟨x0, x1, _⟩ h hwf K q => by
  refine (snd53 (x0.length + 2)).1 x0 x1 _ ?_ K q
  show R53 (x0.length + 1 + 1) x0 x1 [⟨Ty.bool, decide (x0 = x1)⟩]
  rw [R53]
  by_cases hl : x0.length = x1.length
  · rw [if_neg (by simp [hl])]
    have := eq53 x0 x1 hl hwf.1.1 x0.length 0 (by omega)
    simpa using this
  · rw [if_pos (by simp; omega)]
    have : x0 ≠ x1 := fun h => hl (by rw [h])
    simp [this])
end
noncomputable section
def ext109 : Ext := []
theorem ext109Ok : ExtOk Tryz.prog ext109 := trivial
noncomputable def b109 : Code := bodyOf Tryz.f109
theorem hb109 : Tryz.f109.body = some b109 := by kernel_rfl
def sig109 : List AT := [AT.v YA4, AT.v YA4]
def tys109 : List Ty := [Ty.bool]
def kds109 : List RK := []
def oks109 : List AT := owns sig109
def P109 (x0 : Int × Int × Int × Unit) (x1 : Int × Int × Int × Unit) : Prop := True
def g109_0 (x0 : Int × Int × Int × Unit) (x1 : Int × Int × Int × Unit) : Bool := (if (x0.1 != x1.1) = true then false else (if (x0.2.1 != x1.2.1) = true then false else (if (x0.2.2.1 != x1.2.2.1) = true then false else true)))
theorem at109 (x0 : Int × Int × Int × Unit) (x1 : Int × Int × Int × Unit) (h : P109 x0 x1) (K : Ctx) (q : Nat → Value) : AtV Tryz.prog 109 (PostR kds109 oks109 [⟨Ty.bool, g109_0 x0 x1⟩] [] [] q K) 20 K q [] [.code b109] (entE 0 0 sig109 (x0, x1, ())) (entL sig109 (x0, x1, ())) := by
  unfold P109 at h
  unfold g109_0
  by_cases b0 : (x0.1 != x1.1) = true
  · try simp only [if_pos b0] at h ⊢
    exact AtV.ret Tryz.func109 tabOk ext109Ok mixed false [] tys109 [true] (a1 b0 trivial) (by kernel_rfl)
  · try simp only [if_neg b0] at h ⊢
    replace b0 := Bool.eq_false_iff.2 b0
    by_cases b1 : (x0.2.1 != x1.2.1) = true
    · try simp only [if_pos b1] at h ⊢
      exact AtV.ret Tryz.func109 tabOk ext109Ok mixed false [] tys109 [false, true] (a1 b0 (a1 b1 trivial)) (by kernel_rfl)
    · try simp only [if_neg b1] at h ⊢
      replace b1 := Bool.eq_false_iff.2 b1
      by_cases b2 : (x0.2.2.1 != x1.2.2.1) = true
      · try simp only [if_pos b2] at h ⊢
        exact AtV.ret Tryz.func109 tabOk ext109Ok mixed false [] tys109 [false, false, true] (a1 b0 (a1 b1 (a1 b2 trivial))) (by kernel_rfl)
      · try simp only [if_neg b2] at h ⊢
        replace b2 := Bool.eq_false_iff.2 b2
        exact AtV.ret Tryz.func109 tabOk ext109Ok mixed false [] tys109 [false, false, false] (a1 b0 (a1 b1 (a1 b2 trivial))) (by kernel_rfl)
def S109 : Am.Spec := { sig := sig109, pre := fun ⟨x0, x1, _⟩ => P109 x0 x1, res := fun ⟨x0, x1, _⟩ => [⟨Ty.bool, g109_0 x0 x1⟩], kds := kds109 }
theorem con109 : Contract Tryz.prog 109 S109 := contract_of Tryz.func109 hb109 (Nat.le_of_ble_eq_true (by kernel_rfl)) (fun ⟨x0, x1, _⟩ h _ K q => at109 x0 x1 h K q)
theorem eqd109 (x y : TyB2) : g109_0 x y = true ↔ x = y := by
  obtain ⟨a, b, c, u⟩ := x
  obtain ⟨a', b', c', u'⟩ := y
  unfold g109_0
  simp only [Bool.not_eq_true', bytes_ne, bne_iff_ne, ne_eq, ite_not]
  by_cases h0 : a = a'
  · by_cases h1 : b = b'
    · by_cases h2 : c = c'
      · simp [h0, h1, h2]
      · simp [h0, h1, h2]
    · simp [h0, h1]
  · simp [h0]
end
noncomputable section
def ext54 : Ext := [(109, S109)]
theorem ext54Ok : ExtOk Tryz.prog ext54 := ⟨⟨ca109, con109⟩, trivial⟩
noncomputable def b54 : Code := bodyOf Tryz.f54
theorem hb54 : Tryz.f54.body = some b54 := by kernel_rfl
def sig54 : List AT := [AT.v (Ty.sl YA4), AT.v (Ty.sl YA4)]
def tys54 : List Ty := [Ty.bool]
def kds54 : List RK := []
def oks54 : List AT := owns sig54
def E54_4 (v5 : Int) (x0 : List TyB2) (x1 : List TyB2) : Env := [(0, PV.a (Atom.sl YA4 x0)), (1, PV.a (Atom.sl YA4 x1)), (5, PV.a (Atom.val (Value.int .i64 v5)))]
def L54_4 (v5 : Int) (x0 : List TyB2) (x1 : List TyB2) : Heap := []
mutual
def R54 : Nat → List TyB2 → List TyB2 → List Dyn → Prop
  | 0, _, _, _ => False
  | n + 1, x0, x1, ds => (if ((↑(List.length x0) : Int) != (↑(List.length x1) : Int)) = true then (ds = [Dyn.mk Ty.bool false]) else (R54_4 n (0) (x0) (x1) ds))
def R54_4 : Nat → Int → List TyB2 → List TyB2 → List Dyn → Prop
  | 0, _, _, _, _ => False
  | n + 1, v5, x0, x1, ds => (if (decide (v5 < (↑(List.length x0) : Int))) = true then ((0 ≤ v5) ∧ (v5 < (↑(List.length x0) : Int)) ∧ ((0 ≤ v5) ∧ (v5 < (↑(List.length x1) : Int)) ∧ (if (!g109_0 (List.getD x0 (Int.toNat v5) (0, 0, 0, ())) (List.getD x1 (Int.toNat v5) (0, 0, 0, ()))) = true then (ds = [Dyn.mk Ty.bool false]) else ((InR .i64 (v5 + 1)) ∧ (R54_4 n (v5 + 1) (x0) (x1) ds))))) else (ds = [Dyn.mk Ty.bool true]))
end
theorem snd54 : ∀ n, (∀ (x0 : List TyB2) (x1 : List TyB2) ds, R54 n x0 x1 ds → ∀ K q, AtV Tryz.prog 54 (PostR kds54 oks54 ds [] [] q K) 27 K q [] [.code b54] (entE 0 0 sig54 (x0, x1, ())) (entL sig54 (x0, x1, ()))) ∧ (∀ (v5 : Int) (x0 : List TyB2) (x1 : List TyB2) ds, R54_4 n v5 x0 x1 ds → ∀ K q, AtV Tryz.prog 54 (PostR kds54 oks54 ds [] [] q K) 27 K q [] (cutAt b54 4) (E54_4 v5 x0 x1) (L54_4 v5 x0 x1)) := by
  intro n
  induction n with
  | zero => exact ⟨fun _ _ _ h => by simp only [R54] at h, fun _ _ _ _ h => by simp only [R54_4] at h⟩
  | succ n ih =>
  obtain ⟨ih, ih4⟩ := ih
  refine ⟨?_, ?_⟩
  · intro x0 x1 ds h K q
    rw [R54] at h
    by_cases b0 : ((↑(List.length x0) : Int) != (↑(List.length x1) : Int)) = true
    · rw [if_pos b0] at h
      subst h
      exact AtV.ret Tryz.func54 tabOk ext54Ok mixed false [] tys54 [true] (a1 b0 trivial) (by kernel_rfl)
    · rw [if_neg b0] at h
      replace b0 := Bool.eq_false_iff.2 b0
      exact AtV.go tabOk ext54Ok mixed false [] [] [0, 1, 5] [] [false] (a1 b0 trivial) (ih4 _ _ _ _ h K q) (by kernel_rfl)
  · intro v5 x0 x1 ds h K q
    rw [R54_4] at h
    by_cases b0 : (decide (v5 < (↑(List.length x0) : Int))) = true
    · rw [if_pos b0] at h
      obtain ⟨s0, s1, h⟩ := h
      obtain ⟨s2, s3, h⟩ := h
      by_cases b1 : (!g109_0 (List.getD x0 (Int.toNat v5) (0, 0, 0, ())) (List.getD x1 (Int.toNat v5) (0, 0, 0, ()))) = true
      · rw [if_pos b1] at h
        subst h
        exact AtV.ret Tryz.func54 tabOk ext54Ok mixed false [] tys54 [true, true] (a1 b0 (a1 s0 (a1 s1 (a1 s2 (a1 s3 (a1 trivial (a1 b1 trivial))))))) (by kernel_rfl)
      · rw [if_neg b1] at h
        replace b1 := Bool.eq_false_iff.2 b1
        obtain ⟨s4, h⟩ := h
        exact AtV.go tabOk ext54Ok mixed false [] [] [0, 1, 5] [] [true, false] (a1 b0 (a1 s0 (a1 s1 (a1 s2 (a1 s3 (a1 trivial (a1 b1 (a1 s4 trivial)))))))) (ih4 _ _ _ _ h K q) (by kernel_rfl)
    · rw [if_neg b0] at h
      replace b0 := Bool.eq_false_iff.2 b0
      subst h
      exact AtV.ret Tryz.func54 tabOk ext54Ok mixed false [] tys54 [false] (a1 b0 trivial) (by kernel_rfl)
theorem eq54 (x0 x1 : List TyB2) (hl : x0.length = x1.length) (hm : x0.length ≤ maxLen) : ∀ k i : Nat, i + k = x0.length → R54_4 (k + 1) (i : Int) x0 x1 [⟨.bool, decide (x0.drop i = x1.drop i)⟩] := by
  intro k
  induction k with
  | zero =>
    intro i hi
    have h1 : ¬ (i : Int) < (x0.length : Int) := by omega
    rw [R54_4, if_neg (by simpa using h1), drop_end x0 i (by omega), drop_end x1 i (by omega)]
    simp
  | succ k ih =>
    intro i hi
    have h1 : (i : Int) < (x0.length : Int) := by omega
    rw [R54_4, if_pos (by simpa using h1)]
    refine ⟨by omega, h1, by omega, by omega, ?_⟩
    simp only [Int.toNat_natCast]
    rw [drop_get x0 i ((0 : Int), (0 : Int), (0 : Int), ()) (by omega), drop_get x1 i ((0 : Int), (0 : Int), (0 : Int), ()) (by omega)]
    by_cases he : x0.getD i ((0 : Int), (0 : Int), (0 : Int), ()) = x1.getD i ((0 : Int), (0 : Int), (0 : Int), ())
    · have hd := (eqd109 _ _).2 he
      rw [if_neg (by rw [hd]; simp)]
      refine ⟨inR_up hm (by omega), ?_⟩
      have := ih (i + 1) (by omega)
      simp only [he, List.cons.injEq, true_and]
      exact this
    · have hd : g109_0 (x0.getD i ((0 : Int), (0 : Int), (0 : Int), ())) (x1.getD i ((0 : Int), (0 : Int), (0 : Int), ())) = false :=
        Bool.eq_false_iff.2 fun h => he ((eqd109 _ _).1 h)
      rw [if_pos (by rw [hd]; rfl)]
      simp only [he, List.cons.injEq, false_and, decide_false]
def g54_0 (x0 x1 : List TyB2) : Bool := decide (x0 = x1)
def P54 (x0 x1 : List TyB2) : Prop := True
def S54 : Am.Spec := { sig := sig54, pre := fun ⟨x0, x1, _⟩ => P54 x0 x1, res := fun ⟨x0, x1, _⟩ => [⟨Ty.bool, g54_0 x0 x1⟩] }
theorem con54 : Contract Tryz.prog 54 S54 := contract_of Tryz.func54 hb54 (Nat.le_of_ble_eq_true (by kernel_rfl)) (fun ⟨x0, x1, _⟩ h hwf K q => by
  refine (snd54 (x0.length + 2)).1 x0 x1 _ ?_ K q
  show R54 (x0.length + 1 + 1) x0 x1 [⟨Ty.bool, decide (x0 = x1)⟩]
  rw [R54]
  by_cases hl : x0.length = x1.length
  · rw [if_neg (by simp [hl])]
    have := eq54 x0 x1 hl hwf.1.1 x0.length 0 (by omega)
    simpa using this
  · rw [if_pos (by simp; omega)]
    have : x0 ≠ x1 := fun h => hl (by rw [h])
    simp [this])
end
noncomputable section
def ext110 : Ext := []
theorem ext110Ok : ExtOk Tryz.prog ext110 := trivial
noncomputable def b110 : Code := bodyOf Tryz.f110
theorem hb110 : Tryz.f110.body = some b110 := by kernel_rfl
def sig110 : List AT := [AT.v YA5, AT.v YA5]
def tys110 : List Ty := [Ty.bool]
def kds110 : List RK := []
def oks110 : List AT := owns sig110
def P110 (x0 : ByteArray × Int × Int × Unit) (x1 : ByteArray × Int × Int × Unit) : Prop := True
def g110_0 (x0 : ByteArray × Int × Int × Unit) (x1 : ByteArray × Int × Int × Unit) : Bool := (if (!ByteArray.toList x0.1 == ByteArray.toList x1.1) = true then false else (if (x0.2.1 != x1.2.1) = true then false else (if (x0.2.2.1 != x1.2.2.1) = true then false else true)))
theorem at110 (x0 : ByteArray × Int × Int × Unit) (x1 : ByteArray × Int × Int × Unit) (h : P110 x0 x1) (K : Ctx) (q : Nat → Value) : AtV Tryz.prog 110 (PostR kds110 oks110 [⟨Ty.bool, g110_0 x0 x1⟩] [] [] q K) 20 K q [] [.code b110] (entE 0 0 sig110 (x0, x1, ())) (entL sig110 (x0, x1, ())) := by
  unfold P110 at h
  unfold g110_0
  by_cases b0 : (!ByteArray.toList x0.1 == ByteArray.toList x1.1) = true
  · try simp only [if_pos b0] at h ⊢
    exact AtV.ret Tryz.func110 tabOk ext110Ok mixed false [] tys110 [true] (a1 b0 trivial) (by kernel_rfl)
  · try simp only [if_neg b0] at h ⊢
    replace b0 := Bool.eq_false_iff.2 b0
    by_cases b1 : (x0.2.1 != x1.2.1) = true
    · try simp only [if_pos b1] at h ⊢
      exact AtV.ret Tryz.func110 tabOk ext110Ok mixed false [] tys110 [false, true] (a1 b0 (a1 b1 trivial)) (by kernel_rfl)
    · try simp only [if_neg b1] at h ⊢
      replace b1 := Bool.eq_false_iff.2 b1
      by_cases b2 : (x0.2.2.1 != x1.2.2.1) = true
      · try simp only [if_pos b2] at h ⊢
        exact AtV.ret Tryz.func110 tabOk ext110Ok mixed false [] tys110 [false, false, true] (a1 b0 (a1 b1 (a1 b2 trivial))) (by kernel_rfl)
      · try simp only [if_neg b2] at h ⊢
        replace b2 := Bool.eq_false_iff.2 b2
        exact AtV.ret Tryz.func110 tabOk ext110Ok mixed false [] tys110 [false, false, false] (a1 b0 (a1 b1 (a1 b2 trivial))) (by kernel_rfl)
def S110 : Am.Spec := { sig := sig110, pre := fun ⟨x0, x1, _⟩ => P110 x0 x1, res := fun ⟨x0, x1, _⟩ => [⟨Ty.bool, g110_0 x0 x1⟩], kds := kds110 }
theorem con110 : Contract Tryz.prog 110 S110 := contract_of Tryz.func110 hb110 (Nat.le_of_ble_eq_true (by kernel_rfl)) (fun ⟨x0, x1, _⟩ h _ K q => at110 x0 x1 h K q)
theorem eqd110 (x y : TyB1) : g110_0 x y = true ↔ x = y := by
  obtain ⟨a, b, c, u⟩ := x
  obtain ⟨a', b', c', u'⟩ := y
  unfold g110_0
  simp only [Bool.not_eq_true', bytes_ne, bne_iff_ne, ne_eq, ite_not]
  by_cases h0 : a = a'
  · by_cases h1 : b = b'
    · by_cases h2 : c = c'
      · simp [h0, h1, h2]
      · simp [h0, h1, h2]
    · simp [h0, h1]
  · simp [h0]
end
noncomputable section
def ext55 : Ext := [(110, S110)]
theorem ext55Ok : ExtOk Tryz.prog ext55 := ⟨⟨ca110, con110⟩, trivial⟩
noncomputable def b55 : Code := bodyOf Tryz.f55
theorem hb55 : Tryz.f55.body = some b55 := by kernel_rfl
def sig55 : List AT := [AT.v (Ty.sl YA5), AT.v (Ty.sl YA5)]
def tys55 : List Ty := [Ty.bool]
def kds55 : List RK := []
def oks55 : List AT := owns sig55
def E55_4 (v5 : Int) (x0 : List TyB1) (x1 : List TyB1) : Env := [(0, PV.a (Atom.sl YA5 x0)), (1, PV.a (Atom.sl YA5 x1)), (5, PV.a (Atom.val (Value.int .i64 v5)))]
def L55_4 (v5 : Int) (x0 : List TyB1) (x1 : List TyB1) : Heap := []
mutual
def R55 : Nat → List TyB1 → List TyB1 → List Dyn → Prop
  | 0, _, _, _ => False
  | n + 1, x0, x1, ds => (if ((↑(List.length x0) : Int) != (↑(List.length x1) : Int)) = true then (ds = [Dyn.mk Ty.bool false]) else (R55_4 n (0) (x0) (x1) ds))
def R55_4 : Nat → Int → List TyB1 → List TyB1 → List Dyn → Prop
  | 0, _, _, _, _ => False
  | n + 1, v5, x0, x1, ds => (if (decide (v5 < (↑(List.length x0) : Int))) = true then ((0 ≤ v5) ∧ (v5 < (↑(List.length x0) : Int)) ∧ ((0 ≤ v5) ∧ (v5 < (↑(List.length x1) : Int)) ∧ (if (!g110_0 (List.getD x0 (Int.toNat v5) (ByteArray.empty, 0, 0, ())) (List.getD x1 (Int.toNat v5) (ByteArray.empty, 0, 0, ()))) = true then (ds = [Dyn.mk Ty.bool false]) else ((InR .i64 (v5 + 1)) ∧ (R55_4 n (v5 + 1) (x0) (x1) ds))))) else (ds = [Dyn.mk Ty.bool true]))
end
theorem snd55 : ∀ n, (∀ (x0 : List TyB1) (x1 : List TyB1) ds, R55 n x0 x1 ds → ∀ K q, AtV Tryz.prog 55 (PostR kds55 oks55 ds [] [] q K) 27 K q [] [.code b55] (entE 0 0 sig55 (x0, x1, ())) (entL sig55 (x0, x1, ()))) ∧ (∀ (v5 : Int) (x0 : List TyB1) (x1 : List TyB1) ds, R55_4 n v5 x0 x1 ds → ∀ K q, AtV Tryz.prog 55 (PostR kds55 oks55 ds [] [] q K) 27 K q [] (cutAt b55 4) (E55_4 v5 x0 x1) (L55_4 v5 x0 x1)) := by
  intro n
  induction n with
  | zero => exact ⟨fun _ _ _ h => by simp only [R55] at h, fun _ _ _ _ h => by simp only [R55_4] at h⟩
  | succ n ih =>
  obtain ⟨ih, ih4⟩ := ih
  refine ⟨?_, ?_⟩
  · intro x0 x1 ds h K q
    rw [R55] at h
    by_cases b0 : ((↑(List.length x0) : Int) != (↑(List.length x1) : Int)) = true
    · rw [if_pos b0] at h
      subst h
      exact AtV.ret Tryz.func55 tabOk ext55Ok mixed false [] tys55 [true] (a1 b0 trivial) (by kernel_rfl)
    · rw [if_neg b0] at h
      replace b0 := Bool.eq_false_iff.2 b0
      exact AtV.go tabOk ext55Ok mixed false [] [] [0, 1, 5] [] [false] (a1 b0 trivial) (ih4 _ _ _ _ h K q) (by kernel_rfl)
  · intro v5 x0 x1 ds h K q
    rw [R55_4] at h
    by_cases b0 : (decide (v5 < (↑(List.length x0) : Int))) = true
    · rw [if_pos b0] at h
      obtain ⟨s0, s1, h⟩ := h
      obtain ⟨s2, s3, h⟩ := h
      by_cases b1 : (!g110_0 (List.getD x0 (Int.toNat v5) (ByteArray.empty, 0, 0, ())) (List.getD x1 (Int.toNat v5) (ByteArray.empty, 0, 0, ()))) = true
      · rw [if_pos b1] at h
        subst h
        exact AtV.ret Tryz.func55 tabOk ext55Ok mixed false [] tys55 [true, true] (a1 b0 (a1 s0 (a1 s1 (a1 s2 (a1 s3 (a1 trivial (a1 b1 trivial))))))) (by kernel_rfl)
      · rw [if_neg b1] at h
        replace b1 := Bool.eq_false_iff.2 b1
        obtain ⟨s4, h⟩ := h
        exact AtV.go tabOk ext55Ok mixed false [] [] [0, 1, 5] [] [true, false] (a1 b0 (a1 s0 (a1 s1 (a1 s2 (a1 s3 (a1 trivial (a1 b1 (a1 s4 trivial)))))))) (ih4 _ _ _ _ h K q) (by kernel_rfl)
    · rw [if_neg b0] at h
      replace b0 := Bool.eq_false_iff.2 b0
      subst h
      exact AtV.ret Tryz.func55 tabOk ext55Ok mixed false [] tys55 [false] (a1 b0 trivial) (by kernel_rfl)
theorem eq55 (x0 x1 : List TyB1) (hl : x0.length = x1.length) (hm : x0.length ≤ maxLen) : ∀ k i : Nat, i + k = x0.length → R55_4 (k + 1) (i : Int) x0 x1 [⟨.bool, decide (x0.drop i = x1.drop i)⟩] := by
  intro k
  induction k with
  | zero =>
    intro i hi
    have h1 : ¬ (i : Int) < (x0.length : Int) := by omega
    rw [R55_4, if_neg (by simpa using h1), drop_end x0 i (by omega), drop_end x1 i (by omega)]
    simp
  | succ k ih =>
    intro i hi
    have h1 : (i : Int) < (x0.length : Int) := by omega
    rw [R55_4, if_pos (by simpa using h1)]
    refine ⟨by omega, h1, by omega, by omega, ?_⟩
    simp only [Int.toNat_natCast]
    rw [drop_get x0 i (ByteArray.empty, (0 : Int), (0 : Int), ()) (by omega), drop_get x1 i (ByteArray.empty, (0 : Int), (0 : Int), ()) (by omega)]
    by_cases he : x0.getD i (ByteArray.empty, (0 : Int), (0 : Int), ()) = x1.getD i (ByteArray.empty, (0 : Int), (0 : Int), ())
    · have hd := (eqd110 _ _).2 he
      rw [if_neg (by rw [hd]; simp)]
      refine ⟨inR_up hm (by omega), ?_⟩
      have := ih (i + 1) (by omega)
      simp only [he, List.cons.injEq, true_and]
      exact this
    · have hd : g110_0 (x0.getD i (ByteArray.empty, (0 : Int), (0 : Int), ())) (x1.getD i (ByteArray.empty, (0 : Int), (0 : Int), ())) = false :=
        Bool.eq_false_iff.2 fun h => he ((eqd110 _ _).1 h)
      rw [if_pos (by rw [hd]; rfl)]
      simp only [he, List.cons.injEq, false_and, decide_false]
def g55_0 (x0 x1 : List TyB1) : Bool := decide (x0 = x1)
def P55 (x0 x1 : List TyB1) : Prop := True
def S55 : Am.Spec := { sig := sig55, pre := fun ⟨x0, x1, _⟩ => P55 x0 x1, res := fun ⟨x0, x1, _⟩ => [⟨Ty.bool, g55_0 x0 x1⟩] }
theorem con55 : Contract Tryz.prog 55 S55 := contract_of Tryz.func55 hb55 (Nat.le_of_ble_eq_true (by kernel_rfl)) (fun ⟨x0, x1, _⟩ h hwf K q => by
  refine (snd55 (x0.length + 2)).1 x0 x1 _ ?_ K q
  show R55 (x0.length + 1 + 1) x0 x1 [⟨Ty.bool, decide (x0 = x1)⟩]
  rw [R55]
  by_cases hl : x0.length = x1.length
  · rw [if_neg (by simp [hl])]
    have := eq55 x0 x1 hl hwf.1.1 x0.length 0 (by omega)
    simpa using this
  · rw [if_pos (by simp; omega)]
    have : x0 ≠ x1 := fun h => hl (by rw [h])
    simp [this])
end
noncomputable section
def ext111 : Ext := []
theorem ext111Ok : ExtOk Tryz.prog ext111 := trivial
noncomputable def b111 : Code := bodyOf Tryz.f111
theorem hb111 : Tryz.f111.body = some b111 := by kernel_rfl
def sig111 : List AT := [AT.v YA5, AT.v YA5]
def tys111 : List Ty := [Ty.bool]
def kds111 : List RK := []
def oks111 : List AT := owns sig111
def P111 (x0 : ByteArray × Int × Int × Unit) (x1 : ByteArray × Int × Int × Unit) : Prop := True
def g111_0 (x0 : ByteArray × Int × Int × Unit) (x1 : ByteArray × Int × Int × Unit) : Bool := (if (!ByteArray.toList x0.1 == ByteArray.toList x1.1) = true then false else (if (x0.2.1 != x1.2.1) = true then false else (if (x0.2.2.1 != x1.2.2.1) = true then false else true)))
theorem at111 (x0 : ByteArray × Int × Int × Unit) (x1 : ByteArray × Int × Int × Unit) (h : P111 x0 x1) (K : Ctx) (q : Nat → Value) : AtV Tryz.prog 111 (PostR kds111 oks111 [⟨Ty.bool, g111_0 x0 x1⟩] [] [] q K) 20 K q [] [.code b111] (entE 0 0 sig111 (x0, x1, ())) (entL sig111 (x0, x1, ())) := by
  unfold P111 at h
  unfold g111_0
  by_cases b0 : (!ByteArray.toList x0.1 == ByteArray.toList x1.1) = true
  · try simp only [if_pos b0] at h ⊢
    exact AtV.ret Tryz.func111 tabOk ext111Ok mixed false [] tys111 [true] (a1 b0 trivial) (by kernel_rfl)
  · try simp only [if_neg b0] at h ⊢
    replace b0 := Bool.eq_false_iff.2 b0
    by_cases b1 : (x0.2.1 != x1.2.1) = true
    · try simp only [if_pos b1] at h ⊢
      exact AtV.ret Tryz.func111 tabOk ext111Ok mixed false [] tys111 [false, true] (a1 b0 (a1 b1 trivial)) (by kernel_rfl)
    · try simp only [if_neg b1] at h ⊢
      replace b1 := Bool.eq_false_iff.2 b1
      by_cases b2 : (x0.2.2.1 != x1.2.2.1) = true
      · try simp only [if_pos b2] at h ⊢
        exact AtV.ret Tryz.func111 tabOk ext111Ok mixed false [] tys111 [false, false, true] (a1 b0 (a1 b1 (a1 b2 trivial))) (by kernel_rfl)
      · try simp only [if_neg b2] at h ⊢
        replace b2 := Bool.eq_false_iff.2 b2
        exact AtV.ret Tryz.func111 tabOk ext111Ok mixed false [] tys111 [false, false, false] (a1 b0 (a1 b1 (a1 b2 trivial))) (by kernel_rfl)
def S111 : Am.Spec := { sig := sig111, pre := fun ⟨x0, x1, _⟩ => P111 x0 x1, res := fun ⟨x0, x1, _⟩ => [⟨Ty.bool, g111_0 x0 x1⟩], kds := kds111 }
theorem con111 : Contract Tryz.prog 111 S111 := contract_of Tryz.func111 hb111 (Nat.le_of_ble_eq_true (by kernel_rfl)) (fun ⟨x0, x1, _⟩ h _ K q => at111 x0 x1 h K q)
theorem eqd111 (x y : TyB1) : g111_0 x y = true ↔ x = y := by
  obtain ⟨a, b, c, u⟩ := x
  obtain ⟨a', b', c', u'⟩ := y
  unfold g111_0
  simp only [Bool.not_eq_true', bytes_ne, bne_iff_ne, ne_eq, ite_not]
  by_cases h0 : a = a'
  · by_cases h1 : b = b'
    · by_cases h2 : c = c'
      · simp [h0, h1, h2]
      · simp [h0, h1, h2]
    · simp [h0, h1]
  · simp [h0]
end
noncomputable section
def ext56 : Ext := [(111, S111)]
theorem ext56Ok : ExtOk Tryz.prog ext56 := ⟨⟨ca111, con111⟩, trivial⟩
noncomputable def b56 : Code := bodyOf Tryz.f56
theorem hb56 : Tryz.f56.body = some b56 := by kernel_rfl
def sig56 : List AT := [AT.v (Ty.sl YA5), AT.v (Ty.sl YA5)]
def tys56 : List Ty := [Ty.bool]
def kds56 : List RK := []
def oks56 : List AT := owns sig56
def E56_4 (v5 : Int) (x0 : List TyB1) (x1 : List TyB1) : Env := [(0, PV.a (Atom.sl YA5 x0)), (1, PV.a (Atom.sl YA5 x1)), (5, PV.a (Atom.val (Value.int .i64 v5)))]
def L56_4 (v5 : Int) (x0 : List TyB1) (x1 : List TyB1) : Heap := []
mutual
def R56 : Nat → List TyB1 → List TyB1 → List Dyn → Prop
  | 0, _, _, _ => False
  | n + 1, x0, x1, ds => (if ((↑(List.length x0) : Int) != (↑(List.length x1) : Int)) = true then (ds = [Dyn.mk Ty.bool false]) else (R56_4 n (0) (x0) (x1) ds))
def R56_4 : Nat → Int → List TyB1 → List TyB1 → List Dyn → Prop
  | 0, _, _, _, _ => False
  | n + 1, v5, x0, x1, ds => (if (decide (v5 < (↑(List.length x0) : Int))) = true then ((0 ≤ v5) ∧ (v5 < (↑(List.length x0) : Int)) ∧ ((0 ≤ v5) ∧ (v5 < (↑(List.length x1) : Int)) ∧ (if (!g111_0 (List.getD x0 (Int.toNat v5) (ByteArray.empty, 0, 0, ())) (List.getD x1 (Int.toNat v5) (ByteArray.empty, 0, 0, ()))) = true then (ds = [Dyn.mk Ty.bool false]) else ((InR .i64 (v5 + 1)) ∧ (R56_4 n (v5 + 1) (x0) (x1) ds))))) else (ds = [Dyn.mk Ty.bool true]))
end
theorem snd56 : ∀ n, (∀ (x0 : List TyB1) (x1 : List TyB1) ds, R56 n x0 x1 ds → ∀ K q, AtV Tryz.prog 56 (PostR kds56 oks56 ds [] [] q K) 27 K q [] [.code b56] (entE 0 0 sig56 (x0, x1, ())) (entL sig56 (x0, x1, ()))) ∧ (∀ (v5 : Int) (x0 : List TyB1) (x1 : List TyB1) ds, R56_4 n v5 x0 x1 ds → ∀ K q, AtV Tryz.prog 56 (PostR kds56 oks56 ds [] [] q K) 27 K q [] (cutAt b56 4) (E56_4 v5 x0 x1) (L56_4 v5 x0 x1)) := by
  intro n
  induction n with
  | zero => exact ⟨fun _ _ _ h => by simp only [R56] at h, fun _ _ _ _ h => by simp only [R56_4] at h⟩
  | succ n ih =>
  obtain ⟨ih, ih4⟩ := ih
  refine ⟨?_, ?_⟩
  · intro x0 x1 ds h K q
    rw [R56] at h
    by_cases b0 : ((↑(List.length x0) : Int) != (↑(List.length x1) : Int)) = true
    · rw [if_pos b0] at h
      subst h
      exact AtV.ret Tryz.func56 tabOk ext56Ok mixed false [] tys56 [true] (a1 b0 trivial) (by kernel_rfl)
    · rw [if_neg b0] at h
      replace b0 := Bool.eq_false_iff.2 b0
      exact AtV.go tabOk ext56Ok mixed false [] [] [0, 1, 5] [] [false] (a1 b0 trivial) (ih4 _ _ _ _ h K q) (by kernel_rfl)
  · intro v5 x0 x1 ds h K q
    rw [R56_4] at h
    by_cases b0 : (decide (v5 < (↑(List.length x0) : Int))) = true
    · rw [if_pos b0] at h
      obtain ⟨s0, s1, h⟩ := h
      obtain ⟨s2, s3, h⟩ := h
      by_cases b1 : (!g111_0 (List.getD x0 (Int.toNat v5) (ByteArray.empty, 0, 0, ())) (List.getD x1 (Int.toNat v5) (ByteArray.empty, 0, 0, ()))) = true
      · rw [if_pos b1] at h
        subst h
        exact AtV.ret Tryz.func56 tabOk ext56Ok mixed false [] tys56 [true, true] (a1 b0 (a1 s0 (a1 s1 (a1 s2 (a1 s3 (a1 trivial (a1 b1 trivial))))))) (by kernel_rfl)
      · rw [if_neg b1] at h
        replace b1 := Bool.eq_false_iff.2 b1
        obtain ⟨s4, h⟩ := h
        exact AtV.go tabOk ext56Ok mixed false [] [] [0, 1, 5] [] [true, false] (a1 b0 (a1 s0 (a1 s1 (a1 s2 (a1 s3 (a1 trivial (a1 b1 (a1 s4 trivial)))))))) (ih4 _ _ _ _ h K q) (by kernel_rfl)
    · rw [if_neg b0] at h
      replace b0 := Bool.eq_false_iff.2 b0
      subst h
      exact AtV.ret Tryz.func56 tabOk ext56Ok mixed false [] tys56 [false] (a1 b0 trivial) (by kernel_rfl)
theorem eq56 (x0 x1 : List TyB1) (hl : x0.length = x1.length) (hm : x0.length ≤ maxLen) : ∀ k i : Nat, i + k = x0.length → R56_4 (k + 1) (i : Int) x0 x1 [⟨.bool, decide (x0.drop i = x1.drop i)⟩] := by
  intro k
  induction k with
  | zero =>
    intro i hi
    have h1 : ¬ (i : Int) < (x0.length : Int) := by omega
    rw [R56_4, if_neg (by simpa using h1), drop_end x0 i (by omega), drop_end x1 i (by omega)]
    simp
  | succ k ih =>
    intro i hi
    have h1 : (i : Int) < (x0.length : Int) := by omega
    rw [R56_4, if_pos (by simpa using h1)]
    refine ⟨by omega, h1, by omega, by omega, ?_⟩
    simp only [Int.toNat_natCast]
    rw [drop_get x0 i (ByteArray.empty, (0 : Int), (0 : Int), ()) (by omega), drop_get x1 i (ByteArray.empty, (0 : Int), (0 : Int), ()) (by omega)]
    by_cases he : x0.getD i (ByteArray.empty, (0 : Int), (0 : Int), ()) = x1.getD i (ByteArray.empty, (0 : Int), (0 : Int), ())
    · have hd := (eqd111 _ _).2 he
      rw [if_neg (by rw [hd]; simp)]
      refine ⟨inR_up hm (by omega), ?_⟩
      have := ih (i + 1) (by omega)
      simp only [he, List.cons.injEq, true_and]
      exact this
    · have hd : g111_0 (x0.getD i (ByteArray.empty, (0 : Int), (0 : Int), ())) (x1.getD i (ByteArray.empty, (0 : Int), (0 : Int), ())) = false :=
        Bool.eq_false_iff.2 fun h => he ((eqd111 _ _).1 h)
      rw [if_pos (by rw [hd]; rfl)]
      simp only [he, List.cons.injEq, false_and, decide_false]
def g56_0 (x0 x1 : List TyB1) : Bool := decide (x0 = x1)
def P56 (x0 x1 : List TyB1) : Prop := True
def S56 : Am.Spec := { sig := sig56, pre := fun ⟨x0, x1, _⟩ => P56 x0 x1, res := fun ⟨x0, x1, _⟩ => [⟨Ty.bool, g56_0 x0 x1⟩] }
theorem con56 : Contract Tryz.prog 56 S56 := contract_of Tryz.func56 hb56 (Nat.le_of_ble_eq_true (by kernel_rfl)) (fun ⟨x0, x1, _⟩ h hwf K q => by
  refine (snd56 (x0.length + 2)).1 x0 x1 _ ?_ K q
  show R56 (x0.length + 1 + 1) x0 x1 [⟨Ty.bool, decide (x0 = x1)⟩]
  rw [R56]
  by_cases hl : x0.length = x1.length
  · rw [if_neg (by simp [hl])]
    have := eq56 x0 x1 hl hwf.1.1 x0.length 0 (by omega)
    simpa using this
  · rw [if_pos (by simp; omega)]
    have : x0 ≠ x1 := fun h => hl (by rw [h])
    simp [this])
end
end Go.Proofs.YtiddfgaccfnofaaGreatDoor
